/- The evaluator computes the plain functions, part 1. Written by a program. -/
import Derived.Test.YtdhgbgbdnifonaaFa
import Derived.Test.YtdhgbgbdnifonaaAw
import Derived.Test.YtdhgbgbdnifonaaEvZ
import Derived.KernelRfl
namespace Go.Proofs.Ytdhgbgbdnifonaa.Ev
set_option linter.unusedVariables false
set_option linter.unusedSimpArgs false
set_option maxRecDepth 100000
abbrev R0 : Row := (.one .bool)
abbrev R1 : Row := (.cons (.int .i64) (.cons (.int .i64) (.one (.sl (.cons (.int .i64) (.one (.int .i64)))))))
abbrev R2 : Row := (.cons (.int .i64) (.cons (.int .i64) (.cons (.int .i64) (.cons (.int .i64) (.cons (.int .i64) (.cons (.int .i64) (.one (.int .i64))))))))
abbrev R3 : Row := (.one (.int .i64))
abbrev R4 : Row := (.cons (.sl (.cons (.int .i64) (.cons (.int .i64) (.one (.sl (.cons (.int .i64) (.one (.int .i64)))))))) (.cons (.sl (.cons (.int .i64) (.cons (.int .i64) (.cons (.int .i64) (.cons (.int .i64) (.cons (.int .i64) (.cons (.int .i64) (.one (.int .i64))))))))) (.cons .str (.cons (.int .i64) (.cons (.int .i64) (.cons (.int .i64) (.cons (.int .i64) (.cons (.sl (.one (.int .i64))) (.cons (.sl (.one (.int .i64))) (.one (.int .i64)))))))))))
abbrev R5 : Row := (.cons (.int .i64) (.cons (.int .i64) (.cons (.int .i64) (.one (.int .i64)))))
abbrev R6 : Row := (.cons (.int .i64) (.one (.int .i64)))
abbrev R7 : Row := (.cons (.int .i64) (.one (.sl (.cons (.int .i64) (.one (.int .i64))))))
abbrev R8 : Row := (.one (.sl (.cons (.int .i64) (.cons (.int .i64) (.one (.sl (.cons (.int .i64) (.one (.int .i64)))))))))
abbrev R9 : Row := (.one (.sl (.cons (.int .i64) (.cons (.int .i64) (.cons (.int .i64) (.one (.sl (.cons (.int .i64) (.one (.int .i64))))))))))
abbrev R10 : Row := (.cons (.int .i64) (.cons (.int .i64) (.cons (.int .i64) (.one (.sl (.cons (.int .i64) (.one (.int .i64))))))))
abbrev R11 : Row := (.one (.sl (.one (.int .i64))))
abbrev R12 : Row := (.cons (.int .i64) (.cons (.int .i64) (.cons (.int .i64) (.cons (.int .i64) (.cons (.int .i64) (.one (.int .i64)))))))
abbrev R13 : Row := (.one (.sl (.cons (.int .i64) (.cons (.int .i64) (.cons (.int .i64) (.cons (.int .i64) (.cons (.int .i64) (.cons (.int .i64) (.one (.int .i64))))))))))
abbrev R14 : Row := (.one (.int .u8))
abbrev R15 : Row := (.one .str)
abbrev R16 : Row := (.cons .str (.cons (.int .i64) (.cons (.int .i64) (.cons (.int .i64) (.cons (.int .i64) (.cons (.sl (.one (.int .i64))) (.one (.sl (.one (.int .i64))))))))))
abbrev R17 : Row := (.one (.sl (.cons .str (.cons (.int .i64) (.cons (.int .i64) (.cons (.int .i64) (.cons (.int .i64) (.cons (.sl (.one (.int .i64))) (.one (.sl (.one (.int .i64))))))))))))
abbrev R18 : Row := (.cons (.sl (.cons (.int .i64) (.cons (.int .i64) (.cons (.int .i64) (.cons (.int .i64) (.cons (.int .i64) (.cons (.int .i64) (.one (.int .i64))))))))) (.cons .str (.cons (.int .i64) (.cons (.int .i64) (.cons (.int .i64) (.cons (.int .i64) (.cons (.sl (.one (.int .i64))) (.cons (.sl (.one (.int .i64))) (.cons (.int .i64) (.cons (.int .i64) (.cons (.int .i64) (.cons (.int .i64) (.cons (.int .i64) (.cons (.sl (.one (.int .i64))) (.one (.sl (.one (.int .i64))))))))))))))))))
abbrev R19 : Row := (.cons (.int .i64) (.cons (.int .i64) (.one (.int .i64))))
noncomputable def tl0 : List (Nat × Sp) := []
theorem tl0_ok (n : Nat) : CallOk Try.prog (tabF tl0 n) := tabF_nil _ n
/-! f14: sawmill/sawmilllaw20.Small -/
abbrev sg14 : Sig := [(false, R0)]
noncomputable def h14 : List (Nat × List Keep) := hintsOf keeps 14
theorem st14 : fnSt Try.f14 = true := by kernel_rfl
noncomputable def b14L4 : Code := sub [1, 1, 0, 1, 0, 0] (bodyOf Try.f14)
def f14L4S (a0 : List (Int × Int × List (Int × Int)) × List (Int × Int × Int × Int × Int × Int × Int) × ByteArray × Int × Int × Int × Int × List Int × List Int × Int) (v2 : Int) : Sx := ⟨(.node .undef (.node (.ptr 0 0) (.node (.int .i64 v2) .nil .nil) .nil) .nil), [(0, .box [(.imm R1 a0.1), (.imm R2 a0.2.1), (.str a0.2.2.1), (.int .i64 a0.2.2.2.1), (.int .i64 a0.2.2.2.2.1), (.int .i64 a0.2.2.2.2.2.1), (.int .i64 a0.2.2.2.2.2.2.1), (.imm R3 a0.2.2.2.2.2.2.2.1), (.imm R3 a0.2.2.2.2.2.2.2.2.1), (.int .i64 a0.2.2.2.2.2.2.2.2.2)])], [], 1⟩
def f14L4Xret (a0 : List (Int × Int × List (Int × Int)) × List (Int × Int × Int × Int × Int × Int × Int) × ByteArray × Int × Int × Int × Int × List Int × List Int × Int) : Sx := ⟨(.node .undef .nil (.node (.bool false) .nil .nil)), [], [], 0⟩
def f14L4X0 (a0 : List (Int × Int × List (Int × Int)) × List (Int × Int × Int × Int × Int × Int × Int) × ByteArray × Int × Int × Int × Int × List Int × List Int × Int) : Sx := ⟨.nil, [], [], 0⟩
noncomputable def f14L4N (n N m : Nat) (s : Sx) (k : Kont (Bool)) : Option (Bool) := loopN (get h14 12) (evCode (cx tl0 n) h14 N b14L4) m s k
theorem f14L4_ok (n N : Nat) (a0 : List (Int × Int × List (Int × Int)) × List (Int × Int × Int × Int × Int × Int × Int) × ByteArray × Int × Int × Int × Int × List Int × List Int × Int) : ∀ (m : Nat) (v2 : Int) (k : Kont (Bool)), f14L4N n N m (f14L4S a0 v2) k = f14L4 n a0 m v2 (k.r (f14L4Xret a0)) (k.x 0 (f14L4X0 a0)) := by
  intro m
  induction m with
  | zero => intros; rfl
  | succ m ih =>
    intro v2 k
    have h := (by kernel_rfl : f14L4N n N (m + 1) (f14L4S a0 v2) k = f14L4G n a0 v2 (fun v2 => f14L4N n N m (f14L4S a0 v2) k) (k.r (f14L4Xret a0)) (k.x 0 (f14L4X0 a0)))
    exact h.trans (congrArg (fun kc => f14L4G n a0 v2 kc (k.r (f14L4Xret a0)) (k.x 0 (f14L4X0 a0))) (funext fun v2 => ih v2 k))
theorem f14_ev_s1 (n N : Nat) (a0 : List (Int × Int × List (Int × Int)) × List (Int × Int × Int × Int × Int × Int × Int) × ByteArray × Int × Int × Int × Int × List Int × List Int × Int) : evT (cx tl0 n) h14 N Try.f14 sg14 [encV true R4 a0] = f14G n a0 (fun a0 v2 _ _ => f14L4N n N N (f14L4S a0 v2) (kAt (cx tl0 n) h14 N [1, 1, 0, 1, 0] (bodyOf Try.f14) (konT (cx tl0 n) Try.f14.results.toList sg14))) := by kernel_rfl
theorem f14_ev_s2 (n N : Nat) (a0 : List (Int × Int × List (Int × Int)) × List (Int × Int × Int × Int × Int × Int × Int) × ByteArray × Int × Int × Int × Int × List Int × List Int × Int) : f14G n a0 (fun a0 v2 _ _ => f14L4 n a0 N v2 ((kAt (cx tl0 n) h14 N [1, 1, 0, 1, 0] (bodyOf Try.f14) (konT (cx tl0 n) Try.f14.results.toList sg14)).r (f14L4Xret a0)) ((kAt (cx tl0 n) h14 N [1, 1, 0, 1, 0] (bodyOf Try.f14) (konT (cx tl0 n) Try.f14.results.toList sg14)).x 0 (f14L4X0 a0))) = f14G n a0 (fun a0 => f14L4 n a0 N) := by kernel_rfl
theorem f14_ev (n : Nat) (a0 : List (Int × Int × List (Int × Int)) × List (Int × Int × Int × Int × Int × Int × Int) × ByteArray × Int × Int × Int × Int × List Int × List Int × Int) : evT (cx tl0 n) h14 (n + 8) Try.f14 sg14 [encV true R4 a0] = f14 n a0 := by
  have h := (f14_ev_s1 n (n + 8) a0 : evT (cx tl0 n) h14 (n + 8) Try.f14 sg14 [encV true R4 a0] = f14G n a0 (fun a0 v2 _ _ => f14L4N n (n + 8) (n + 8) (f14L4S a0 v2) (kAt (cx tl0 n) h14 (n + 8) [1, 1, 0, 1, 0] (bodyOf Try.f14) (konT (cx tl0 n) Try.f14.results.toList sg14))))
  replace h := h.trans (congrArg (fun lp => f14G n a0 lp) (funext fun x0 => funext fun x1 => funext fun _ => funext fun _ => f14L4_ok n (n + 8) x0 (n + 8) x1 (kAt (cx tl0 n) h14 (n + 8) [1, 1, 0, 1, 0] (bodyOf Try.f14) (konT (cx tl0 n) Try.f14.results.toList sg14))))
  replace h := h.trans (f14_ev_s2 n (n + 8) a0 : f14G n a0 (fun a0 v2 _ _ => f14L4 n a0 (n + 8) v2 ((kAt (cx tl0 n) h14 (n + 8) [1, 1, 0, 1, 0] (bodyOf Try.f14) (konT (cx tl0 n) Try.f14.results.toList sg14)).r (f14L4Xret a0)) ((kAt (cx tl0 n) h14 (n + 8) [1, 1, 0, 1, 0] (bodyOf Try.f14) (konT (cx tl0 n) Try.f14.results.toList sg14)).x 0 (f14L4X0 a0))) = f14G n a0 (fun a0 => f14L4 n a0 (n + 8)))
  exact h
noncomputable def sp14 : Sp := fun n => dat1 true R4 fun a0 => dat0 (ansO sg14 (f14 n a0) false)
theorem sp14_ok {n : Nat} (h : CallOk Try.prog (tabF tl0 n)) : ∀ args r, sp14 n args = some (true, r) → FnOK Try.prog 14 args r := SpR.all (SpR.dat1 fun a0 => SpR.ansO fun y hy => fnT_ok (cx_ok h) (normal_ok _) Try.func14 (code_ok_of (cx_ok h) st14) ((f14_ev n a0).trans hy))
noncomputable def tl1 : List (Nat × Sp) := (14, sp14) :: tl0
theorem tl1_ok (n : Nat) : CallOk Try.prog (tabF tl1 n) := tabF_cons (tl0_ok n) (known_of Try.func14 (by decide +kernel) (by kernel_rfl)) (sp14_ok (tl0_ok n))
/-! f13: sawmill/sawmilllaw20.awake -/
abbrev sg13 : Sig := [(false, R0)]
noncomputable def sp13 : Sp := fun _ => dat0 (ansT sg13 true)
noncomputable def tl2 : List (Nat × Sp) := (13, sp13) :: tl1
theorem tl2_ok (n : Nat) : CallOk Try.prog (tabF tl2 n) := tabF_cons (tl1_ok n) (known_of Try.func13 (by decide +kernel) (by kernel_rfl)) (SpR.all (SpR.ansT given13))
/-! f32: sawmill/worth.across -/
abbrev sg32 : Sig := [(false, R0)]
noncomputable def h32 : List (Nat × List Keep) := hintsOf keeps 32
theorem st32 : fnSt Try.f32 = true := by kernel_rfl
theorem f32_ev (n : Nat) (a0 : Int × Int × Int × Int) : evT (cx tl2 n) h32 (n + 8) Try.f32 sg32 [encV true R5 a0] = some (f32 a0) := (by kernel_rfl : evT (cx tl2 n) h32 (n + 8) Try.f32 sg32 [encV true R5 a0] = f32O a0).trans (f32_o a0)
noncomputable def sp32 : Sp := fun n => dat1 true R5 fun a0 => dat0 (ansT sg32 (f32 a0))
theorem sp32_ok {n : Nat} (h : CallOk Try.prog (tabF tl2 n)) : ∀ args r, sp32 n args = some (true, r) → FnOK Try.prog 32 args r := SpR.all (SpR.dat1 fun a0 => SpR.ansT (fnT_ok (cx_ok h) (normal_ok _) Try.func32 (code_ok_of (cx_ok h) st32) (f32_ev n a0)))
noncomputable def tl3 : List (Nat × Sp) := (32, sp32) :: tl2
theorem tl3_ok (n : Nat) : CallOk Try.prog (tabF tl3 n) := tabF_cons (tl2_ok n) (known_of Try.func32 (by decide +kernel) (by kernel_rfl)) (sp32_ok (tl2_ok n))
/-! f58: sawmill/section.outside -/
abbrev sg58 : Sig := [(false, R0)]
noncomputable def h58 : List (Nat × List Keep) := hintsOf keeps 58
theorem st58 : fnSt Try.f58 = true := by kernel_rfl
theorem f58_ev (n : Nat) (a0 : Int × Int) : evT (cx tl3 n) h58 (n + 8) Try.f58 sg58 [encV true R6 a0] = some (f58 a0) := (by kernel_rfl : evT (cx tl3 n) h58 (n + 8) Try.f58 sg58 [encV true R6 a0] = f58O a0).trans (f58_o a0)
noncomputable def sp58 : Sp := fun n => dat1 true R6 fun a0 => dat0 (ansT sg58 (f58 a0))
theorem sp58_ok {n : Nat} (h : CallOk Try.prog (tabF tl3 n)) : ∀ args r, sp58 n args = some (true, r) → FnOK Try.prog 58 args r := SpR.all (SpR.dat1 fun a0 => SpR.ansT (fnT_ok (cx_ok h) (normal_ok _) Try.func58 (code_ok_of (cx_ok h) st58) (f58_ev n a0)))
noncomputable def tl4 : List (Nat × Sp) := (58, sp58) :: tl3
theorem tl4_ok (n : Nat) : CallOk Try.prog (tabF tl4 n) := tabF_cons (tl3_ok n) (known_of Try.func58 (by decide +kernel) (by kernel_rfl)) (sp58_ok (tl3_ok n))
/-! f59: sawmill/section.empty -/
abbrev sg59 : Sig := [(false, R0)]
noncomputable def h59 : List (Nat × List Keep) := hintsOf keeps 59
theorem st59 : fnSt Try.f59 = true := by kernel_rfl
theorem f59_ev (n : Nat) (a0 : Int × Int) : evT (cx tl4 n) h59 (n + 8) Try.f59 sg59 [encV true R6 a0] = some (f59 a0) := (by kernel_rfl : evT (cx tl4 n) h59 (n + 8) Try.f59 sg59 [encV true R6 a0] = f59O a0).trans (f59_o a0)
noncomputable def sp59 : Sp := fun n => dat1 true R6 fun a0 => dat0 (ansT sg59 (f59 a0))
theorem sp59_ok {n : Nat} (h : CallOk Try.prog (tabF tl4 n)) : ∀ args r, sp59 n args = some (true, r) → FnOK Try.prog 59 args r := SpR.all (SpR.dat1 fun a0 => SpR.ansT (fnT_ok (cx_ok h) (normal_ok _) Try.func59 (code_ok_of (cx_ok h) st59) (f59_ev n a0)))
noncomputable def tl5 : List (Nat × Sp) := (59, sp59) :: tl4
theorem tl5_ok (n : Nat) : CallOk Try.prog (tabF tl5 n) := tabF_cons (tl4_ok n) (known_of Try.func59 (by decide +kernel) (by kernel_rfl)) (sp59_ok (tl4_ok n))
/-! f43: sawmill/section.Check -/
abbrev sg43 : Sig := [(false, R3)]
noncomputable def h43 : List (Nat × List Keep) := hintsOf keeps 43
theorem st43 : fnSt Try.f43 = true := by kernel_rfl
noncomputable def b43L7 : Code := sub [1, 1, 1, 1, 0, 1, 0, 0] (bodyOf Try.f43)
def f43L7S (a0 : Int × List (Int × Int)) (v4 : Int) : Sx := ⟨(.node .undef (.node (.ptr 0 0) (.node (.int .i64 (a0.2.length : Int)) .nil .nil) (.node .undef (.node .undef .nil (.node (.int .i64 (a0.2.length : Int)) .nil .nil)) .nil)) (.node .undef (.node .undef (.node .undef .nil (.node (.imm R6 a0.2) .nil .nil)) .nil) (.node .undef (.node .undef .nil (.node (.int .i64 v4) .nil .nil)) .nil))), [(0, .box [(.int .i64 a0.1), (.imm R6 a0.2)])], [], 1⟩
def f43L7Xret (a0 : Int × List (Int × Int)) : Sx := ⟨(.node .undef .nil (.node (.int .i64 9) .nil .nil)), [], [], 0⟩
def f43L7X0 (a0 : Int × List (Int × Int)) : Sx := ⟨(.node .undef (.node (.ptr 0 0) (.node (.int .i64 (a0.2.length : Int)) .nil .nil) .nil) .nil), [(0, .box [(.int .i64 a0.1), (.imm R6 a0.2)])], [], 1⟩
noncomputable def f43L7N (n N m : Nat) (s : Sx) (k : Kont (Int)) : Option (Int) := loopN (get h43 21) (evCode (cx tl5 n) h43 N b43L7) m s k
theorem f43L7_ok (n N : Nat) (a0 : Int × List (Int × Int)) : ∀ (m : Nat) (v4 : Int) (k : Kont (Int)), f43L7N n N m (f43L7S a0 v4) k = f43L7 n a0 m v4 (k.r (f43L7Xret a0)) (k.x 0 (f43L7X0 a0)) := by
  intro m
  induction m with
  | zero => intros; rfl
  | succ m ih =>
    intro v4 k
    have h := (by kernel_rfl : f43L7N n N (m + 1) (f43L7S a0 v4) k = f43L7G n a0 v4 (fun v4 => f43L7N n N m (f43L7S a0 v4) k) (k.r (f43L7Xret a0)) (k.x 0 (f43L7X0 a0)))
    exact h.trans (congrArg (fun kc => f43L7G n a0 v4 kc (k.r (f43L7Xret a0)) (k.x 0 (f43L7X0 a0))) (funext fun v4 => ih v4 k))
noncomputable def b43L19 : Code := sub [1, 1, 1, 1, 1, 1, 1, 0, 1, 0, 0] (bodyOf Try.f43)
def f43L19S (a0 : Int × List (Int × Int)) (v15 : Int) : Sx := ⟨(.node .undef (.node .undef (.node .undef (.node .undef .nil (.node .undef .nil (.node (.int .i64 v15) .nil .nil))) .nil) (.node .undef .nil (.node .undef (.node .undef .nil (.node (.imm R6 a0.2) .nil .nil)) .nil))) (.node .undef .nil (.node .undef .nil (.node .undef (.node .undef .nil (.node (.int .i64 (a0.2.length : Int)) .nil .nil)) .nil)))), [], [], 0⟩
def f43L19Xret (a0 : Int × List (Int × Int)) : Sx := ⟨(.node .undef .nil (.node (.int .i64 19) .nil .nil)), [], [], 0⟩
def f43L19X2 (a0 : Int × List (Int × Int)) : Sx := ⟨.nil, [], [], 0⟩
noncomputable def f43L19N (n N m : Nat) (s : Sx) (k : Kont (Int)) : Option (Int) := loopN (get h43 57) (evCode (cx tl5 n) h43 N b43L19) m s k
theorem f43L19_ok (n N : Nat) (a0 : Int × List (Int × Int)) : ∀ (m : Nat) (v15 : Int) (k : Kont (Int)), f43L19N n N m (f43L19S a0 v15) k = f43L19 n a0 m v15 (k.r (f43L19Xret a0)) (k.x 2 (f43L19X2 a0)) := by
  intro m
  induction m with
  | zero => intros; rfl
  | succ m ih =>
    intro v15 k
    have h := (by kernel_rfl : f43L19N n N (m + 1) (f43L19S a0 v15) k = f43L19G n a0 v15 (fun v15 => f43L19N n N m (f43L19S a0 v15) k) (k.r (f43L19Xret a0)) (k.x 2 (f43L19X2 a0)))
    exact h.trans (congrArg (fun kc => f43L19G n a0 v15 kc (k.r (f43L19Xret a0)) (k.x 2 (f43L19X2 a0))) (funext fun v15 => ih v15 k))
theorem f43_ev_s1 (n N : Nat) (a0 : Int × List (Int × Int)) : evT (cx tl5 n) h43 N Try.f43 sg43 [encV true R7 a0] = f43G n a0 (fun a0 v4 _ _ => f43L7N n N N (f43L7S a0 v4) (kAt (cx tl5 n) h43 N [1, 1, 1, 1, 0, 1, 0] (bodyOf Try.f43) (konT (cx tl5 n) Try.f43.results.toList sg43))) (fun a0 v15 _ _ => f43L19N n N N (f43L19S a0 v15) (kAt (cx tl5 n) h43 N [1, 1, 1, 1, 1, 1, 1, 0, 1, 0] (bodyOf Try.f43) (konT (cx tl5 n) Try.f43.results.toList sg43))) := by kernel_rfl
theorem f43_ev_s2 (n N : Nat) (a0 : Int × List (Int × Int)) : f43G n a0 (fun a0 v4 _ _ => f43L7 n a0 N v4 ((kAt (cx tl5 n) h43 N [1, 1, 1, 1, 0, 1, 0] (bodyOf Try.f43) (konT (cx tl5 n) Try.f43.results.toList sg43)).r (f43L7Xret a0)) ((kAt (cx tl5 n) h43 N [1, 1, 1, 1, 0, 1, 0] (bodyOf Try.f43) (konT (cx tl5 n) Try.f43.results.toList sg43)).x 0 (f43L7X0 a0))) (fun a0 v15 _ _ => f43L19N n N N (f43L19S a0 v15) (kAt (cx tl5 n) h43 N [1, 1, 1, 1, 1, 1, 1, 0, 1, 0] (bodyOf Try.f43) (konT (cx tl5 n) Try.f43.results.toList sg43))) = f43G n a0 (fun a0 => f43L7 n a0 N) (fun a0 v15 _ _ => f43L19N n N N (f43L19S a0 v15) (kAt (cx tl5 n) h43 N [1, 1, 1, 1, 1, 1, 1, 0, 1, 0] (bodyOf Try.f43) (konT (cx tl5 n) Try.f43.results.toList sg43))) := by kernel_rfl
theorem f43_ev_s3 (n N : Nat) (a0 : Int × List (Int × Int)) : f43G n a0 (fun a0 => f43L7 n a0 N) (fun a0 v15 _ _ => f43L19 n a0 N v15 ((kAt (cx tl5 n) h43 N [1, 1, 1, 1, 1, 1, 1, 0, 1, 0] (bodyOf Try.f43) (konT (cx tl5 n) Try.f43.results.toList sg43)).r (f43L19Xret a0)) ((kAt (cx tl5 n) h43 N [1, 1, 1, 1, 1, 1, 1, 0, 1, 0] (bodyOf Try.f43) (konT (cx tl5 n) Try.f43.results.toList sg43)).x 2 (f43L19X2 a0))) = f43G n a0 (fun a0 => f43L7 n a0 N) (fun a0 => f43L19 n a0 N) := by kernel_rfl
theorem f43_ev (n : Nat) (a0 : Int × List (Int × Int)) : evT (cx tl5 n) h43 (n + 8) Try.f43 sg43 [encV true R7 a0] = f43 n a0 := by
  have h := (f43_ev_s1 n (n + 8) a0 : evT (cx tl5 n) h43 (n + 8) Try.f43 sg43 [encV true R7 a0] = f43G n a0 (fun a0 v4 _ _ => f43L7N n (n + 8) (n + 8) (f43L7S a0 v4) (kAt (cx tl5 n) h43 (n + 8) [1, 1, 1, 1, 0, 1, 0] (bodyOf Try.f43) (konT (cx tl5 n) Try.f43.results.toList sg43))) (fun a0 v15 _ _ => f43L19N n (n + 8) (n + 8) (f43L19S a0 v15) (kAt (cx tl5 n) h43 (n + 8) [1, 1, 1, 1, 1, 1, 1, 0, 1, 0] (bodyOf Try.f43) (konT (cx tl5 n) Try.f43.results.toList sg43))))
  replace h := h.trans (congrArg (fun lp => f43G n a0 lp (fun a0 v15 _ _ => f43L19N n (n + 8) (n + 8) (f43L19S a0 v15) (kAt (cx tl5 n) h43 (n + 8) [1, 1, 1, 1, 1, 1, 1, 0, 1, 0] (bodyOf Try.f43) (konT (cx tl5 n) Try.f43.results.toList sg43)))) (funext fun x0 => funext fun x1 => funext fun _ => funext fun _ => f43L7_ok n (n + 8) x0 (n + 8) x1 (kAt (cx tl5 n) h43 (n + 8) [1, 1, 1, 1, 0, 1, 0] (bodyOf Try.f43) (konT (cx tl5 n) Try.f43.results.toList sg43))))
  replace h := h.trans (f43_ev_s2 n (n + 8) a0 : f43G n a0 (fun a0 v4 _ _ => f43L7 n a0 (n + 8) v4 ((kAt (cx tl5 n) h43 (n + 8) [1, 1, 1, 1, 0, 1, 0] (bodyOf Try.f43) (konT (cx tl5 n) Try.f43.results.toList sg43)).r (f43L7Xret a0)) ((kAt (cx tl5 n) h43 (n + 8) [1, 1, 1, 1, 0, 1, 0] (bodyOf Try.f43) (konT (cx tl5 n) Try.f43.results.toList sg43)).x 0 (f43L7X0 a0))) (fun a0 v15 _ _ => f43L19N n (n + 8) (n + 8) (f43L19S a0 v15) (kAt (cx tl5 n) h43 (n + 8) [1, 1, 1, 1, 1, 1, 1, 0, 1, 0] (bodyOf Try.f43) (konT (cx tl5 n) Try.f43.results.toList sg43))) = f43G n a0 (fun a0 => f43L7 n a0 (n + 8)) (fun a0 v15 _ _ => f43L19N n (n + 8) (n + 8) (f43L19S a0 v15) (kAt (cx tl5 n) h43 (n + 8) [1, 1, 1, 1, 1, 1, 1, 0, 1, 0] (bodyOf Try.f43) (konT (cx tl5 n) Try.f43.results.toList sg43))))
  replace h := h.trans (congrArg (fun lp => f43G n a0 (fun a0 => f43L7 n a0 (n + 8)) lp) (funext fun x0 => funext fun x1 => funext fun _ => funext fun _ => f43L19_ok n (n + 8) x0 (n + 8) x1 (kAt (cx tl5 n) h43 (n + 8) [1, 1, 1, 1, 1, 1, 1, 0, 1, 0] (bodyOf Try.f43) (konT (cx tl5 n) Try.f43.results.toList sg43))))
  replace h := h.trans (f43_ev_s3 n (n + 8) a0 : f43G n a0 (fun a0 => f43L7 n a0 (n + 8)) (fun a0 v15 _ _ => f43L19 n a0 (n + 8) v15 ((kAt (cx tl5 n) h43 (n + 8) [1, 1, 1, 1, 1, 1, 1, 0, 1, 0] (bodyOf Try.f43) (konT (cx tl5 n) Try.f43.results.toList sg43)).r (f43L19Xret a0)) ((kAt (cx tl5 n) h43 (n + 8) [1, 1, 1, 1, 1, 1, 1, 0, 1, 0] (bodyOf Try.f43) (konT (cx tl5 n) Try.f43.results.toList sg43)).x 2 (f43L19X2 a0))) = f43G n a0 (fun a0 => f43L7 n a0 (n + 8)) (fun a0 => f43L19 n a0 (n + 8)))
  exact h
noncomputable def sp43 : Sp := fun n => dat1 true R7 fun a0 => dat0 (ansO sg43 (f43 n a0) (0 : Int))
theorem sp43_ok {n : Nat} (h : CallOk Try.prog (tabF tl5 n)) : ∀ args r, sp43 n args = some (true, r) → FnOK Try.prog 43 args r := SpR.all (SpR.dat1 fun a0 => SpR.ansO fun y hy => fnT_ok (cx_ok h) (normal_ok _) Try.func43 (code_ok_of (cx_ok h) st43) ((f43_ev n a0).trans hy))
noncomputable def tl6 : List (Nat × Sp) := (43, sp43) :: tl5
theorem tl6_ok (n : Nat) : CallOk Try.prog (tabF tl6 n) := tabF_cons (tl5_ok n) (known_of Try.func43 (by decide +kernel) (by kernel_rfl)) (sp43_ok (tl5_ok n))
/-! f25: sawmill/solid.Check -/
abbrev sg25 : Sig := [(false, R3)]
noncomputable def h25 : List (Nat × List Keep) := hintsOf keeps 25
theorem st25 : fnSt Try.f25 = true := by kernel_rfl
noncomputable def b25L7 : Code := sub [1, 1, 1, 1, 0, 1, 0, 0] (bodyOf Try.f25)
def f25L7S (a0 : List (Int × Int × List (Int × Int))) (v5 : Int) (v6 : Int) : Sx := ⟨(.node .undef (.node .undef (.node (.int .i64 v5) (.node .undef (.node (.int .i64 v6) .nil .nil) .nil) .nil) (.node .undef .nil (.node (.imm R1 a0) .nil .nil))) (.node .undef .nil (.node .undef .nil (.node (.int .i64 (a0.length : Int)) .nil .nil)))), [], [], 0⟩
def f25L7Xret (a0 : List (Int × Int × List (Int × Int))) (v12 : Int) : Sx := ⟨(.node .undef .nil (.node (.int .i64 v12) .nil .nil)), [], [], 0⟩
def f25L7X0 (a0 : List (Int × Int × List (Int × Int))) : Sx := ⟨.nil, [], [], 0⟩
noncomputable def f25L7N (n N m : Nat) (s : Sx) (k : Kont (Int)) : Option (Int) := loopN (get h25 21) (evCode (cx tl6 n) h25 N b25L7) m s k
theorem f25L7_ok (n N : Nat) (a0 : List (Int × Int × List (Int × Int))) : ∀ (m : Nat) (v5 : Int) (v6 : Int) (k : Kont (Int)), f25L7N n N m (f25L7S a0 v5 v6) k = f25L7 n a0 m v5 v6 (fun v12 => k.r (f25L7Xret a0 v12)) (k.x 0 (f25L7X0 a0)) := by
  intro m
  induction m with
  | zero => intros; rfl
  | succ m ih =>
    intro v5 v6 k
    have h := (by kernel_rfl : f25L7N n N (m + 1) (f25L7S a0 v5 v6) k = f25L7G n a0 v5 v6 (fun v5 v6 => f25L7N n N m (f25L7S a0 v5 v6) k) (fun v12 => k.r (f25L7Xret a0 v12)) (k.x 0 (f25L7X0 a0)))
    exact h.trans (congrArg (fun kc => f25L7G n a0 v5 v6 kc (fun v12 => k.r (f25L7Xret a0 v12)) (k.x 0 (f25L7X0 a0))) (funext fun v5 => funext fun v6 => ih v5 v6 k))
theorem f25_ev_s1 (n N : Nat) (a0 : List (Int × Int × List (Int × Int))) : evT (cx tl6 n) h25 N Try.f25 sg25 [encV false R8 a0] = f25G n a0 (fun a0 v5 v6 _ _ => f25L7N n N N (f25L7S a0 v5 v6) (kAt (cx tl6 n) h25 N [1, 1, 1, 1, 0, 1, 0] (bodyOf Try.f25) (konT (cx tl6 n) Try.f25.results.toList sg25))) := by kernel_rfl
theorem f25_ev_s2 (n N : Nat) (a0 : List (Int × Int × List (Int × Int))) : f25G n a0 (fun a0 v5 v6 _ _ => f25L7 n a0 N v5 v6 (fun v12 => (kAt (cx tl6 n) h25 N [1, 1, 1, 1, 0, 1, 0] (bodyOf Try.f25) (konT (cx tl6 n) Try.f25.results.toList sg25)).r (f25L7Xret a0 v12)) ((kAt (cx tl6 n) h25 N [1, 1, 1, 1, 0, 1, 0] (bodyOf Try.f25) (konT (cx tl6 n) Try.f25.results.toList sg25)).x 0 (f25L7X0 a0))) = f25G n a0 (fun a0 => f25L7 n a0 N) := by kernel_rfl
theorem f25_ev (n : Nat) (a0 : List (Int × Int × List (Int × Int))) : evT (cx tl6 n) h25 (n + 8) Try.f25 sg25 [encV false R8 a0] = f25 n a0 := by
  have h := (f25_ev_s1 n (n + 8) a0 : evT (cx tl6 n) h25 (n + 8) Try.f25 sg25 [encV false R8 a0] = f25G n a0 (fun a0 v5 v6 _ _ => f25L7N n (n + 8) (n + 8) (f25L7S a0 v5 v6) (kAt (cx tl6 n) h25 (n + 8) [1, 1, 1, 1, 0, 1, 0] (bodyOf Try.f25) (konT (cx tl6 n) Try.f25.results.toList sg25))))
  replace h := h.trans (congrArg (fun lp => f25G n a0 lp) (funext fun x0 => funext fun x1 => funext fun x2 => funext fun _ => funext fun _ => f25L7_ok n (n + 8) x0 (n + 8) x1 x2 (kAt (cx tl6 n) h25 (n + 8) [1, 1, 1, 1, 0, 1, 0] (bodyOf Try.f25) (konT (cx tl6 n) Try.f25.results.toList sg25))))
  replace h := h.trans (f25_ev_s2 n (n + 8) a0 : f25G n a0 (fun a0 v5 v6 _ _ => f25L7 n a0 (n + 8) v5 v6 (fun v12 => (kAt (cx tl6 n) h25 (n + 8) [1, 1, 1, 1, 0, 1, 0] (bodyOf Try.f25) (konT (cx tl6 n) Try.f25.results.toList sg25)).r (f25L7Xret a0 v12)) ((kAt (cx tl6 n) h25 (n + 8) [1, 1, 1, 1, 0, 1, 0] (bodyOf Try.f25) (konT (cx tl6 n) Try.f25.results.toList sg25)).x 0 (f25L7X0 a0))) = f25G n a0 (fun a0 => f25L7 n a0 (n + 8)))
  exact h
noncomputable def sp25 : Sp := fun n => dat1 false R8 fun a0 => dat0 (ansO sg25 (f25 n a0) (0 : Int))
theorem sp25_ok {n : Nat} (h : CallOk Try.prog (tabF tl6 n)) : ∀ args r, sp25 n args = some (true, r) → FnOK Try.prog 25 args r := SpR.all (SpR.dat1 fun a0 => SpR.ansO fun y hy => fnT_ok (cx_ok h) (normal_ok _) Try.func25 (code_ok_of (cx_ok h) st25) ((f25_ev n a0).trans hy))
noncomputable def tl7 : List (Nat × Sp) := (25, sp25) :: tl6
theorem tl7_ok (n : Nat) : CallOk Try.prog (tabF tl7 n) := tabF_cons (tl6_ok n) (known_of Try.func25 (by decide +kernel) (by kernel_rfl)) (sp25_ok (tl6_ok n))
/-! f45: sawmill/solid.whole -/
abbrev sg45 : Sig := [(true, R6)]
noncomputable def h45 : List (Nat × List Keep) := hintsOf keeps 45
theorem st45 : fnSt Try.f45 = true := by kernel_rfl
theorem f45_ev (n : Nat) : evT (cx tl7 n) h45 (n + 8) Try.f45 sg45 [] = some (f45) := (by kernel_rfl : evT (cx tl7 n) h45 (n + 8) Try.f45 sg45 [] = f45O).trans (f45_o)
noncomputable def sp45 : Sp := fun n => dat0 (ansT sg45 (f45))
theorem sp45_ok {n : Nat} (h : CallOk Try.prog (tabF tl7 n)) : ∀ args r, sp45 n args = some (true, r) → FnOK Try.prog 45 args r := SpR.all (SpR.ansT (fnT_ok (cx_ok h) (normal_ok _) Try.func45 (code_ok_of (cx_ok h) st45) (f45_ev n)))
noncomputable def tl8 : List (Nat × Sp) := (45, sp45) :: tl7
theorem tl8_ok (n : Nat) : CallOk Try.prog (tabF tl8 n) := tabF_cons (tl7_ok n) (known_of Try.func45 (by decide +kernel) (by kernel_rfl)) (sp45_ok (tl7_ok n))
/-! f78: sawmill/span.empty -/
abbrev sg78 : Sig := [(false, R0)]
noncomputable def h78 : List (Nat × List Keep) := hintsOf keeps 78
theorem st78 : fnSt Try.f78 = true := by kernel_rfl
theorem f78_ev (n : Nat) (a0 : Int × Int) : evT (cx tl8 n) h78 (n + 8) Try.f78 sg78 [encV true R6 a0] = some (f78 a0) := (by kernel_rfl : evT (cx tl8 n) h78 (n + 8) Try.f78 sg78 [encV true R6 a0] = f78O a0).trans (f78_o a0)
noncomputable def sp78 : Sp := fun n => dat1 true R6 fun a0 => dat0 (ansT sg78 (f78 a0))
theorem sp78_ok {n : Nat} (h : CallOk Try.prog (tabF tl8 n)) : ∀ args r, sp78 n args = some (true, r) → FnOK Try.prog 78 args r := SpR.all (SpR.dat1 fun a0 => SpR.ansT (fnT_ok (cx_ok h) (normal_ok _) Try.func78 (code_ok_of (cx_ok h) st78) (f78_ev n a0)))
noncomputable def tl9 : List (Nat × Sp) := (78, sp78) :: tl8
theorem tl9_ok (n : Nat) : CallOk Try.prog (tabF tl9 n) := tabF_cons (tl8_ok n) (known_of Try.func78 (by decide +kernel) (by kernel_rfl)) (sp78_ok (tl8_ok n))
/-! f60: sawmill/span.Meet -/
abbrev sg60 : Sig := [(true, R6)]
noncomputable def h60 : List (Nat × List Keep) := hintsOf keeps 60
theorem st60 : fnSt Try.f60 = true := by kernel_rfl
theorem f60_ev (n : Nat) (a0 : Int × Int) (a1 : Int × Int) : evT (cx tl9 n) h60 (n + 8) Try.f60 sg60 [encV true R6 a0, encV true R6 a1] = some (f60 a0 a1) := (by kernel_rfl : evT (cx tl9 n) h60 (n + 8) Try.f60 sg60 [encV true R6 a0, encV true R6 a1] = f60O a0 a1).trans (f60_o a0 a1)
noncomputable def sp60 : Sp := fun n => dat1 true R6 fun a0 => dat1 true R6 fun a1 => dat0 (ansT sg60 (f60 a0 a1))
theorem sp60_ok {n : Nat} (h : CallOk Try.prog (tabF tl9 n)) : ∀ args r, sp60 n args = some (true, r) → FnOK Try.prog 60 args r := SpR.all (SpR.dat1 fun a0 => SpR.dat1 fun a1 => SpR.ansT (fnT_ok (cx_ok h) (normal_ok _) Try.func60 (code_ok_of (cx_ok h) st60) (f60_ev n a0 a1)))
noncomputable def tl10 : List (Nat × Sp) := (60, sp60) :: tl9
theorem tl10_ok (n : Nat) : CallOk Try.prog (tabF tl10 n) := tabF_cons (tl9_ok n) (known_of Try.func60 (by decide +kernel) (by kernel_rfl)) (sp60_ok (tl9_ok n))
/-! f44: sawmill/solid.parts -/
abbrev sg44 : Sig := [(false, R9)]
noncomputable def h44 : List (Nat × List Keep) := hintsOf keeps 44
theorem st44 : fnSt Try.f44 = true := by kernel_rfl
noncomputable def b44L6 : Code := sub [1, 1, 1, 1, 0, 1, 0, 0] (bodyOf Try.f44)
def f44L6S (a0 : List (Int × Int × List (Int × Int))) (a1 : Int × Int) (v9 : Int) (v10 : Int) (v11 : List (Int × Int × Int × List (Int × Int))) : Sx := ⟨(.node .undef (.node .undef (.node (.ptr 0 0) (.node .undef (.node (.int .i64 v10) .nil .nil) .nil) .nil) (.node (.own 1) .nil (.node (.imm R1 a0) .nil .nil))) (.node .undef .nil (.node (.int .i64 v9) .nil (.node (.int .i64 (a0.length : Int)) .nil .nil)))), [(0, .box [(.int .i64 a1.1), (.int .i64 a1.2)]), (1, .row R10 v11)], [1], 2⟩
def f44L6X0 (a0 : List (Int × Int × List (Int × Int))) (a1 : Int × Int) (v20 : List (Int × Int × Int × List (Int × Int))) : Sx := ⟨(.node .undef (.node .undef .nil (.node (.own 0) .nil .nil)) .nil), [(0, .row R10 v20)], [0], 1⟩
noncomputable def f44L6N (n N m : Nat) (s : Sx) (k : Kont (List (Int × Int × Int × List (Int × Int)))) : Option (List (Int × Int × Int × List (Int × Int))) := loopN (get h44 18) (evCode (cx tl10 n) h44 N b44L6) m s k
theorem f44L6_ok (n N : Nat) (a0 : List (Int × Int × List (Int × Int))) (a1 : Int × Int) : ∀ (m : Nat) (v9 : Int) (v10 : Int) (v11 : List (Int × Int × Int × List (Int × Int))) (k : Kont (List (Int × Int × Int × List (Int × Int)))), f44L6N n N m (f44L6S a0 a1 v9 v10 v11) k = f44L6 n a0 a1 m v9 v10 v11 (fun v20 => k.x 0 (f44L6X0 a0 a1 v20)) := by
  intro m
  induction m with
  | zero => intros; rfl
  | succ m ih =>
    intro v9 v10 v11 k
    have h := (by kernel_rfl : f44L6N n N (m + 1) (f44L6S a0 a1 v9 v10 v11) k = f44L6G n a0 a1 v9 v10 v11 (fun v9 v10 v11 => f44L6N n N m (f44L6S a0 a1 v9 v10 v11) k) (fun v20 => k.x 0 (f44L6X0 a0 a1 v20)))
    exact h.trans (congrArg (fun kc => f44L6G n a0 a1 v9 v10 v11 kc (fun v20 => k.x 0 (f44L6X0 a0 a1 v20))) (funext fun v9 => funext fun v10 => funext fun v11 => ih v9 v10 v11 k))
theorem f44_ev_s1 (n N : Nat) (a0 : List (Int × Int × List (Int × Int))) (a1 : Int × Int) : evT (cx tl10 n) h44 N Try.f44 sg44 [encV false R8 a0, encV true R6 a1] = f44G n a0 a1 (fun a0 a1 v9 v10 v11 _ => f44L6N n N N (f44L6S a0 a1 v9 v10 v11) (kAt (cx tl10 n) h44 N [1, 1, 1, 1, 0, 1, 0] (bodyOf Try.f44) (konT (cx tl10 n) Try.f44.results.toList sg44))) := by kernel_rfl
theorem f44_ev_s2 (n N : Nat) (a0 : List (Int × Int × List (Int × Int))) (a1 : Int × Int) : f44G n a0 a1 (fun a0 a1 v9 v10 v11 _ => f44L6 n a0 a1 N v9 v10 v11 (fun v20 => (kAt (cx tl10 n) h44 N [1, 1, 1, 1, 0, 1, 0] (bodyOf Try.f44) (konT (cx tl10 n) Try.f44.results.toList sg44)).x 0 (f44L6X0 a0 a1 v20))) = f44G n a0 a1 (fun a0 a1 => f44L6 n a0 a1 N) := by kernel_rfl
theorem f44_ev (n : Nat) (a0 : List (Int × Int × List (Int × Int))) (a1 : Int × Int) : evT (cx tl10 n) h44 (n + 8) Try.f44 sg44 [encV false R8 a0, encV true R6 a1] = f44 n a0 a1 := by
  have h := (f44_ev_s1 n (n + 8) a0 a1 : evT (cx tl10 n) h44 (n + 8) Try.f44 sg44 [encV false R8 a0, encV true R6 a1] = f44G n a0 a1 (fun a0 a1 v9 v10 v11 _ => f44L6N n (n + 8) (n + 8) (f44L6S a0 a1 v9 v10 v11) (kAt (cx tl10 n) h44 (n + 8) [1, 1, 1, 1, 0, 1, 0] (bodyOf Try.f44) (konT (cx tl10 n) Try.f44.results.toList sg44))))
  replace h := h.trans (congrArg (fun lp => f44G n a0 a1 lp) (funext fun x0 => funext fun x1 => funext fun x2 => funext fun x3 => funext fun x4 => funext fun _ => f44L6_ok n (n + 8) x0 x1 (n + 8) x2 x3 x4 (kAt (cx tl10 n) h44 (n + 8) [1, 1, 1, 1, 0, 1, 0] (bodyOf Try.f44) (konT (cx tl10 n) Try.f44.results.toList sg44))))
  replace h := h.trans (f44_ev_s2 n (n + 8) a0 a1 : f44G n a0 a1 (fun a0 a1 v9 v10 v11 _ => f44L6 n a0 a1 (n + 8) v9 v10 v11 (fun v20 => (kAt (cx tl10 n) h44 (n + 8) [1, 1, 1, 1, 0, 1, 0] (bodyOf Try.f44) (konT (cx tl10 n) Try.f44.results.toList sg44)).x 0 (f44L6X0 a0 a1 v20))) = f44G n a0 a1 (fun a0 a1 => f44L6 n a0 a1 (n + 8)))
  exact h
noncomputable def sp44 : Sp := fun n => dat1 false R8 fun a0 => dat1 true R6 fun a1 => dat0 (ansO sg44 (f44 n a0 a1) [])
theorem sp44_ok {n : Nat} (h : CallOk Try.prog (tabF tl10 n)) : ∀ args r, sp44 n args = some (true, r) → FnOK Try.prog 44 args r := SpR.all (SpR.dat1 fun a0 => SpR.dat1 fun a1 => SpR.ansO fun y hy => fnT_ok (cx_ok h) (normal_ok _) Try.func44 (code_ok_of (cx_ok h) st44) ((f44_ev n a0 a1).trans hy))
noncomputable def tl11 : List (Nat × Sp) := (44, sp44) :: tl10
theorem tl11_ok (n : Nat) : CallOk Try.prog (tabF tl11 n) := tabF_cons (tl10_ok n) (known_of Try.func44 (by decide +kernel) (by kernel_rfl)) (sp44_ok (tl10_ok n))
/-! f27: sawmill/solid.Length -/
abbrev sg27 : Sig := [(false, R3)]
noncomputable def h27 : List (Nat × List Keep) := hintsOf keeps 27
theorem st27 : fnSt Try.f27 = true := by kernel_rfl
theorem f27_ev (n : Nat) (a0 : List (Int × Int × List (Int × Int))) : evT (cx tl11 n) h27 (n + 8) Try.f27 sg27 [encV false R8 a0] = f27 n a0 := by
  have h := (by kernel_rfl : evT (cx tl11 n) h27 (n + 8) Try.f27 sg27 [encV false R8 a0] = f27G n a0)
  exact h
noncomputable def sp27 : Sp := fun n => dat1 false R8 fun a0 => dat0 (ansO sg27 (f27 n a0) (0 : Int))
theorem sp27_ok {n : Nat} (h : CallOk Try.prog (tabF tl11 n)) : ∀ args r, sp27 n args = some (true, r) → FnOK Try.prog 27 args r := SpR.all (SpR.dat1 fun a0 => SpR.ansO fun y hy => fnT_ok (cx_ok h) (normal_ok _) Try.func27 (code_ok_of (cx_ok h) st27) ((f27_ev n a0).trans hy))
noncomputable def tl12 : List (Nat × Sp) := (27, sp27) :: tl11
theorem tl12_ok (n : Nat) : CallOk Try.prog (tabF tl12 n) := tabF_cons (tl11_ok n) (known_of Try.func27 (by decide +kernel) (by kernel_rfl)) (sp27_ok (tl11_ok n))
/-! f61: sawmill/section.valid -/
abbrev sg61 : Sig := [(true, R7)]
noncomputable def h61 : List (Nat × List Keep) := hintsOf keeps 61
theorem st61 : fnSt Try.f61 = true := by kernel_rfl
theorem f61_ev (n : Nat) (a0 : Int × List (Int × Int)) : evT (cx tl12 n) h61 (n + 8) Try.f61 sg61 [encV true R7 a0] = f61 n a0 := by
  have h := (by kernel_rfl : evT (cx tl12 n) h61 (n + 8) Try.f61 sg61 [encV true R7 a0] = f61G n a0)
  exact h
noncomputable def sp61 : Sp := fun n => dat1 true R7 fun a0 => dat0 (ansO sg61 (f61 n a0) ((0 : Int), []))
theorem sp61_ok {n : Nat} (h : CallOk Try.prog (tabF tl12 n)) : ∀ args r, sp61 n args = some (true, r) → FnOK Try.prog 61 args r := SpR.all (SpR.dat1 fun a0 => SpR.ansO fun y hy => fnT_ok (cx_ok h) (normal_ok _) Try.func61 (code_ok_of (cx_ok h) st61) ((f61_ev n a0).trans hy))
noncomputable def tl13 : List (Nat × Sp) := (61, sp61) :: tl12
theorem tl13_ok (n : Nat) : CallOk Try.prog (tabF tl13 n) := tabF_cons (tl12_ok n) (known_of Try.func61 (by decide +kernel) (by kernel_rfl)) (sp61_ok (tl12_ok n))
/-! f62: sawmill/span.Len -/
abbrev sg62 : Sig := [(false, R3)]
noncomputable def h62 : List (Nat × List Keep) := hintsOf keeps 62
theorem st62 : fnSt Try.f62 = true := by kernel_rfl
theorem f62_ev (n : Nat) (a0 : Int × Int) : evT (cx tl13 n) h62 (n + 8) Try.f62 sg62 [encV true R6 a0] = some (f62 a0) := (by kernel_rfl : evT (cx tl13 n) h62 (n + 8) Try.f62 sg62 [encV true R6 a0] = f62O a0).trans (f62_o a0)
noncomputable def sp62 : Sp := fun n => dat1 true R6 fun a0 => dat0 (ansT sg62 (f62 a0))
theorem sp62_ok {n : Nat} (h : CallOk Try.prog (tabF tl13 n)) : ∀ args r, sp62 n args = some (true, r) → FnOK Try.prog 62 args r := SpR.all (SpR.dat1 fun a0 => SpR.ansT (fnT_ok (cx_ok h) (normal_ok _) Try.func62 (code_ok_of (cx_ok h) st62) (f62_ev n a0)))
noncomputable def tl14 : List (Nat × Sp) := (62, sp62) :: tl13
theorem tl14_ok (n : Nat) : CallOk Try.prog (tabF tl14 n) := tabF_cons (tl13_ok n) (known_of Try.func62 (by decide +kernel) (by kernel_rfl)) (sp62_ok (tl13_ok n))
/-! f46: sawmill/section.Within -/
abbrev sg46 : Sig := [(false, R3)]
noncomputable def h46 : List (Nat × List Keep) := hintsOf keeps 46
theorem st46 : fnSt Try.f46 = true := by kernel_rfl
noncomputable def b46L4 : Code := sub [1, 1, 1, 0, 1, 0, 0] (bodyOf Try.f46)
def f46L4S (v2 : Int × List (Int × Int)) (a1 : Int × Int × Int × Int) (v13 : Int) (v14 : Int) : Sx := ⟨(.node .undef (.node .undef (.node (.ptr 1 0) .nil .nil) (.node (.int .i64 v13) .nil (.node (.int .i64 (v2.2.length : Int)) .nil .nil))) (.node (.ptr 0 0) (.node .undef .nil (.node (.imm R6 v2.2) .nil .nil)) (.node .undef .nil (.node (.int .i64 v14) .nil .nil)))), [(0, .box [(.int .i64 v2.1), (.imm R6 v2.2)]), (1, .box [(.int .i64 a1.1), (.int .i64 a1.2.1), (.int .i64 a1.2.2.1), (.int .i64 a1.2.2.2)])], [], 2⟩
def f46L4X0 (v2 : Int × List (Int × Int)) (a1 : Int × Int × Int × Int) (v26 : Int) : Sx := ⟨(.node .undef (.node .undef .nil (.node (.int .i64 v26) .nil .nil)) .nil), [], [], 0⟩
noncomputable def f46L4N (n N m : Nat) (s : Sx) (k : Kont (Int)) : Option (Int) := loopN (get h46 12) (evCode (cx tl14 n) h46 N b46L4) m s k
theorem f46L4_ok (n N : Nat) (v2 : Int × List (Int × Int)) (a1 : Int × Int × Int × Int) : ∀ (m : Nat) (v13 : Int) (v14 : Int) (k : Kont (Int)), f46L4N n N m (f46L4S v2 a1 v13 v14) k = f46L4 n v2 a1 m v13 v14 (fun v26 => k.x 0 (f46L4X0 v2 a1 v26)) := by
  intro m
  induction m with
  | zero => intros; rfl
  | succ m ih =>
    intro v13 v14 k
    have h := (by kernel_rfl : f46L4N n N (m + 1) (f46L4S v2 a1 v13 v14) k = f46L4G n v2 a1 v13 v14 (fun v13 v14 => f46L4N n N m (f46L4S v2 a1 v13 v14) k) (fun v26 => k.x 0 (f46L4X0 v2 a1 v26)))
    exact h.trans (congrArg (fun kc => f46L4G n v2 a1 v13 v14 kc (fun v26 => k.x 0 (f46L4X0 v2 a1 v26))) (funext fun v13 => funext fun v14 => ih v13 v14 k))
theorem f46_ev_s1 (n N : Nat) (a0 : Int × List (Int × Int)) (a1 : Int × Int × Int × Int) : evT (cx tl14 n) h46 N Try.f46 sg46 [encV true R7 a0, encV true R5 a1] = f46G n a0 a1 (fun v2 a1 v13 v14 _ => f46L4N n N N (f46L4S v2 a1 v13 v14) (kAt (cx tl14 n) h46 N [1, 1, 1, 0, 1, 0] (bodyOf Try.f46) (konT (cx tl14 n) Try.f46.results.toList sg46))) := by kernel_rfl
theorem f46_ev_s2 (n N : Nat) (a0 : Int × List (Int × Int)) (a1 : Int × Int × Int × Int) : f46G n a0 a1 (fun v2 a1 v13 v14 _ => f46L4 n v2 a1 N v13 v14 (fun v26 => (kAt (cx tl14 n) h46 N [1, 1, 1, 0, 1, 0] (bodyOf Try.f46) (konT (cx tl14 n) Try.f46.results.toList sg46)).x 0 (f46L4X0 v2 a1 v26))) = f46G n a0 a1 (fun v2 a1 => f46L4 n v2 a1 N) := by kernel_rfl
theorem f46_ev (n : Nat) (a0 : Int × List (Int × Int)) (a1 : Int × Int × Int × Int) : evT (cx tl14 n) h46 (n + 8) Try.f46 sg46 [encV true R7 a0, encV true R5 a1] = f46 n a0 a1 := by
  have h := (f46_ev_s1 n (n + 8) a0 a1 : evT (cx tl14 n) h46 (n + 8) Try.f46 sg46 [encV true R7 a0, encV true R5 a1] = f46G n a0 a1 (fun v2 a1 v13 v14 _ => f46L4N n (n + 8) (n + 8) (f46L4S v2 a1 v13 v14) (kAt (cx tl14 n) h46 (n + 8) [1, 1, 1, 0, 1, 0] (bodyOf Try.f46) (konT (cx tl14 n) Try.f46.results.toList sg46))))
  replace h := h.trans (congrArg (fun lp => f46G n a0 a1 lp) (funext fun x0 => funext fun x1 => funext fun x2 => funext fun x3 => funext fun _ => f46L4_ok n (n + 8) x0 x1 (n + 8) x2 x3 (kAt (cx tl14 n) h46 (n + 8) [1, 1, 1, 0, 1, 0] (bodyOf Try.f46) (konT (cx tl14 n) Try.f46.results.toList sg46))))
  replace h := h.trans (f46_ev_s2 n (n + 8) a0 a1 : f46G n a0 a1 (fun v2 a1 v13 v14 _ => f46L4 n v2 a1 (n + 8) v13 v14 (fun v26 => (kAt (cx tl14 n) h46 (n + 8) [1, 1, 1, 0, 1, 0] (bodyOf Try.f46) (konT (cx tl14 n) Try.f46.results.toList sg46)).x 0 (f46L4X0 v2 a1 v26))) = f46G n a0 a1 (fun v2 a1 => f46L4 n v2 a1 (n + 8)))
  exact h
noncomputable def sp46 : Sp := fun n => dat1 true R7 fun a0 => dat1 true R5 fun a1 => dat0 (ansO sg46 (f46 n a0 a1) (0 : Int))
theorem sp46_ok {n : Nat} (h : CallOk Try.prog (tabF tl14 n)) : ∀ args r, sp46 n args = some (true, r) → FnOK Try.prog 46 args r := SpR.all (SpR.dat1 fun a0 => SpR.dat1 fun a1 => SpR.ansO fun y hy => fnT_ok (cx_ok h) (normal_ok _) Try.func46 (code_ok_of (cx_ok h) st46) ((f46_ev n a0 a1).trans hy))
noncomputable def tl15 : List (Nat × Sp) := (46, sp46) :: tl14
theorem tl15_ok (n : Nat) : CallOk Try.prog (tabF tl15 n) := tabF_cons (tl14_ok n) (known_of Try.func46 (by decide +kernel) (by kernel_rfl)) (sp46_ok (tl14_ok n))
/-! f33: sawmill/worth.lacks -/
abbrev sg33 : Sig := [(false, R11), (false, R11)]
noncomputable def h33 : List (Nat × List Keep) := hintsOf keeps 33
theorem st33 : fnSt Try.f33 = true := by kernel_rfl
noncomputable def b33L4 : Code := sub [1, 1, 1, 0, 1, 0, 0] (bodyOf Try.f33)
def f33L4S (v3 : Int) (a0 : List (Int × Int × List (Int × Int))) (a1 : Int × Int × Int × Int) (v15 : Int) (v16 : Int) (v17 : List Int) (v18 : List Int) : Sx := ⟨(.node .undef (.node .undef (.node (.ptr 0 0) (.node (.int .i64 v15) .nil .nil) (.node .undef .nil (.node (.int .i64 v16) .nil .nil))) (.node (.own 2) (.node .undef .nil (.node (.imm R1 a0) .nil .nil)) .nil)) (.node .undef (.node (.own 1) .nil .nil) (.node (.int .i64 v3) (.node .undef .nil (.node (.int .i64 (a0.length : Int)) .nil .nil)) .nil))), [(0, .box [(.int .i64 a1.1), (.int .i64 a1.2.1), (.int .i64 a1.2.2.1), (.int .i64 a1.2.2.2)]), (1, .row R3 v17), (2, .row R3 v18)], [1, 2], 3⟩
def f33L4X0 (v3 : Int) (a0 : List (Int × Int × List (Int × Int))) (a1 : Int × Int × Int × Int) (v31 : List Int) (v32 : List Int) : Sx := ⟨(.node .undef (.node .undef .nil (.node (.own 1) .nil .nil)) (.node .undef (.node (.own 0) .nil .nil) .nil)), [(0, .row R3 v31), (1, .row R3 v32)], [0, 1], 2⟩
noncomputable def f33L4N (n N m : Nat) (s : Sx) (k : Kont (List Int × List Int)) : Option (List Int × List Int) := loopN (get h33 12) (evCode (cx tl15 n) h33 N b33L4) m s k
theorem f33L4_ok (n N : Nat) (v3 : Int) (a0 : List (Int × Int × List (Int × Int))) (a1 : Int × Int × Int × Int) : ∀ (m : Nat) (v15 : Int) (v16 : Int) (v17 : List Int) (v18 : List Int) (k : Kont (List Int × List Int)), f33L4N n N m (f33L4S v3 a0 a1 v15 v16 v17 v18) k = f33L4 n v3 a0 a1 m v15 v16 v17 v18 (fun v31 v32 => k.x 0 (f33L4X0 v3 a0 a1 v31 v32)) := by
  intro m
  induction m with
  | zero => intros; rfl
  | succ m ih =>
    intro v15 v16 v17 v18 k
    have h := (by kernel_rfl : f33L4N n N (m + 1) (f33L4S v3 a0 a1 v15 v16 v17 v18) k = f33L4G n v3 a0 a1 v15 v16 v17 v18 (fun v15 v16 v17 v18 => f33L4N n N m (f33L4S v3 a0 a1 v15 v16 v17 v18) k) (fun v31 v32 => k.x 0 (f33L4X0 v3 a0 a1 v31 v32)))
    exact h.trans (congrArg (fun kc => f33L4G n v3 a0 a1 v15 v16 v17 v18 kc (fun v31 v32 => k.x 0 (f33L4X0 v3 a0 a1 v31 v32))) (funext fun v15 => funext fun v16 => funext fun v17 => funext fun v18 => ih v15 v16 v17 v18 k))
theorem f33_ev_s1 (n N : Nat) (a0 : List (Int × Int × List (Int × Int))) (a1 : Int × Int × Int × Int) : evT (cx tl15 n) h33 N Try.f33 sg33 [encV false R8 a0, encV true R5 a1] = f33G n a0 a1 (fun v3 a0 a1 v15 v16 v17 v18 _ => f33L4N n N N (f33L4S v3 a0 a1 v15 v16 v17 v18) (kAt (cx tl15 n) h33 N [1, 1, 1, 0, 1, 0] (bodyOf Try.f33) (konT (cx tl15 n) Try.f33.results.toList sg33))) := by kernel_rfl
theorem f33_ev_s2 (n N : Nat) (a0 : List (Int × Int × List (Int × Int))) (a1 : Int × Int × Int × Int) : f33G n a0 a1 (fun v3 a0 a1 v15 v16 v17 v18 _ => f33L4 n v3 a0 a1 N v15 v16 v17 v18 (fun v31 v32 => (kAt (cx tl15 n) h33 N [1, 1, 1, 0, 1, 0] (bodyOf Try.f33) (konT (cx tl15 n) Try.f33.results.toList sg33)).x 0 (f33L4X0 v3 a0 a1 v31 v32))) = f33G n a0 a1 (fun v3 a0 a1 => f33L4 n v3 a0 a1 N) := by kernel_rfl
theorem f33_ev (n : Nat) (a0 : List (Int × Int × List (Int × Int))) (a1 : Int × Int × Int × Int) : evT (cx tl15 n) h33 (n + 8) Try.f33 sg33 [encV false R8 a0, encV true R5 a1] = f33 n a0 a1 := by
  have h := (f33_ev_s1 n (n + 8) a0 a1 : evT (cx tl15 n) h33 (n + 8) Try.f33 sg33 [encV false R8 a0, encV true R5 a1] = f33G n a0 a1 (fun v3 a0 a1 v15 v16 v17 v18 _ => f33L4N n (n + 8) (n + 8) (f33L4S v3 a0 a1 v15 v16 v17 v18) (kAt (cx tl15 n) h33 (n + 8) [1, 1, 1, 0, 1, 0] (bodyOf Try.f33) (konT (cx tl15 n) Try.f33.results.toList sg33))))
  replace h := h.trans (congrArg (fun lp => f33G n a0 a1 lp) (funext fun x0 => funext fun x1 => funext fun x2 => funext fun x3 => funext fun x4 => funext fun x5 => funext fun x6 => funext fun _ => f33L4_ok n (n + 8) x0 x1 x2 (n + 8) x3 x4 x5 x6 (kAt (cx tl15 n) h33 (n + 8) [1, 1, 1, 0, 1, 0] (bodyOf Try.f33) (konT (cx tl15 n) Try.f33.results.toList sg33))))
  replace h := h.trans (f33_ev_s2 n (n + 8) a0 a1 : f33G n a0 a1 (fun v3 a0 a1 v15 v16 v17 v18 _ => f33L4 n v3 a0 a1 (n + 8) v15 v16 v17 v18 (fun v31 v32 => (kAt (cx tl15 n) h33 (n + 8) [1, 1, 1, 0, 1, 0] (bodyOf Try.f33) (konT (cx tl15 n) Try.f33.results.toList sg33)).x 0 (f33L4X0 v3 a0 a1 v31 v32))) = f33G n a0 a1 (fun v3 a0 a1 => f33L4 n v3 a0 a1 (n + 8)))
  exact h
noncomputable def sp33 : Sp := fun n => dat1 false R8 fun a0 => dat1 true R5 fun a1 => dat0 (ansO sg33 (f33 n a0 a1) ([], []))
theorem sp33_ok {n : Nat} (h : CallOk Try.prog (tabF tl15 n)) : ∀ args r, sp33 n args = some (true, r) → FnOK Try.prog 33 args r := SpR.all (SpR.dat1 fun a0 => SpR.dat1 fun a1 => SpR.ansO fun y hy => fnT_ok (cx_ok h) (normal_ok _) Try.func33 (code_ok_of (cx_ok h) st33) ((f33_ev n a0 a1).trans hy))
noncomputable def tl16 : List (Nat × Sp) := (33, sp33) :: tl15
theorem tl16_ok (n : Nat) : CallOk Try.prog (tabF tl16 n) := tabF_cons (tl15_ok n) (known_of Try.func33 (by decide +kernel) (by kernel_rfl)) (sp33_ok (tl15_ok n))
/-! f34: sawmill/worth.most -/
abbrev sg34 : Sig := [(false, R3)]
noncomputable def h34 : List (Nat × List Keep) := hintsOf keeps 34
theorem st34 : fnSt Try.f34 = true := by kernel_rfl
noncomputable def b34L3 : Code := sub [1, 1, 0, 1, 0, 0] (bodyOf Try.f34)
def f34L3S (a1 : List Int) (a0 : List Int) (a2 : Int × Int) (v4 : Int) (v5 : Int) (v6 : Int) : Sx := ⟨(.node .undef (.node (.imm R3 a1) (.node .undef (.node (.int .i64 v4) .nil .nil) (.node (.imm R3 a0) .nil .nil)) (.node (.ptr 0 0) .nil (.node (.int .i64 v6) .nil .nil))) (.node .undef (.node .undef (.node (.int .i64 v5) .nil .nil) (.node (.int .i64 (a0.length : Int)) .nil .nil)) .nil)), [(0, .box [(.int .i64 a2.1), (.int .i64 a2.2)])], [], 1⟩
def f34L3X0 (a1 : List Int) (a0 : List Int) (a2 : Int × Int) (v13 : Int) : Sx := ⟨(.node .undef (.node .undef (.node .undef (.node (.int .i64 v13) .nil .nil) .nil) .nil) .nil), [], [], 0⟩
noncomputable def f34L3N (n N m : Nat) (s : Sx) (k : Kont (Int)) : Option (Int) := loopN (get h34 9) (evCode (cx tl16 n) h34 N b34L3) m s k
theorem f34L3_ok (n N : Nat) (a1 : List Int) (a0 : List Int) (a2 : Int × Int) : ∀ (m : Nat) (v4 : Int) (v5 : Int) (v6 : Int) (k : Kont (Int)), f34L3N n N m (f34L3S a1 a0 a2 v4 v5 v6) k = f34L3 n a1 a0 a2 m v4 v5 v6 (fun v13 => k.x 0 (f34L3X0 a1 a0 a2 v13)) := by
  intro m
  induction m with
  | zero => intros; rfl
  | succ m ih =>
    intro v4 v5 v6 k
    have h := (by kernel_rfl : f34L3N n N (m + 1) (f34L3S a1 a0 a2 v4 v5 v6) k = f34L3G n a1 a0 a2 v4 v5 v6 (fun v4 v5 v6 => f34L3N n N m (f34L3S a1 a0 a2 v4 v5 v6) k) (fun v13 => k.x 0 (f34L3X0 a1 a0 a2 v13)))
    exact h.trans (congrArg (fun kc => f34L3G n a1 a0 a2 v4 v5 v6 kc (fun v13 => k.x 0 (f34L3X0 a1 a0 a2 v13))) (funext fun v4 => funext fun v5 => funext fun v6 => ih v4 v5 v6 k))
theorem f34_ev_s1 (n N : Nat) (a0 : List Int) (a1 : List Int) (a2 : Int × Int) : evT (cx tl16 n) h34 N Try.f34 sg34 [encV false R11 a0, encV false R11 a1, encV true R6 a2] = f34G n a0 a1 a2 (fun a1 a0 a2 v4 v5 v6 _ => f34L3N n N N (f34L3S a1 a0 a2 v4 v5 v6) (kAt (cx tl16 n) h34 N [1, 1, 0, 1, 0] (bodyOf Try.f34) (konT (cx tl16 n) Try.f34.results.toList sg34))) := by kernel_rfl
theorem f34_ev_s2 (n N : Nat) (a0 : List Int) (a1 : List Int) (a2 : Int × Int) : f34G n a0 a1 a2 (fun a1 a0 a2 v4 v5 v6 _ => f34L3 n a1 a0 a2 N v4 v5 v6 (fun v13 => (kAt (cx tl16 n) h34 N [1, 1, 0, 1, 0] (bodyOf Try.f34) (konT (cx tl16 n) Try.f34.results.toList sg34)).x 0 (f34L3X0 a1 a0 a2 v13))) = f34G n a0 a1 a2 (fun a1 a0 a2 => f34L3 n a1 a0 a2 N) := by kernel_rfl
theorem f34_ev (n : Nat) (a0 : List Int) (a1 : List Int) (a2 : Int × Int) : evT (cx tl16 n) h34 (n + 8) Try.f34 sg34 [encV false R11 a0, encV false R11 a1, encV true R6 a2] = f34 n a0 a1 a2 := by
  have h := (f34_ev_s1 n (n + 8) a0 a1 a2 : evT (cx tl16 n) h34 (n + 8) Try.f34 sg34 [encV false R11 a0, encV false R11 a1, encV true R6 a2] = f34G n a0 a1 a2 (fun a1 a0 a2 v4 v5 v6 _ => f34L3N n (n + 8) (n + 8) (f34L3S a1 a0 a2 v4 v5 v6) (kAt (cx tl16 n) h34 (n + 8) [1, 1, 0, 1, 0] (bodyOf Try.f34) (konT (cx tl16 n) Try.f34.results.toList sg34))))
  replace h := h.trans (congrArg (fun lp => f34G n a0 a1 a2 lp) (funext fun x0 => funext fun x1 => funext fun x2 => funext fun x3 => funext fun x4 => funext fun x5 => funext fun _ => f34L3_ok n (n + 8) x0 x1 x2 (n + 8) x3 x4 x5 (kAt (cx tl16 n) h34 (n + 8) [1, 1, 0, 1, 0] (bodyOf Try.f34) (konT (cx tl16 n) Try.f34.results.toList sg34))))
  replace h := h.trans (f34_ev_s2 n (n + 8) a0 a1 a2 : f34G n a0 a1 a2 (fun a1 a0 a2 v4 v5 v6 _ => f34L3 n a1 a0 a2 (n + 8) v4 v5 v6 (fun v13 => (kAt (cx tl16 n) h34 (n + 8) [1, 1, 0, 1, 0] (bodyOf Try.f34) (konT (cx tl16 n) Try.f34.results.toList sg34)).x 0 (f34L3X0 a1 a0 a2 v13))) = f34G n a0 a1 a2 (fun a1 a0 a2 => f34L3 n a1 a0 a2 (n + 8)))
  exact h
noncomputable def sp34 : Sp := fun n => dat1 false R11 fun a0 => dat1 false R11 fun a1 => dat1 true R6 fun a2 => dat0 (ansO sg34 (f34 n a0 a1 a2) (0 : Int))
theorem sp34_ok {n : Nat} (h : CallOk Try.prog (tabF tl16 n)) : ∀ args r, sp34 n args = some (true, r) → FnOK Try.prog 34 args r := SpR.all (SpR.dat1 fun a0 => SpR.dat1 fun a1 => SpR.dat1 fun a2 => SpR.ansO fun y hy => fnT_ok (cx_ok h) (normal_ok _) Try.func34 (code_ok_of (cx_ok h) st34) ((f34_ev n a0 a1 a2).trans hy))
noncomputable def tl17 : List (Nat × Sp) := (34, sp34) :: tl16
theorem tl17_ok (n : Nat) : CallOk Try.prog (tabF tl17 n) := tabF_cons (tl16_ok n) (known_of Try.func34 (by decide +kernel) (by kernel_rfl)) (sp34_ok (tl16_ok n))
/-! f15: sawmill/worth.Wane -/
abbrev sg15 : Sig := [(false, R3)]
noncomputable def h15 : List (Nat × List Keep) := hintsOf keeps 15
theorem st15 : fnSt Try.f15 = true := by kernel_rfl
theorem f15_ev (n : Nat) (a0 : List (Int × Int × List (Int × Int))) (a1 : Int × Int × Int × Int × Int × Int) : evT (cx tl17 n) h15 (n + 8) Try.f15 sg15 [encV false R8 a0, encV true R12 a1] = f15 n a0 a1 := by
  have h := (by kernel_rfl : evT (cx tl17 n) h15 (n + 8) Try.f15 sg15 [encV false R8 a0, encV true R12 a1] = f15G n a0 a1)
  exact h
noncomputable def sp15 : Sp := fun n => dat1 false R8 fun a0 => dat1 true R12 fun a1 => dat0 (ansO sg15 (f15 n a0 a1) (0 : Int))
theorem sp15_ok {n : Nat} (h : CallOk Try.prog (tabF tl17 n)) : ∀ args r, sp15 n args = some (true, r) → FnOK Try.prog 15 args r := SpR.all (SpR.dat1 fun a0 => SpR.dat1 fun a1 => SpR.ansO fun y hy => fnT_ok (cx_ok h) (normal_ok _) Try.func15 (code_ok_of (cx_ok h) st15) ((f15_ev n a0 a1).trans hy))
noncomputable def tl18 : List (Nat × Sp) := (15, sp15) :: tl17
theorem tl18_ok (n : Nat) : CallOk Try.prog (tabF tl18 n) := tabF_cons (tl17_ok n) (known_of Try.func15 (by decide +kernel) (by kernel_rfl)) (sp15_ok (tl17_ok n))
/-! f47: sawmill/sawmillref20.across -/
abbrev sg47 : Sig := [(false, R0)]
noncomputable def h47 : List (Nat × List Keep) := hintsOf keeps 47
theorem st47 : fnSt Try.f47 = true := by kernel_rfl
theorem f47_ev (n : Nat) (a0 : Int × Int) : evT (cx tl18 n) h47 (n + 8) Try.f47 sg47 [encV true R6 a0] = some (f47 a0) := (by kernel_rfl : evT (cx tl18 n) h47 (n + 8) Try.f47 sg47 [encV true R6 a0] = f47O a0).trans (f47_o a0)
noncomputable def sp47 : Sp := fun n => dat1 true R6 fun a0 => dat0 (ansT sg47 (f47 a0))
theorem sp47_ok {n : Nat} (h : CallOk Try.prog (tabF tl18 n)) : ∀ args r, sp47 n args = some (true, r) → FnOK Try.prog 47 args r := SpR.all (SpR.dat1 fun a0 => SpR.ansT (fnT_ok (cx_ok h) (normal_ok _) Try.func47 (code_ok_of (cx_ok h) st47) (f47_ev n a0)))
noncomputable def tl19 : List (Nat × Sp) := (47, sp47) :: tl18
theorem tl19_ok (n : Nat) : CallOk Try.prog (tabF tl19 n) := tabF_cons (tl18_ok n) (known_of Try.func47 (by decide +kernel) (by kernel_rfl)) (sp47_ok (tl18_ok n))
/-! f88: sawmill/sawmillref10.beyond -/
abbrev sg88 : Sig := [(false, R0)]
noncomputable def h88 : List (Nat × List Keep) := hintsOf keeps 88
theorem st88 : fnSt Try.f88 = true := by kernel_rfl
theorem f88_ev (n : Nat) (a0 : Int) : evT (cx tl19 n) h88 (n + 8) Try.f88 sg88 [encV false R3 a0] = some (f88 a0) := (by kernel_rfl : evT (cx tl19 n) h88 (n + 8) Try.f88 sg88 [encV false R3 a0] = f88O a0).trans (f88_o a0)
noncomputable def sp88 : Sp := fun n => dat1 false R3 fun a0 => dat0 (ansT sg88 (f88 a0))
theorem sp88_ok {n : Nat} (h : CallOk Try.prog (tabF tl19 n)) : ∀ args r, sp88 n args = some (true, r) → FnOK Try.prog 88 args r := SpR.all (SpR.dat1 fun a0 => SpR.ansT (fnT_ok (cx_ok h) (normal_ok _) Try.func88 (code_ok_of (cx_ok h) st88) (f88_ev n a0)))
noncomputable def tl20 : List (Nat × Sp) := (88, sp88) :: tl19
theorem tl20_ok (n : Nat) : CallOk Try.prog (tabF tl20 n) := tabF_cons (tl19_ok n) (known_of Try.func88 (by decide +kernel) (by kernel_rfl)) (sp88_ok (tl19_ok n))
/-! f79: sawmill/sawmillref10.empty -/
abbrev sg79 : Sig := [(false, R0)]
noncomputable def h79 : List (Nat × List Keep) := hintsOf keeps 79
theorem st79 : fnSt Try.f79 = true := by kernel_rfl
theorem f79_ev (n : Nat) (a0 : Int × Int) : evT (cx tl20 n) h79 (n + 8) Try.f79 sg79 [encV true R6 a0] = some (f79 a0) := (by kernel_rfl : evT (cx tl20 n) h79 (n + 8) Try.f79 sg79 [encV true R6 a0] = f79O a0).trans (f79_o a0)
noncomputable def sp79 : Sp := fun n => dat1 true R6 fun a0 => dat0 (ansT sg79 (f79 a0))
theorem sp79_ok {n : Nat} (h : CallOk Try.prog (tabF tl20 n)) : ∀ args r, sp79 n args = some (true, r) → FnOK Try.prog 79 args r := SpR.all (SpR.dat1 fun a0 => SpR.ansT (fnT_ok (cx_ok h) (normal_ok _) Try.func79 (code_ok_of (cx_ok h) st79) (f79_ev n a0)))
noncomputable def tl21 : List (Nat × Sp) := (79, sp79) :: tl20
theorem tl21_ok (n : Nat) : CallOk Try.prog (tabF tl21 n) := tabF_cons (tl20_ok n) (known_of Try.func79 (by decide +kernel) (by kernel_rfl)) (sp79_ok (tl20_ok n))
/-! f73: sawmill/sawmillref10.Check -/
abbrev sg73 : Sig := [(false, R3)]
noncomputable def h73 : List (Nat × List Keep) := hintsOf keeps 73
theorem st73 : fnSt Try.f73 = true := by kernel_rfl
noncomputable def b73L7 : Code := sub [1, 1, 1, 1, 0, 1, 0, 0] (bodyOf Try.f73)
def f73L7S (a0 : Int × List (Int × Int)) (v6 : Int) : Sx := ⟨(.node .undef (.node (.ptr 0 0) (.node (.int .i64 (a0.2.length : Int)) .nil .nil) .nil) (.node .undef (.node (.int .i64 v6) .nil .nil) .nil)), [(0, .box [(.int .i64 a0.1), (.imm R6 a0.2)])], [], 1⟩
def f73L7Xret (a0 : Int × List (Int × Int)) : Sx := ⟨(.node .undef .nil (.node (.int .i64 9) .nil .nil)), [], [], 0⟩
def f73L7X0 (a0 : Int × List (Int × Int)) : Sx := ⟨(.node .undef (.node (.ptr 0 0) (.node (.int .i64 (a0.2.length : Int)) .nil .nil) .nil) .nil), [(0, .box [(.int .i64 a0.1), (.imm R6 a0.2)])], [], 1⟩
noncomputable def f73L7N (n N m : Nat) (s : Sx) (k : Kont (Int)) : Option (Int) := loopN (get h73 21) (evCode (cx tl21 n) h73 N b73L7) m s k
theorem f73L7_ok (n N : Nat) (a0 : Int × List (Int × Int)) : ∀ (m : Nat) (v6 : Int) (k : Kont (Int)), f73L7N n N m (f73L7S a0 v6) k = f73L7 n a0 m v6 (k.r (f73L7Xret a0)) (k.x 0 (f73L7X0 a0)) := by
  intro m
  induction m with
  | zero => intros; rfl
  | succ m ih =>
    intro v6 k
    have h := (by kernel_rfl : f73L7N n N (m + 1) (f73L7S a0 v6) k = f73L7G n a0 v6 (fun v6 => f73L7N n N m (f73L7S a0 v6) k) (k.r (f73L7Xret a0)) (k.x 0 (f73L7X0 a0)))
    exact h.trans (congrArg (fun kc => f73L7G n a0 v6 kc (k.r (f73L7Xret a0)) (k.x 0 (f73L7X0 a0))) (funext fun v6 => ih v6 k))
noncomputable def b73L18 : Code := sub [1, 1, 1, 1, 1, 1, 1, 0, 1, 0, 0] (bodyOf Try.f73)
def f73L18S (a0 : Int × List (Int × Int)) (v20 : Int) : Sx := ⟨(.node .undef (.node (.ptr 0 0) (.node (.int .i64 (a0.2.length : Int)) .nil .nil) (.node (.int .i64 v20) .nil .nil)) .nil), [(0, .box [(.int .i64 a0.1), (.imm R6 a0.2)])], [], 1⟩
def f73L18Xret (a0 : Int × List (Int × Int)) : Sx := ⟨(.node .undef .nil (.node (.int .i64 19) .nil .nil)), [], [], 0⟩
def f73L18X2 (a0 : Int × List (Int × Int)) : Sx := ⟨.nil, [], [], 0⟩
noncomputable def f73L18N (n N m : Nat) (s : Sx) (k : Kont (Int)) : Option (Int) := loopN (get h73 54) (evCode (cx tl21 n) h73 N b73L18) m s k
theorem f73L18_ok (n N : Nat) (a0 : Int × List (Int × Int)) : ∀ (m : Nat) (v20 : Int) (k : Kont (Int)), f73L18N n N m (f73L18S a0 v20) k = f73L18 n a0 m v20 (k.r (f73L18Xret a0)) (k.x 2 (f73L18X2 a0)) := by
  intro m
  induction m with
  | zero => intros; rfl
  | succ m ih =>
    intro v20 k
    have h := (by kernel_rfl : f73L18N n N (m + 1) (f73L18S a0 v20) k = f73L18G n a0 v20 (fun v20 => f73L18N n N m (f73L18S a0 v20) k) (k.r (f73L18Xret a0)) (k.x 2 (f73L18X2 a0)))
    exact h.trans (congrArg (fun kc => f73L18G n a0 v20 kc (k.r (f73L18Xret a0)) (k.x 2 (f73L18X2 a0))) (funext fun v20 => ih v20 k))
theorem f73_ev_s1 (n N : Nat) (a0 : Int × List (Int × Int)) : evT (cx tl21 n) h73 N Try.f73 sg73 [encV true R7 a0] = f73G n a0 (fun a0 v6 _ _ => f73L7N n N N (f73L7S a0 v6) (kAt (cx tl21 n) h73 N [1, 1, 1, 1, 0, 1, 0] (bodyOf Try.f73) (konT (cx tl21 n) Try.f73.results.toList sg73))) (fun a0 v20 _ _ => f73L18N n N N (f73L18S a0 v20) (kAt (cx tl21 n) h73 N [1, 1, 1, 1, 1, 1, 1, 0, 1, 0] (bodyOf Try.f73) (konT (cx tl21 n) Try.f73.results.toList sg73))) := by kernel_rfl
theorem f73_ev_s2 (n N : Nat) (a0 : Int × List (Int × Int)) : f73G n a0 (fun a0 v6 _ _ => f73L7 n a0 N v6 ((kAt (cx tl21 n) h73 N [1, 1, 1, 1, 0, 1, 0] (bodyOf Try.f73) (konT (cx tl21 n) Try.f73.results.toList sg73)).r (f73L7Xret a0)) ((kAt (cx tl21 n) h73 N [1, 1, 1, 1, 0, 1, 0] (bodyOf Try.f73) (konT (cx tl21 n) Try.f73.results.toList sg73)).x 0 (f73L7X0 a0))) (fun a0 v20 _ _ => f73L18N n N N (f73L18S a0 v20) (kAt (cx tl21 n) h73 N [1, 1, 1, 1, 1, 1, 1, 0, 1, 0] (bodyOf Try.f73) (konT (cx tl21 n) Try.f73.results.toList sg73))) = f73G n a0 (fun a0 => f73L7 n a0 N) (fun a0 v20 _ _ => f73L18N n N N (f73L18S a0 v20) (kAt (cx tl21 n) h73 N [1, 1, 1, 1, 1, 1, 1, 0, 1, 0] (bodyOf Try.f73) (konT (cx tl21 n) Try.f73.results.toList sg73))) := by kernel_rfl
theorem f73_ev_s3 (n N : Nat) (a0 : Int × List (Int × Int)) : f73G n a0 (fun a0 => f73L7 n a0 N) (fun a0 v20 _ _ => f73L18 n a0 N v20 ((kAt (cx tl21 n) h73 N [1, 1, 1, 1, 1, 1, 1, 0, 1, 0] (bodyOf Try.f73) (konT (cx tl21 n) Try.f73.results.toList sg73)).r (f73L18Xret a0)) ((kAt (cx tl21 n) h73 N [1, 1, 1, 1, 1, 1, 1, 0, 1, 0] (bodyOf Try.f73) (konT (cx tl21 n) Try.f73.results.toList sg73)).x 2 (f73L18X2 a0))) = f73G n a0 (fun a0 => f73L7 n a0 N) (fun a0 => f73L18 n a0 N) := by kernel_rfl
theorem f73_ev (n : Nat) (a0 : Int × List (Int × Int)) : evT (cx tl21 n) h73 (n + 8) Try.f73 sg73 [encV true R7 a0] = f73 n a0 := by
  have h := (f73_ev_s1 n (n + 8) a0 : evT (cx tl21 n) h73 (n + 8) Try.f73 sg73 [encV true R7 a0] = f73G n a0 (fun a0 v6 _ _ => f73L7N n (n + 8) (n + 8) (f73L7S a0 v6) (kAt (cx tl21 n) h73 (n + 8) [1, 1, 1, 1, 0, 1, 0] (bodyOf Try.f73) (konT (cx tl21 n) Try.f73.results.toList sg73))) (fun a0 v20 _ _ => f73L18N n (n + 8) (n + 8) (f73L18S a0 v20) (kAt (cx tl21 n) h73 (n + 8) [1, 1, 1, 1, 1, 1, 1, 0, 1, 0] (bodyOf Try.f73) (konT (cx tl21 n) Try.f73.results.toList sg73))))
  replace h := h.trans (congrArg (fun lp => f73G n a0 lp (fun a0 v20 _ _ => f73L18N n (n + 8) (n + 8) (f73L18S a0 v20) (kAt (cx tl21 n) h73 (n + 8) [1, 1, 1, 1, 1, 1, 1, 0, 1, 0] (bodyOf Try.f73) (konT (cx tl21 n) Try.f73.results.toList sg73)))) (funext fun x0 => funext fun x1 => funext fun _ => funext fun _ => f73L7_ok n (n + 8) x0 (n + 8) x1 (kAt (cx tl21 n) h73 (n + 8) [1, 1, 1, 1, 0, 1, 0] (bodyOf Try.f73) (konT (cx tl21 n) Try.f73.results.toList sg73))))
  replace h := h.trans (f73_ev_s2 n (n + 8) a0 : f73G n a0 (fun a0 v6 _ _ => f73L7 n a0 (n + 8) v6 ((kAt (cx tl21 n) h73 (n + 8) [1, 1, 1, 1, 0, 1, 0] (bodyOf Try.f73) (konT (cx tl21 n) Try.f73.results.toList sg73)).r (f73L7Xret a0)) ((kAt (cx tl21 n) h73 (n + 8) [1, 1, 1, 1, 0, 1, 0] (bodyOf Try.f73) (konT (cx tl21 n) Try.f73.results.toList sg73)).x 0 (f73L7X0 a0))) (fun a0 v20 _ _ => f73L18N n (n + 8) (n + 8) (f73L18S a0 v20) (kAt (cx tl21 n) h73 (n + 8) [1, 1, 1, 1, 1, 1, 1, 0, 1, 0] (bodyOf Try.f73) (konT (cx tl21 n) Try.f73.results.toList sg73))) = f73G n a0 (fun a0 => f73L7 n a0 (n + 8)) (fun a0 v20 _ _ => f73L18N n (n + 8) (n + 8) (f73L18S a0 v20) (kAt (cx tl21 n) h73 (n + 8) [1, 1, 1, 1, 1, 1, 1, 0, 1, 0] (bodyOf Try.f73) (konT (cx tl21 n) Try.f73.results.toList sg73))))
  replace h := h.trans (congrArg (fun lp => f73G n a0 (fun a0 => f73L7 n a0 (n + 8)) lp) (funext fun x0 => funext fun x1 => funext fun _ => funext fun _ => f73L18_ok n (n + 8) x0 (n + 8) x1 (kAt (cx tl21 n) h73 (n + 8) [1, 1, 1, 1, 1, 1, 1, 0, 1, 0] (bodyOf Try.f73) (konT (cx tl21 n) Try.f73.results.toList sg73))))
  replace h := h.trans (f73_ev_s3 n (n + 8) a0 : f73G n a0 (fun a0 => f73L7 n a0 (n + 8)) (fun a0 v20 _ _ => f73L18 n a0 (n + 8) v20 ((kAt (cx tl21 n) h73 (n + 8) [1, 1, 1, 1, 1, 1, 1, 0, 1, 0] (bodyOf Try.f73) (konT (cx tl21 n) Try.f73.results.toList sg73)).r (f73L18Xret a0)) ((kAt (cx tl21 n) h73 (n + 8) [1, 1, 1, 1, 1, 1, 1, 0, 1, 0] (bodyOf Try.f73) (konT (cx tl21 n) Try.f73.results.toList sg73)).x 2 (f73L18X2 a0))) = f73G n a0 (fun a0 => f73L7 n a0 (n + 8)) (fun a0 => f73L18 n a0 (n + 8)))
  exact h
noncomputable def sp73 : Sp := fun n => dat1 true R7 fun a0 => dat0 (ansO sg73 (f73 n a0) (0 : Int))
theorem sp73_ok {n : Nat} (h : CallOk Try.prog (tabF tl21 n)) : ∀ args r, sp73 n args = some (true, r) → FnOK Try.prog 73 args r := SpR.all (SpR.dat1 fun a0 => SpR.ansO fun y hy => fnT_ok (cx_ok h) (normal_ok _) Try.func73 (code_ok_of (cx_ok h) st73) ((f73_ev n a0).trans hy))
noncomputable def tl22 : List (Nat × Sp) := (73, sp73) :: tl21
theorem tl22_ok (n : Nat) : CallOk Try.prog (tabF tl22 n) := tabF_cons (tl21_ok n) (known_of Try.func73 (by decide +kernel) (by kernel_rfl)) (sp73_ok (tl21_ok n))
/-! f54: sawmill/sawmillref11.Check -/
abbrev sg54 : Sig := [(false, R3)]
noncomputable def h54 : List (Nat × List Keep) := hintsOf keeps 54
theorem st54 : fnSt Try.f54 = true := by kernel_rfl
noncomputable def b54L7 : Code := sub [1, 1, 1, 1, 0, 1, 0, 0] (bodyOf Try.f54)
def f54L7S (a0 : List (Int × Int × List (Int × Int))) (v9 : Int) (v10 : Int) : Sx := ⟨(.node (.imm R1 a0) (.node .undef (.node (.int .i64 v9) .nil .nil) .nil) (.node .undef (.node (.int .i64 v10) .nil .nil) .nil)), [], [], 0⟩
def f54L7Xret (a0 : List (Int × Int × List (Int × Int))) (v21 : Int) : Sx := ⟨(.node .undef .nil (.node (.int .i64 v21) .nil .nil)), [], [], 0⟩
def f54L7X0 (a0 : List (Int × Int × List (Int × Int))) : Sx := ⟨.nil, [], [], 0⟩
noncomputable def f54L7N (n N m : Nat) (s : Sx) (k : Kont (Int)) : Option (Int) := loopN (get h54 21) (evCode (cx tl22 n) h54 N b54L7) m s k
theorem f54L7_ok (n N : Nat) (a0 : List (Int × Int × List (Int × Int))) : ∀ (m : Nat) (v9 : Int) (v10 : Int) (k : Kont (Int)), f54L7N n N m (f54L7S a0 v9 v10) k = f54L7 n a0 m v9 v10 (fun v21 => k.r (f54L7Xret a0 v21)) (k.x 0 (f54L7X0 a0)) := by
  intro m
  induction m with
  | zero => intros; rfl
  | succ m ih =>
    intro v9 v10 k
    have h := (by kernel_rfl : f54L7N n N (m + 1) (f54L7S a0 v9 v10) k = f54L7G n a0 v9 v10 (fun v9 v10 => f54L7N n N m (f54L7S a0 v9 v10) k) (fun v21 => k.r (f54L7Xret a0 v21)) (k.x 0 (f54L7X0 a0)))
    exact h.trans (congrArg (fun kc => f54L7G n a0 v9 v10 kc (fun v21 => k.r (f54L7Xret a0 v21)) (k.x 0 (f54L7X0 a0))) (funext fun v9 => funext fun v10 => ih v9 v10 k))
theorem f54_ev_s1 (n N : Nat) (a0 : List (Int × Int × List (Int × Int))) : evT (cx tl22 n) h54 N Try.f54 sg54 [encV false R8 a0] = f54G n a0 (fun a0 v9 v10 _ _ => f54L7N n N N (f54L7S a0 v9 v10) (kAt (cx tl22 n) h54 N [1, 1, 1, 1, 0, 1, 0] (bodyOf Try.f54) (konT (cx tl22 n) Try.f54.results.toList sg54))) := by kernel_rfl
theorem f54_ev_s2 (n N : Nat) (a0 : List (Int × Int × List (Int × Int))) : f54G n a0 (fun a0 v9 v10 _ _ => f54L7 n a0 N v9 v10 (fun v21 => (kAt (cx tl22 n) h54 N [1, 1, 1, 1, 0, 1, 0] (bodyOf Try.f54) (konT (cx tl22 n) Try.f54.results.toList sg54)).r (f54L7Xret a0 v21)) ((kAt (cx tl22 n) h54 N [1, 1, 1, 1, 0, 1, 0] (bodyOf Try.f54) (konT (cx tl22 n) Try.f54.results.toList sg54)).x 0 (f54L7X0 a0))) = f54G n a0 (fun a0 => f54L7 n a0 N) := by kernel_rfl
theorem f54_ev (n : Nat) (a0 : List (Int × Int × List (Int × Int))) : evT (cx tl22 n) h54 (n + 8) Try.f54 sg54 [encV false R8 a0] = f54 n a0 := by
  have h := (f54_ev_s1 n (n + 8) a0 : evT (cx tl22 n) h54 (n + 8) Try.f54 sg54 [encV false R8 a0] = f54G n a0 (fun a0 v9 v10 _ _ => f54L7N n (n + 8) (n + 8) (f54L7S a0 v9 v10) (kAt (cx tl22 n) h54 (n + 8) [1, 1, 1, 1, 0, 1, 0] (bodyOf Try.f54) (konT (cx tl22 n) Try.f54.results.toList sg54))))
  replace h := h.trans (congrArg (fun lp => f54G n a0 lp) (funext fun x0 => funext fun x1 => funext fun x2 => funext fun _ => funext fun _ => f54L7_ok n (n + 8) x0 (n + 8) x1 x2 (kAt (cx tl22 n) h54 (n + 8) [1, 1, 1, 1, 0, 1, 0] (bodyOf Try.f54) (konT (cx tl22 n) Try.f54.results.toList sg54))))
  replace h := h.trans (f54_ev_s2 n (n + 8) a0 : f54G n a0 (fun a0 v9 v10 _ _ => f54L7 n a0 (n + 8) v9 v10 (fun v21 => (kAt (cx tl22 n) h54 (n + 8) [1, 1, 1, 1, 0, 1, 0] (bodyOf Try.f54) (konT (cx tl22 n) Try.f54.results.toList sg54)).r (f54L7Xret a0 v21)) ((kAt (cx tl22 n) h54 (n + 8) [1, 1, 1, 1, 0, 1, 0] (bodyOf Try.f54) (konT (cx tl22 n) Try.f54.results.toList sg54)).x 0 (f54L7X0 a0))) = f54G n a0 (fun a0 => f54L7 n a0 (n + 8)))
  exact h
noncomputable def sp54 : Sp := fun n => dat1 false R8 fun a0 => dat0 (ansO sg54 (f54 n a0) (0 : Int))
theorem sp54_ok {n : Nat} (h : CallOk Try.prog (tabF tl22 n)) : ∀ args r, sp54 n args = some (true, r) → FnOK Try.prog 54 args r := SpR.all (SpR.dat1 fun a0 => SpR.ansO fun y hy => fnT_ok (cx_ok h) (normal_ok _) Try.func54 (code_ok_of (cx_ok h) st54) ((f54_ev n a0).trans hy))
noncomputable def tl23 : List (Nat × Sp) := (54, sp54) :: tl22
theorem tl23_ok (n : Nat) : CallOk Try.prog (tabF tl23 n) := tabF_cons (tl22_ok n) (known_of Try.func54 (by decide +kernel) (by kernel_rfl)) (sp54_ok (tl22_ok n))
/-! f42: sawmill/sawmillref11.Length -/
abbrev sg42 : Sig := [(false, R3)]
noncomputable def h42 : List (Nat × List Keep) := hintsOf keeps 42
theorem st42 : fnSt Try.f42 = true := by kernel_rfl
noncomputable def b42L5 : Code := sub [1, 1, 1, 0, 1, 0, 0] (bodyOf Try.f42)
def f42L5S (a0 : List (Int × Int × List (Int × Int))) (v5 : Int) (v6 : Int) : Sx := ⟨(.node (.imm R1 a0) (.node .undef (.node (.int .i64 v5) .nil .nil) .nil) (.node .undef (.node (.int .i64 v6) .nil .nil) .nil)), [], [], 0⟩
def f42L5X0 (a0 : List (Int × Int × List (Int × Int))) (v10 : Int) : Sx := ⟨(.node .undef (.node .undef (.node (.int .i64 v10) .nil .nil) .nil) .nil), [], [], 0⟩
noncomputable def f42L5N (n N m : Nat) (s : Sx) (k : Kont (Int)) : Option (Int) := loopN (get h42 15) (evCode (cx tl23 n) h42 N b42L5) m s k
theorem f42L5_ok (n N : Nat) (a0 : List (Int × Int × List (Int × Int))) : ∀ (m : Nat) (v5 : Int) (v6 : Int) (k : Kont (Int)), f42L5N n N m (f42L5S a0 v5 v6) k = f42L5 n a0 m v5 v6 (fun v10 => k.x 0 (f42L5X0 a0 v10)) := by
  intro m
  induction m with
  | zero => intros; rfl
  | succ m ih =>
    intro v5 v6 k
    have h := (by kernel_rfl : f42L5N n N (m + 1) (f42L5S a0 v5 v6) k = f42L5G n a0 v5 v6 (fun v5 v6 => f42L5N n N m (f42L5S a0 v5 v6) k) (fun v10 => k.x 0 (f42L5X0 a0 v10)))
    exact h.trans (congrArg (fun kc => f42L5G n a0 v5 v6 kc (fun v10 => k.x 0 (f42L5X0 a0 v10))) (funext fun v5 => funext fun v6 => ih v5 v6 k))
theorem f42_ev_s1 (n N : Nat) (a0 : List (Int × Int × List (Int × Int))) : evT (cx tl23 n) h42 N Try.f42 sg42 [encV false R8 a0] = f42G n a0 (fun a0 v5 v6 _ => f42L5N n N N (f42L5S a0 v5 v6) (kAt (cx tl23 n) h42 N [1, 1, 1, 0, 1, 0] (bodyOf Try.f42) (konT (cx tl23 n) Try.f42.results.toList sg42))) := by kernel_rfl
theorem f42_ev_s2 (n N : Nat) (a0 : List (Int × Int × List (Int × Int))) : f42G n a0 (fun a0 v5 v6 _ => f42L5 n a0 N v5 v6 (fun v10 => (kAt (cx tl23 n) h42 N [1, 1, 1, 0, 1, 0] (bodyOf Try.f42) (konT (cx tl23 n) Try.f42.results.toList sg42)).x 0 (f42L5X0 a0 v10))) = f42G n a0 (fun a0 => f42L5 n a0 N) := by kernel_rfl
theorem f42_ev (n : Nat) (a0 : List (Int × Int × List (Int × Int))) : evT (cx tl23 n) h42 (n + 8) Try.f42 sg42 [encV false R8 a0] = f42 n a0 := by
  have h := (f42_ev_s1 n (n + 8) a0 : evT (cx tl23 n) h42 (n + 8) Try.f42 sg42 [encV false R8 a0] = f42G n a0 (fun a0 v5 v6 _ => f42L5N n (n + 8) (n + 8) (f42L5S a0 v5 v6) (kAt (cx tl23 n) h42 (n + 8) [1, 1, 1, 0, 1, 0] (bodyOf Try.f42) (konT (cx tl23 n) Try.f42.results.toList sg42))))
  replace h := h.trans (congrArg (fun lp => f42G n a0 lp) (funext fun x0 => funext fun x1 => funext fun x2 => funext fun _ => f42L5_ok n (n + 8) x0 (n + 8) x1 x2 (kAt (cx tl23 n) h42 (n + 8) [1, 1, 1, 0, 1, 0] (bodyOf Try.f42) (konT (cx tl23 n) Try.f42.results.toList sg42))))
  replace h := h.trans (f42_ev_s2 n (n + 8) a0 : f42G n a0 (fun a0 v5 v6 _ => f42L5 n a0 (n + 8) v5 v6 (fun v10 => (kAt (cx tl23 n) h42 (n + 8) [1, 1, 1, 0, 1, 0] (bodyOf Try.f42) (konT (cx tl23 n) Try.f42.results.toList sg42)).x 0 (f42L5X0 a0 v10))) = f42G n a0 (fun a0 => f42L5 n a0 (n + 8)))
  exact h
noncomputable def sp42 : Sp := fun n => dat1 false R8 fun a0 => dat0 (ansO sg42 (f42 n a0) (0 : Int))
theorem sp42_ok {n : Nat} (h : CallOk Try.prog (tabF tl23 n)) : ∀ args r, sp42 n args = some (true, r) → FnOK Try.prog 42 args r := SpR.all (SpR.dat1 fun a0 => SpR.ansO fun y hy => fnT_ok (cx_ok h) (normal_ok _) Try.func42 (code_ok_of (cx_ok h) st42) ((f42_ev n a0).trans hy))
noncomputable def tl24 : List (Nat × Sp) := (42, sp42) :: tl23
theorem tl24_ok (n : Nat) : CallOk Try.prog (tabF tl24 n) := tabF_cons (tl23_ok n) (known_of Try.func42 (by decide +kernel) (by kernel_rfl)) (sp42_ok (tl23_ok n))
/-! f35: sawmill/sawmillref20.within -/
abbrev sg35 : Sig := [(false, R0)]
noncomputable def h35 : List (Nat × List Keep) := hintsOf keeps 35
theorem st35 : fnSt Try.f35 = true := by kernel_rfl
theorem f35_ev (n : Nat) (a0 : List (Int × Int × List (Int × Int))) (a1 : Int × Int × Int × Int × Int × Int) : evT (cx tl24 n) h35 (n + 8) Try.f35 sg35 [encV false R8 a0, encV true R12 a1] = f35 n a0 a1 := by
  have h := (by kernel_rfl : evT (cx tl24 n) h35 (n + 8) Try.f35 sg35 [encV false R8 a0, encV true R12 a1] = f35G n a0 a1)
  exact h
noncomputable def sp35 : Sp := fun n => dat1 false R8 fun a0 => dat1 true R12 fun a1 => dat0 (ansO sg35 (f35 n a0 a1) false)
theorem sp35_ok {n : Nat} (h : CallOk Try.prog (tabF tl24 n)) : ∀ args r, sp35 n args = some (true, r) → FnOK Try.prog 35 args r := SpR.all (SpR.dat1 fun a0 => SpR.dat1 fun a1 => SpR.ansO fun y hy => fnT_ok (cx_ok h) (normal_ok _) Try.func35 (code_ok_of (cx_ok h) st35) ((f35_ev n a0 a1).trans hy))
noncomputable def tl25 : List (Nat × Sp) := (35, sp35) :: tl24
theorem tl25_ok (n : Nat) : CallOk Try.prog (tabF tl25 n) := tabF_cons (tl24_ok n) (known_of Try.func35 (by decide +kernel) (by kernel_rfl)) (sp35_ok (tl24_ok n))
/-! f63: sawmill/sawmillref11.part -/
abbrev sg63 : Sig := [(false, R3)]
noncomputable def h63 : List (Nat × List Keep) := hintsOf keeps 63
theorem st63 : fnSt Try.f63 = true := by kernel_rfl
theorem f63_ev (n : Nat) (a0 : Int × Int) (a1 : Int) (a2 : Int) : evT (cx tl25 n) h63 (n + 8) Try.f63 sg63 [encV true R6 a0, encV false R3 a1, encV false R3 a2] = some (f63 a0 a1 a2) := (by kernel_rfl : evT (cx tl25 n) h63 (n + 8) Try.f63 sg63 [encV true R6 a0, encV false R3 a1, encV false R3 a2] = f63O a0 a1 a2).trans (f63_o a0 a1 a2)
noncomputable def sp63 : Sp := fun n => dat1 true R6 fun a0 => dat1 false R3 fun a1 => dat1 false R3 fun a2 => dat0 (ansT sg63 (f63 a0 a1 a2))
theorem sp63_ok {n : Nat} (h : CallOk Try.prog (tabF tl25 n)) : ∀ args r, sp63 n args = some (true, r) → FnOK Try.prog 63 args r := SpR.all (SpR.dat1 fun a0 => SpR.dat1 fun a1 => SpR.dat1 fun a2 => SpR.ansT (fnT_ok (cx_ok h) (normal_ok _) Try.func63 (code_ok_of (cx_ok h) st63) (f63_ev n a0 a1 a2)))
noncomputable def tl26 : List (Nat × Sp) := (63, sp63) :: tl25
theorem tl26_ok (n : Nat) : CallOk Try.prog (tabF tl26 n) := tabF_cons (tl25_ok n) (known_of Try.func63 (by decide +kernel) (by kernel_rfl)) (sp63_ok (tl25_ok n))
/-! f48: sawmill/sawmillref11.Cut -/
abbrev sg48 : Sig := [(false, R8)]
noncomputable def h48 : List (Nat × List Keep) := hintsOf keeps 48
theorem st48 : fnSt Try.f48 = true := by kernel_rfl
noncomputable def b48L7 : Code := sub [1, 1, 1, 1, 1, 0, 1, 0, 0] (bodyOf Try.f48)
def f48L7S (a0 : List (Int × Int × List (Int × Int))) (v3 : Int) (v4 : Int) (v13 : Int) (v14 : Int) (v15 : List (Int × Int × List (Int × Int))) : Sx := ⟨(.node (.imm R1 a0) (.node .undef (.node (.ptr 0 0) (.node (.int .i64 v14) .nil .nil) .nil) (.node (.own 1) .nil .nil)) (.node .undef .nil (.node (.int .i64 v13) .nil .nil))), [(0, .box [(.int .i64 v3), (.int .i64 v4)]), (1, .row R1 v15)], [1], 2⟩
def f48L7X0 (a0 : List (Int × Int × List (Int × Int))) (v3 : Int) (v4 : Int) (v26 : List (Int × Int × List (Int × Int))) : Sx := ⟨(.node .undef (.node .undef .nil (.node (.own 0) .nil .nil)) .nil), [(0, .row R1 v26)], [0], 1⟩
noncomputable def f48L7N (n N m : Nat) (s : Sx) (k : Kont (List (Int × Int × List (Int × Int)))) : Option (List (Int × Int × List (Int × Int))) := loopN (get h48 21) (evCode (cx tl26 n) h48 N b48L7) m s k
theorem f48L7_ok (n N : Nat) (a0 : List (Int × Int × List (Int × Int))) (v3 : Int) (v4 : Int) : ∀ (m : Nat) (v13 : Int) (v14 : Int) (v15 : List (Int × Int × List (Int × Int))) (k : Kont (List (Int × Int × List (Int × Int)))), f48L7N n N m (f48L7S a0 v3 v4 v13 v14 v15) k = f48L7 n a0 v3 v4 m v13 v14 v15 (fun v26 => k.x 0 (f48L7X0 a0 v3 v4 v26)) := by
  intro m
  induction m with
  | zero => intros; rfl
  | succ m ih =>
    intro v13 v14 v15 k
    have h := (by kernel_rfl : f48L7N n N (m + 1) (f48L7S a0 v3 v4 v13 v14 v15) k = f48L7G n a0 v3 v4 v13 v14 v15 (fun v13 v14 v15 => f48L7N n N m (f48L7S a0 v3 v4 v13 v14 v15) k) (fun v26 => k.x 0 (f48L7X0 a0 v3 v4 v26)))
    exact h.trans (congrArg (fun kc => f48L7G n a0 v3 v4 v13 v14 v15 kc (fun v26 => k.x 0 (f48L7X0 a0 v3 v4 v26))) (funext fun v13 => funext fun v14 => funext fun v15 => ih v13 v14 v15 k))
theorem f48_ev_s1 (n N : Nat) (a0 : List (Int × Int × List (Int × Int))) (a1 : Int × Int) : evT (cx tl26 n) h48 N Try.f48 sg48 [encV false R8 a0, encV true R6 a1] = f48G n a0 a1 (fun a0 v3 v4 v13 v14 v15 _ => f48L7N n N N (f48L7S a0 v3 v4 v13 v14 v15) (kAt (cx tl26 n) h48 N [1, 1, 1, 1, 1, 0, 1, 0] (bodyOf Try.f48) (konT (cx tl26 n) Try.f48.results.toList sg48))) := by kernel_rfl
theorem f48_ev_s2 (n N : Nat) (a0 : List (Int × Int × List (Int × Int))) (a1 : Int × Int) : f48G n a0 a1 (fun a0 v3 v4 v13 v14 v15 _ => f48L7 n a0 v3 v4 N v13 v14 v15 (fun v26 => (kAt (cx tl26 n) h48 N [1, 1, 1, 1, 1, 0, 1, 0] (bodyOf Try.f48) (konT (cx tl26 n) Try.f48.results.toList sg48)).x 0 (f48L7X0 a0 v3 v4 v26))) = f48G n a0 a1 (fun a0 v3 v4 => f48L7 n a0 v3 v4 N) := by kernel_rfl
theorem f48_ev (n : Nat) (a0 : List (Int × Int × List (Int × Int))) (a1 : Int × Int) : evT (cx tl26 n) h48 (n + 8) Try.f48 sg48 [encV false R8 a0, encV true R6 a1] = f48 n a0 a1 := by
  have h := (f48_ev_s1 n (n + 8) a0 a1 : evT (cx tl26 n) h48 (n + 8) Try.f48 sg48 [encV false R8 a0, encV true R6 a1] = f48G n a0 a1 (fun a0 v3 v4 v13 v14 v15 _ => f48L7N n (n + 8) (n + 8) (f48L7S a0 v3 v4 v13 v14 v15) (kAt (cx tl26 n) h48 (n + 8) [1, 1, 1, 1, 1, 0, 1, 0] (bodyOf Try.f48) (konT (cx tl26 n) Try.f48.results.toList sg48))))
  replace h := h.trans (congrArg (fun lp => f48G n a0 a1 lp) (funext fun x0 => funext fun x1 => funext fun x2 => funext fun x3 => funext fun x4 => funext fun x5 => funext fun _ => f48L7_ok n (n + 8) x0 x1 x2 (n + 8) x3 x4 x5 (kAt (cx tl26 n) h48 (n + 8) [1, 1, 1, 1, 1, 0, 1, 0] (bodyOf Try.f48) (konT (cx tl26 n) Try.f48.results.toList sg48))))
  replace h := h.trans (f48_ev_s2 n (n + 8) a0 a1 : f48G n a0 a1 (fun a0 v3 v4 v13 v14 v15 _ => f48L7 n a0 v3 v4 (n + 8) v13 v14 v15 (fun v26 => (kAt (cx tl26 n) h48 (n + 8) [1, 1, 1, 1, 1, 0, 1, 0] (bodyOf Try.f48) (konT (cx tl26 n) Try.f48.results.toList sg48)).x 0 (f48L7X0 a0 v3 v4 v26))) = f48G n a0 a1 (fun a0 v3 v4 => f48L7 n a0 v3 v4 (n + 8)))
  exact h
noncomputable def sp48 : Sp := fun n => dat1 false R8 fun a0 => dat1 true R6 fun a1 => dat0 (ansO sg48 (f48 n a0 a1) [])
theorem sp48_ok {n : Nat} (h : CallOk Try.prog (tabF tl26 n)) : ∀ args r, sp48 n args = some (true, r) → FnOK Try.prog 48 args r := SpR.all (SpR.dat1 fun a0 => SpR.dat1 fun a1 => SpR.ansO fun y hy => fnT_ok (cx_ok h) (normal_ok _) Try.func48 (code_ok_of (cx_ok h) st48) ((f48_ev n a0 a1).trans hy))
noncomputable def tl27 : List (Nat × Sp) := (48, sp48) :: tl26
theorem tl27_ok (n : Nat) : CallOk Try.prog (tabF tl27 n) := tabF_cons (tl26_ok n) (known_of Try.func48 (by decide +kernel) (by kernel_rfl)) (sp48_ok (tl26_ok n))
/-! f64: sawmill/sawmillref10.Valid -/
abbrev sg64 : Sig := [(true, R7)]
noncomputable def h64 : List (Nat × List Keep) := hintsOf keeps 64
theorem st64 : fnSt Try.f64 = true := by kernel_rfl
theorem f64_ev (n : Nat) (a0 : Int × List (Int × Int)) : evT (cx tl27 n) h64 (n + 8) Try.f64 sg64 [encV true R7 a0] = f64 n a0 := by
  have h := (by kernel_rfl : evT (cx tl27 n) h64 (n + 8) Try.f64 sg64 [encV true R7 a0] = f64G n a0)
  exact h
noncomputable def sp64 : Sp := fun n => dat1 true R7 fun a0 => dat0 (ansO sg64 (f64 n a0) ((0 : Int), []))
theorem sp64_ok {n : Nat} (h : CallOk Try.prog (tabF tl27 n)) : ∀ args r, sp64 n args = some (true, r) → FnOK Try.prog 64 args r := SpR.all (SpR.dat1 fun a0 => SpR.ansO fun y hy => fnT_ok (cx_ok h) (normal_ok _) Try.func64 (code_ok_of (cx_ok h) st64) ((f64_ev n a0).trans hy))
noncomputable def tl28 : List (Nat × Sp) := (64, sp64) :: tl27
theorem tl28_ok (n : Nat) : CallOk Try.prog (tabF tl28 n) := tabF_cons (tl27_ok n) (known_of Try.func64 (by decide +kernel) (by kernel_rfl)) (sp64_ok (tl27_ok n))
/-! f65: sawmill/sawmillref10.common -/
abbrev sg65 : Sig := [(false, R3)]
noncomputable def h65 : List (Nat × List Keep) := hintsOf keeps 65
theorem st65 : fnSt Try.f65 = true := by kernel_rfl
theorem f65_ev (n : Nat) (a0 : Int × Int) (a1 : Int × Int) : evT (cx tl28 n) h65 (n + 8) Try.f65 sg65 [encV true R6 a0, encV true R6 a1] = some (f65 a0 a1) := (by kernel_rfl : evT (cx tl28 n) h65 (n + 8) Try.f65 sg65 [encV true R6 a0, encV true R6 a1] = f65O a0 a1).trans (f65_o a0 a1)
noncomputable def sp65 : Sp := fun n => dat1 true R6 fun a0 => dat1 true R6 fun a1 => dat0 (ansT sg65 (f65 a0 a1))
theorem sp65_ok {n : Nat} (h : CallOk Try.prog (tabF tl28 n)) : ∀ args r, sp65 n args = some (true, r) → FnOK Try.prog 65 args r := SpR.all (SpR.dat1 fun a0 => SpR.dat1 fun a1 => SpR.ansT (fnT_ok (cx_ok h) (normal_ok _) Try.func65 (code_ok_of (cx_ok h) st65) (f65_ev n a0 a1)))
noncomputable def tl29 : List (Nat × Sp) := (65, sp65) :: tl28
theorem tl29_ok (n : Nat) : CallOk Try.prog (tabF tl29 n) := tabF_cons (tl28_ok n) (known_of Try.func65 (by decide +kernel) (by kernel_rfl)) (sp65_ok (tl28_ok n))
/-! f66: sawmill/sawmillref10.Heights -/
abbrev sg66 : Sig := [(true, R6)]
noncomputable def h66 : List (Nat × List Keep) := hintsOf keeps 66
theorem st66 : fnSt Try.f66 = true := by kernel_rfl
theorem f66_ev (n : Nat) (a0 : Int) : evT (cx tl29 n) h66 (n + 8) Try.f66 sg66 [encV false R3 a0] = some (f66 a0) := (by kernel_rfl : evT (cx tl29 n) h66 (n + 8) Try.f66 sg66 [encV false R3 a0] = f66O a0).trans (f66_o a0)
noncomputable def sp66 : Sp := fun n => dat1 false R3 fun a0 => dat0 (ansT sg66 (f66 a0))
theorem sp66_ok {n : Nat} (h : CallOk Try.prog (tabF tl29 n)) : ∀ args r, sp66 n args = some (true, r) → FnOK Try.prog 66 args r := SpR.all (SpR.dat1 fun a0 => SpR.ansT (fnT_ok (cx_ok h) (normal_ok _) Try.func66 (code_ok_of (cx_ok h) st66) (f66_ev n a0)))
noncomputable def tl30 : List (Nat × Sp) := (66, sp66) :: tl29
theorem tl30_ok (n : Nat) : CallOk Try.prog (tabF tl30 n) := tabF_cons (tl29_ok n) (known_of Try.func66 (by decide +kernel) (by kernel_rfl)) (sp66_ok (tl29_ok n))
/-! f49: sawmill/sawmillref10.Within -/
abbrev sg49 : Sig := [(false, R3)]
noncomputable def h49 : List (Nat × List Keep) := hintsOf keeps 49
theorem st49 : fnSt Try.f49 = true := by kernel_rfl
noncomputable def b49L4 : Code := sub [1, 1, 1, 0, 1, 0, 0] (bodyOf Try.f49)
def f49L4S (v2 : Int × List (Int × Int)) (a1 : Int × Int × Int × Int) (v10 : Int) (v11 : Int) : Sx := ⟨(.node .undef (.node .undef (.node (.ptr 1 0) .nil .nil) (.node (.int .i64 v10) .nil .nil)) (.node (.ptr 0 0) .nil (.node (.int .i64 v11) .nil .nil))), [(0, .box [(.int .i64 v2.1), (.imm R6 v2.2)]), (1, .box [(.int .i64 a1.1), (.int .i64 a1.2.1), (.int .i64 a1.2.2.1), (.int .i64 a1.2.2.2)])], [], 2⟩
def f49L4X0 (v2 : Int × List (Int × Int)) (a1 : Int × Int × Int × Int) (v20 : Int) : Sx := ⟨(.node .undef (.node .undef .nil (.node (.int .i64 v20) .nil .nil)) .nil), [], [], 0⟩
noncomputable def f49L4N (n N m : Nat) (s : Sx) (k : Kont (Int)) : Option (Int) := loopN (get h49 12) (evCode (cx tl30 n) h49 N b49L4) m s k
theorem f49L4_ok (n N : Nat) (v2 : Int × List (Int × Int)) (a1 : Int × Int × Int × Int) : ∀ (m : Nat) (v10 : Int) (v11 : Int) (k : Kont (Int)), f49L4N n N m (f49L4S v2 a1 v10 v11) k = f49L4 n v2 a1 m v10 v11 (fun v20 => k.x 0 (f49L4X0 v2 a1 v20)) := by
  intro m
  induction m with
  | zero => intros; rfl
  | succ m ih =>
    intro v10 v11 k
    have h := (by kernel_rfl : f49L4N n N (m + 1) (f49L4S v2 a1 v10 v11) k = f49L4G n v2 a1 v10 v11 (fun v10 v11 => f49L4N n N m (f49L4S v2 a1 v10 v11) k) (fun v20 => k.x 0 (f49L4X0 v2 a1 v20)))
    exact h.trans (congrArg (fun kc => f49L4G n v2 a1 v10 v11 kc (fun v20 => k.x 0 (f49L4X0 v2 a1 v20))) (funext fun v10 => funext fun v11 => ih v10 v11 k))
theorem f49_ev_s1 (n N : Nat) (a0 : Int × List (Int × Int)) (a1 : Int × Int × Int × Int) : evT (cx tl30 n) h49 N Try.f49 sg49 [encV true R7 a0, encV true R5 a1] = f49G n a0 a1 (fun v2 a1 v10 v11 _ => f49L4N n N N (f49L4S v2 a1 v10 v11) (kAt (cx tl30 n) h49 N [1, 1, 1, 0, 1, 0] (bodyOf Try.f49) (konT (cx tl30 n) Try.f49.results.toList sg49))) := by kernel_rfl
theorem f49_ev_s2 (n N : Nat) (a0 : Int × List (Int × Int)) (a1 : Int × Int × Int × Int) : f49G n a0 a1 (fun v2 a1 v10 v11 _ => f49L4 n v2 a1 N v10 v11 (fun v20 => (kAt (cx tl30 n) h49 N [1, 1, 1, 0, 1, 0] (bodyOf Try.f49) (konT (cx tl30 n) Try.f49.results.toList sg49)).x 0 (f49L4X0 v2 a1 v20))) = f49G n a0 a1 (fun v2 a1 => f49L4 n v2 a1 N) := by kernel_rfl
theorem f49_ev (n : Nat) (a0 : Int × List (Int × Int)) (a1 : Int × Int × Int × Int) : evT (cx tl30 n) h49 (n + 8) Try.f49 sg49 [encV true R7 a0, encV true R5 a1] = f49 n a0 a1 := by
  have h := (f49_ev_s1 n (n + 8) a0 a1 : evT (cx tl30 n) h49 (n + 8) Try.f49 sg49 [encV true R7 a0, encV true R5 a1] = f49G n a0 a1 (fun v2 a1 v10 v11 _ => f49L4N n (n + 8) (n + 8) (f49L4S v2 a1 v10 v11) (kAt (cx tl30 n) h49 (n + 8) [1, 1, 1, 0, 1, 0] (bodyOf Try.f49) (konT (cx tl30 n) Try.f49.results.toList sg49))))
  replace h := h.trans (congrArg (fun lp => f49G n a0 a1 lp) (funext fun x0 => funext fun x1 => funext fun x2 => funext fun x3 => funext fun _ => f49L4_ok n (n + 8) x0 x1 (n + 8) x2 x3 (kAt (cx tl30 n) h49 (n + 8) [1, 1, 1, 0, 1, 0] (bodyOf Try.f49) (konT (cx tl30 n) Try.f49.results.toList sg49))))
  replace h := h.trans (f49_ev_s2 n (n + 8) a0 a1 : f49G n a0 a1 (fun v2 a1 v10 v11 _ => f49L4 n v2 a1 (n + 8) v10 v11 (fun v20 => (kAt (cx tl30 n) h49 (n + 8) [1, 1, 1, 0, 1, 0] (bodyOf Try.f49) (konT (cx tl30 n) Try.f49.results.toList sg49)).x 0 (f49L4X0 v2 a1 v20))) = f49G n a0 a1 (fun v2 a1 => f49L4 n v2 a1 (n + 8)))
  exact h
noncomputable def sp49 : Sp := fun n => dat1 true R7 fun a0 => dat1 true R5 fun a1 => dat0 (ansO sg49 (f49 n a0 a1) (0 : Int))
theorem sp49_ok {n : Nat} (h : CallOk Try.prog (tabF tl30 n)) : ∀ args r, sp49 n args = some (true, r) → FnOK Try.prog 49 args r := SpR.all (SpR.dat1 fun a0 => SpR.dat1 fun a1 => SpR.ansO fun y hy => fnT_ok (cx_ok h) (normal_ok _) Try.func49 (code_ok_of (cx_ok h) st49) ((f49_ev n a0 a1).trans hy))
noncomputable def tl31 : List (Nat × Sp) := (49, sp49) :: tl30
theorem tl31_ok (n : Nat) : CallOk Try.prog (tabF tl31 n) := tabF_cons (tl30_ok n) (known_of Try.func49 (by decide +kernel) (by kernel_rfl)) (sp49_ok (tl30_ok n))
/-! f36: sawmill/sawmillref20.wane -/
abbrev sg36 : Sig := [(false, R3)]
noncomputable def h36 : List (Nat × List Keep) := hintsOf keeps 36
theorem st36 : fnSt Try.f36 = true := by kernel_rfl
noncomputable def b36L5 : Code := sub [1, 1, 1, 1, 0, 1, 0, 0] (bodyOf Try.f36)
def f36L5S (v2 : List (Int × Int × List (Int × Int))) (v5 : Int) (a1 : Int × Int × Int × Int × Int × Int) (v15 : Int) (v16 : Int) : Sx := ⟨(.node .undef (.node .undef (.node (.ptr 0 0) (.node (.int .i64 v15) .nil .nil) .nil) (.node (.imm R1 v2) .nil .nil)) (.node .undef (.node .undef (.node (.int .i64 v16) .nil .nil) .nil) (.node (.int .i64 v5) .nil .nil))), [(0, .box [(.int .i64 a1.1), (.int .i64 a1.2.1), (.int .i64 a1.2.2.1), (.int .i64 a1.2.2.2.1), (.int .i64 a1.2.2.2.2.1), (.int .i64 a1.2.2.2.2.2)])], [], 1⟩
def f36L5X0 (v2 : List (Int × Int × List (Int × Int))) (v5 : Int) (a1 : Int × Int × Int × Int × Int × Int) (v27 : Int) : Sx := ⟨(.node .undef (.node .undef (.node .undef (.node (.int .i64 v27) .nil .nil) .nil) .nil) .nil), [], [], 0⟩
noncomputable def f36L5N (n N m : Nat) (s : Sx) (k : Kont (Int)) : Option (Int) := loopN (get h36 15) (evCode (cx tl31 n) h36 N b36L5) m s k
theorem f36L5_ok (n N : Nat) (v2 : List (Int × Int × List (Int × Int))) (v5 : Int) (a1 : Int × Int × Int × Int × Int × Int) : ∀ (m : Nat) (v15 : Int) (v16 : Int) (k : Kont (Int)), f36L5N n N m (f36L5S v2 v5 a1 v15 v16) k = f36L5 n v2 v5 a1 m v15 v16 (fun v27 => k.x 0 (f36L5X0 v2 v5 a1 v27)) := by
  intro m
  induction m with
  | zero => intros; rfl
  | succ m ih =>
    intro v15 v16 k
    have h := (by kernel_rfl : f36L5N n N (m + 1) (f36L5S v2 v5 a1 v15 v16) k = f36L5G n v2 v5 a1 v15 v16 (fun v15 v16 => f36L5N n N m (f36L5S v2 v5 a1 v15 v16) k) (fun v27 => k.x 0 (f36L5X0 v2 v5 a1 v27)))
    exact h.trans (congrArg (fun kc => f36L5G n v2 v5 a1 v15 v16 kc (fun v27 => k.x 0 (f36L5X0 v2 v5 a1 v27))) (funext fun v15 => funext fun v16 => ih v15 v16 k))
theorem f36_ev_s1 (n N : Nat) (a0 : List (Int × Int × List (Int × Int))) (a1 : Int × Int × Int × Int × Int × Int) : evT (cx tl31 n) h36 N Try.f36 sg36 [encV false R8 a0, encV true R12 a1] = f36G n a0 a1 (fun v2 v5 a1 v15 v16 _ => f36L5N n N N (f36L5S v2 v5 a1 v15 v16) (kAt (cx tl31 n) h36 N [1, 1, 1, 1, 0, 1, 0] (bodyOf Try.f36) (konT (cx tl31 n) Try.f36.results.toList sg36))) := by kernel_rfl
theorem f36_ev_s2 (n N : Nat) (a0 : List (Int × Int × List (Int × Int))) (a1 : Int × Int × Int × Int × Int × Int) : f36G n a0 a1 (fun v2 v5 a1 v15 v16 _ => f36L5 n v2 v5 a1 N v15 v16 (fun v27 => (kAt (cx tl31 n) h36 N [1, 1, 1, 1, 0, 1, 0] (bodyOf Try.f36) (konT (cx tl31 n) Try.f36.results.toList sg36)).x 0 (f36L5X0 v2 v5 a1 v27))) = f36G n a0 a1 (fun v2 v5 a1 => f36L5 n v2 v5 a1 N) := by kernel_rfl
theorem f36_ev (n : Nat) (a0 : List (Int × Int × List (Int × Int))) (a1 : Int × Int × Int × Int × Int × Int) : evT (cx tl31 n) h36 (n + 8) Try.f36 sg36 [encV false R8 a0, encV true R12 a1] = f36 n a0 a1 := by
  have h := (f36_ev_s1 n (n + 8) a0 a1 : evT (cx tl31 n) h36 (n + 8) Try.f36 sg36 [encV false R8 a0, encV true R12 a1] = f36G n a0 a1 (fun v2 v5 a1 v15 v16 _ => f36L5N n (n + 8) (n + 8) (f36L5S v2 v5 a1 v15 v16) (kAt (cx tl31 n) h36 (n + 8) [1, 1, 1, 1, 0, 1, 0] (bodyOf Try.f36) (konT (cx tl31 n) Try.f36.results.toList sg36))))
  replace h := h.trans (congrArg (fun lp => f36G n a0 a1 lp) (funext fun x0 => funext fun x1 => funext fun x2 => funext fun x3 => funext fun x4 => funext fun _ => f36L5_ok n (n + 8) x0 x1 x2 (n + 8) x3 x4 (kAt (cx tl31 n) h36 (n + 8) [1, 1, 1, 1, 0, 1, 0] (bodyOf Try.f36) (konT (cx tl31 n) Try.f36.results.toList sg36))))
  replace h := h.trans (f36_ev_s2 n (n + 8) a0 a1 : f36G n a0 a1 (fun v2 v5 a1 v15 v16 _ => f36L5 n v2 v5 a1 (n + 8) v15 v16 (fun v27 => (kAt (cx tl31 n) h36 (n + 8) [1, 1, 1, 1, 0, 1, 0] (bodyOf Try.f36) (konT (cx tl31 n) Try.f36.results.toList sg36)).x 0 (f36L5X0 v2 v5 a1 v27))) = f36G n a0 a1 (fun v2 v5 a1 => f36L5 n v2 v5 a1 (n + 8)))
  exact h
noncomputable def sp36 : Sp := fun n => dat1 false R8 fun a0 => dat1 true R12 fun a1 => dat0 (ansO sg36 (f36 n a0 a1) (0 : Int))
theorem sp36_ok {n : Nat} (h : CallOk Try.prog (tabF tl31 n)) : ∀ args r, sp36 n args = some (true, r) → FnOK Try.prog 36 args r := SpR.all (SpR.dat1 fun a0 => SpR.dat1 fun a1 => SpR.ansO fun y hy => fnT_ok (cx_ok h) (normal_ok _) Try.func36 (code_ok_of (cx_ok h) st36) ((f36_ev n a0 a1).trans hy))
noncomputable def tl32 : List (Nat × Sp) := (36, sp36) :: tl31
theorem tl32_ok (n : Nat) : CallOk Try.prog (tabF tl32 n) := tabF_cons (tl31_ok n) (known_of Try.func36 (by decide +kernel) (by kernel_rfl)) (sp36_ok (tl31_ok n))
/-! f16: sawmill/sawmillref20.Wane -/
abbrev sg16 : Sig := [(false, R3)]
noncomputable def h16 : List (Nat × List Keep) := hintsOf keeps 16
theorem st16 : fnSt Try.f16 = true := by kernel_rfl
theorem f16_ev (n : Nat) (a0 : List (Int × Int × List (Int × Int))) (a1 : Int × Int × Int × Int × Int × Int) : evT (cx tl32 n) h16 (n + 8) Try.f16 sg16 [encV false R8 a0, encV true R12 a1] = f16 n a0 a1 := by
  have h := (by kernel_rfl : evT (cx tl32 n) h16 (n + 8) Try.f16 sg16 [encV false R8 a0, encV true R12 a1] = f16G n a0 a1)
  exact h
noncomputable def sp16 : Sp := fun n => dat1 false R8 fun a0 => dat1 true R12 fun a1 => dat0 (ansO sg16 (f16 n a0 a1) (0 : Int))
theorem sp16_ok {n : Nat} (h : CallOk Try.prog (tabF tl32 n)) : ∀ args r, sp16 n args = some (true, r) → FnOK Try.prog 16 args r := SpR.all (SpR.dat1 fun a0 => SpR.dat1 fun a1 => SpR.ansO fun y hy => fnT_ok (cx_ok h) (normal_ok _) Try.func16 (code_ok_of (cx_ok h) st16) ((f16_ev n a0 a1).trans hy))
noncomputable def tl33 : List (Nat × Sp) := (16, sp16) :: tl32
theorem tl33_ok (n : Nat) : CallOk Try.prog (tabF tl33 n) := tabF_cons (tl32_ok n) (known_of Try.func16 (by decide +kernel) (by kernel_rfl)) (sp16_ok (tl32_ok n))
/-! f4: sawmill/sawmilllaw20.WorthWanes -/
abbrev sg4 : Sig := [(false, R0)]
noncomputable def h4 : List (Nat × List Keep) := hintsOf keeps 4
theorem st4 : fnSt Try.f4 = true := by kernel_rfl
theorem f4_ev (n : Nat) (a0 : List (Int × Int × List (Int × Int))) (a1 : Int × Int × Int × Int × Int × Int) : evT (cx tl33 n) h4 (n + 8) Try.f4 sg4 [encV false R8 a0, encV true R12 a1] = f4 n a0 a1 := by
  have h := (by kernel_rfl : evT (cx tl33 n) h4 (n + 8) Try.f4 sg4 [encV false R8 a0, encV true R12 a1] = f4G n a0 a1)
  exact h
noncomputable def sp4 : Sp := fun n => dat1 false R8 fun a0 => dat1 true R12 fun a1 => dat0 (ansO sg4 (f4 n a0 a1) false)
theorem sp4_ok {n : Nat} (h : CallOk Try.prog (tabF tl33 n)) : ∀ args r, sp4 n args = some (true, r) → FnOK Try.prog 4 args r := SpR.all (SpR.dat1 fun a0 => SpR.dat1 fun a1 => SpR.ansO fun y hy => fnT_ok (cx_ok h) (normal_ok _) Try.func4 (code_ok_of (cx_ok h) st4) ((f4_ev n a0 a1).trans hy))
noncomputable def tl34 : List (Nat × Sp) := (4, sp4) :: tl33
theorem tl34_ok (n : Nat) : CallOk Try.prog (tabF tl34 n) := tabF_cons (tl33_ok n) (known_of Try.func4 (by decide +kernel) (by kernel_rfl)) (sp4_ok (tl33_ok n))
/-! f91: sawmill/defect.axes -/
abbrev sg91 : Sig := [(true, R12)]
noncomputable def h91 : List (Nat × List Keep) := hintsOf keeps 91
theorem st91 : fnSt Try.f91 = true := by kernel_rfl
theorem f91_ev (n : Nat) (a0 : Int × Int × Int × Int × Int × Int) : evT (cx tl34 n) h91 (n + 8) Try.f91 sg91 [encV true R12 a0] = some (f91 a0) := (by kernel_rfl : evT (cx tl34 n) h91 (n + 8) Try.f91 sg91 [encV true R12 a0] = f91O a0).trans (f91_o a0)
noncomputable def sp91 : Sp := fun n => dat1 true R12 fun a0 => dat0 (ansT sg91 (f91 a0))
theorem sp91_ok {n : Nat} (h : CallOk Try.prog (tabF tl34 n)) : ∀ args r, sp91 n args = some (true, r) → FnOK Try.prog 91 args r := SpR.all (SpR.dat1 fun a0 => SpR.ansT (fnT_ok (cx_ok h) (normal_ok _) Try.func91 (code_ok_of (cx_ok h) st91) (f91_ev n a0)))
noncomputable def tl35 : List (Nat × Sp) := (91, sp91) :: tl34
theorem tl35_ok (n : Nat) : CallOk Try.prog (tabF tl35 n) := tabF_cons (tl34_ok n) (known_of Try.func91 (by decide +kernel) (by kernel_rfl)) (sp91_ok (tl34_ok n))
/-! f92: sawmill/defect.within -/
abbrev sg92 : Sig := [(false, R0)]
noncomputable def h92 : List (Nat × List Keep) := hintsOf keeps 92
theorem st92 : fnSt Try.f92 = true := by kernel_rfl
theorem f92_ev (n : Nat) (a0 : Int × Int) (a1 : Int) (a2 : Int) : evT (cx tl35 n) h92 (n + 8) Try.f92 sg92 [encV true R6 a0, encV false R3 a1, encV false R3 a2] = some (f92 a0 a1 a2) := (by kernel_rfl : evT (cx tl35 n) h92 (n + 8) Try.f92 sg92 [encV true R6 a0, encV false R3 a1, encV false R3 a2] = f92O a0 a1 a2).trans (f92_o a0 a1 a2)
noncomputable def sp92 : Sp := fun n => dat1 true R6 fun a0 => dat1 false R3 fun a1 => dat1 false R3 fun a2 => dat0 (ansT sg92 (f92 a0 a1 a2))
theorem sp92_ok {n : Nat} (h : CallOk Try.prog (tabF tl35 n)) : ∀ args r, sp92 n args = some (true, r) → FnOK Try.prog 92 args r := SpR.all (SpR.dat1 fun a0 => SpR.dat1 fun a1 => SpR.dat1 fun a2 => SpR.ansT (fnT_ok (cx_ok h) (normal_ok _) Try.func92 (code_ok_of (cx_ok h) st92) (f92_ev n a0 a1 a2)))
noncomputable def tl36 : List (Nat × Sp) := (92, sp92) :: tl35
theorem tl36_ok (n : Nat) : CallOk Try.prog (tabF tl36 n) := tabF_cons (tl35_ok n) (known_of Try.func92 (by decide +kernel) (by kernel_rfl)) (sp92_ok (tl35_ok n))
/-! f80: sawmill/defect.flawed -/
abbrev sg80 : Sig := [(false, R3)]
noncomputable def h80 : List (Nat × List Keep) := hintsOf keeps 80
theorem st80 : fnSt Try.f80 = true := by kernel_rfl
theorem f80_ev (n : Nat) (a0 : Int × Int × Int × Int × Int × Int × Int) : evT (cx tl36 n) h80 (n + 8) Try.f80 sg80 [encV true R2 a0] = some (f80 a0) := (by kernel_rfl : evT (cx tl36 n) h80 (n + 8) Try.f80 sg80 [encV true R2 a0] = f80O a0).trans (f80_o a0)
noncomputable def sp80 : Sp := fun n => dat1 true R2 fun a0 => dat0 (ansT sg80 (f80 a0))
theorem sp80_ok {n : Nat} (h : CallOk Try.prog (tabF tl36 n)) : ∀ args r, sp80 n args = some (true, r) → FnOK Try.prog 80 args r := SpR.all (SpR.dat1 fun a0 => SpR.ansT (fnT_ok (cx_ok h) (normal_ok _) Try.func80 (code_ok_of (cx_ok h) st80) (f80_ev n a0)))
noncomputable def tl37 : List (Nat × Sp) := (80, sp80) :: tl36
theorem tl37_ok (n : Nat) : CallOk Try.prog (tabF tl37 n) := tabF_cons (tl36_ok n) (known_of Try.func80 (by decide +kernel) (by kernel_rfl)) (sp80_ok (tl36_ok n))
/-! f67: sawmill/defect.Check -/
abbrev sg67 : Sig := [(false, R3)]
noncomputable def h67 : List (Nat × List Keep) := hintsOf keeps 67
theorem st67 : fnSt Try.f67 = true := by kernel_rfl
noncomputable def b67L4 : Code := sub [1, 1, 0, 1, 0, 0] (bodyOf Try.f67)
def f67L4S (a0 : List (Int × Int × Int × Int × Int × Int × Int)) (v3 : Int) : Sx := ⟨(.node .undef (.node .undef (.node .undef .nil (.node (.int .i64 v3) .nil .nil)) (.node .undef (.node (.imm R2 a0) .nil .nil) .nil)) (.node .undef .nil (.node .undef (.node (.int .i64 (a0.length : Int)) .nil .nil) .nil))), [], [], 0⟩
def f67L4Xret (a0 : List (Int × Int × Int × Int × Int × Int × Int)) (v7 : Int) : Sx := ⟨(.node .undef .nil (.node (.int .i64 v7) .nil .nil)), [], [], 0⟩
def f67L4X0 (a0 : List (Int × Int × Int × Int × Int × Int × Int)) : Sx := ⟨.nil, [], [], 0⟩
noncomputable def f67L4N (n N m : Nat) (s : Sx) (k : Kont (Int)) : Option (Int) := loopN (get h67 12) (evCode (cx tl37 n) h67 N b67L4) m s k
theorem f67L4_ok (n N : Nat) (a0 : List (Int × Int × Int × Int × Int × Int × Int)) : ∀ (m : Nat) (v3 : Int) (k : Kont (Int)), f67L4N n N m (f67L4S a0 v3) k = f67L4 n a0 m v3 (fun v7 => k.r (f67L4Xret a0 v7)) (k.x 0 (f67L4X0 a0)) := by
  intro m
  induction m with
  | zero => intros; rfl
  | succ m ih =>
    intro v3 k
    have h := (by kernel_rfl : f67L4N n N (m + 1) (f67L4S a0 v3) k = f67L4G n a0 v3 (fun v3 => f67L4N n N m (f67L4S a0 v3) k) (fun v7 => k.r (f67L4Xret a0 v7)) (k.x 0 (f67L4X0 a0)))
    exact h.trans (congrArg (fun kc => f67L4G n a0 v3 kc (fun v7 => k.r (f67L4Xret a0 v7)) (k.x 0 (f67L4X0 a0))) (funext fun v3 => ih v3 k))
theorem f67_ev_s1 (n N : Nat) (a0 : List (Int × Int × Int × Int × Int × Int × Int)) : evT (cx tl37 n) h67 N Try.f67 sg67 [encV false R13 a0] = f67G n a0 (fun a0 v3 _ _ => f67L4N n N N (f67L4S a0 v3) (kAt (cx tl37 n) h67 N [1, 1, 0, 1, 0] (bodyOf Try.f67) (konT (cx tl37 n) Try.f67.results.toList sg67))) := by kernel_rfl
theorem f67_ev_s2 (n N : Nat) (a0 : List (Int × Int × Int × Int × Int × Int × Int)) : f67G n a0 (fun a0 v3 _ _ => f67L4 n a0 N v3 (fun v7 => (kAt (cx tl37 n) h67 N [1, 1, 0, 1, 0] (bodyOf Try.f67) (konT (cx tl37 n) Try.f67.results.toList sg67)).r (f67L4Xret a0 v7)) ((kAt (cx tl37 n) h67 N [1, 1, 0, 1, 0] (bodyOf Try.f67) (konT (cx tl37 n) Try.f67.results.toList sg67)).x 0 (f67L4X0 a0))) = f67G n a0 (fun a0 => f67L4 n a0 N) := by kernel_rfl
theorem f67_ev (n : Nat) (a0 : List (Int × Int × Int × Int × Int × Int × Int)) : evT (cx tl37 n) h67 (n + 8) Try.f67 sg67 [encV false R13 a0] = f67 n a0 := by
  have h := (f67_ev_s1 n (n + 8) a0 : evT (cx tl37 n) h67 (n + 8) Try.f67 sg67 [encV false R13 a0] = f67G n a0 (fun a0 v3 _ _ => f67L4N n (n + 8) (n + 8) (f67L4S a0 v3) (kAt (cx tl37 n) h67 (n + 8) [1, 1, 0, 1, 0] (bodyOf Try.f67) (konT (cx tl37 n) Try.f67.results.toList sg67))))
  replace h := h.trans (congrArg (fun lp => f67G n a0 lp) (funext fun x0 => funext fun x1 => funext fun _ => funext fun _ => f67L4_ok n (n + 8) x0 (n + 8) x1 (kAt (cx tl37 n) h67 (n + 8) [1, 1, 0, 1, 0] (bodyOf Try.f67) (konT (cx tl37 n) Try.f67.results.toList sg67))))
  replace h := h.trans (f67_ev_s2 n (n + 8) a0 : f67G n a0 (fun a0 v3 _ _ => f67L4 n a0 (n + 8) v3 (fun v7 => (kAt (cx tl37 n) h67 (n + 8) [1, 1, 0, 1, 0] (bodyOf Try.f67) (konT (cx tl37 n) Try.f67.results.toList sg67)).r (f67L4Xret a0 v7)) ((kAt (cx tl37 n) h67 (n + 8) [1, 1, 0, 1, 0] (bodyOf Try.f67) (konT (cx tl37 n) Try.f67.results.toList sg67)).x 0 (f67L4X0 a0))) = f67G n a0 (fun a0 => f67L4 n a0 (n + 8)))
  exact h
noncomputable def sp67 : Sp := fun n => dat1 false R13 fun a0 => dat0 (ansO sg67 (f67 n a0) (0 : Int))
theorem sp67_ok {n : Nat} (h : CallOk Try.prog (tabF tl37 n)) : ∀ args r, sp67 n args = some (true, r) → FnOK Try.prog 67 args r := SpR.all (SpR.dat1 fun a0 => SpR.ansO fun y hy => fnT_ok (cx_ok h) (normal_ok _) Try.func67 (code_ok_of (cx_ok h) st67) ((f67_ev n a0).trans hy))
noncomputable def tl38 : List (Nat × Sp) := (67, sp67) :: tl37
theorem tl38_ok (n : Nat) : CallOk Try.prog (tabF tl38 n) := tabF_cons (tl37_ok n) (known_of Try.func67 (by decide +kernel) (by kernel_rfl)) (sp67_ok (tl37_ok n))
/-! f93: sawmill/ident.digit -/
abbrev sg93 : Sig := [(false, R0)]
noncomputable def h93 : List (Nat × List Keep) := hintsOf keeps 93
theorem st93 : fnSt Try.f93 = true := by kernel_rfl
theorem f93_ev (n : Nat) (a0 : Int) : evT (cx tl38 n) h93 (n + 8) Try.f93 sg93 [encV false R14 a0] = some (f93 a0) := (by kernel_rfl : evT (cx tl38 n) h93 (n + 8) Try.f93 sg93 [encV false R14 a0] = f93O a0).trans (f93_o a0)
noncomputable def sp93 : Sp := fun n => dat1 false R14 fun a0 => dat0 (ansT sg93 (f93 a0))
theorem sp93_ok {n : Nat} (h : CallOk Try.prog (tabF tl38 n)) : ∀ args r, sp93 n args = some (true, r) → FnOK Try.prog 93 args r := SpR.all (SpR.dat1 fun a0 => SpR.ansT (fnT_ok (cx_ok h) (normal_ok _) Try.func93 (code_ok_of (cx_ok h) st93) (f93_ev n a0)))
noncomputable def tl39 : List (Nat × Sp) := (93, sp93) :: tl38
theorem tl39_ok (n : Nat) : CallOk Try.prog (tabF tl39 n) := tabF_cons (tl38_ok n) (known_of Try.func93 (by decide +kernel) (by kernel_rfl)) (sp93_ok (tl38_ok n))
/-! f81: sawmill/ident.IsName -/
abbrev sg81 : Sig := [(false, R0)]
noncomputable def h81 : List (Nat × List Keep) := hintsOf keeps 81
theorem st81 : fnSt Try.f81 = true := by kernel_rfl
noncomputable def b81L4 : Code := sub [1, 1, 0, 1, 0, 0] (bodyOf Try.f81)
def f81L4S (a0 : ByteArray) (v6 : Int) : Sx := ⟨(.node (.str a0) (.node .undef (.node .undef (.node .undef .nil (.node (.int .i64 (a0.size : Int)) .nil .nil)) .nil) .nil) (.node .undef (.node .undef (.node .undef .nil (.node (.int .i64 v6) .nil .nil)) .nil) .nil)), [], [], 0⟩
def f81L4Xret (a0 : ByteArray) : Sx := ⟨(.node .undef .nil (.node (.bool false) .nil .nil)), [], [], 0⟩
def f81L4X0 (a0 : ByteArray) : Sx := ⟨.nil, [], [], 0⟩
noncomputable def f81L4N (n N m : Nat) (s : Sx) (k : Kont (Bool)) : Option (Bool) := loopN (get h81 12) (evCode (cx tl39 n) h81 N b81L4) m s k
theorem f81L4_ok (n N : Nat) (a0 : ByteArray) : ∀ (m : Nat) (v6 : Int) (k : Kont (Bool)), f81L4N n N m (f81L4S a0 v6) k = f81L4 n a0 m v6 (k.r (f81L4Xret a0)) (k.x 0 (f81L4X0 a0)) := by
  intro m
  induction m with
  | zero => intros; rfl
  | succ m ih =>
    intro v6 k
    have h := (by kernel_rfl : f81L4N n N (m + 1) (f81L4S a0 v6) k = f81L4G n a0 v6 (fun v6 => f81L4N n N m (f81L4S a0 v6) k) (k.r (f81L4Xret a0)) (k.x 0 (f81L4X0 a0)))
    exact h.trans (congrArg (fun kc => f81L4G n a0 v6 kc (k.r (f81L4Xret a0)) (k.x 0 (f81L4X0 a0))) (funext fun v6 => ih v6 k))
theorem f81_ev_s1 (n N : Nat) (a0 : ByteArray) : evT (cx tl39 n) h81 N Try.f81 sg81 [encV false R15 a0] = f81G n a0 (fun a0 v6 _ _ => f81L4N n N N (f81L4S a0 v6) (kAt (cx tl39 n) h81 N [1, 1, 0, 1, 0] (bodyOf Try.f81) (konT (cx tl39 n) Try.f81.results.toList sg81))) := by kernel_rfl
theorem f81_ev_s2 (n N : Nat) (a0 : ByteArray) : f81G n a0 (fun a0 v6 _ _ => f81L4 n a0 N v6 ((kAt (cx tl39 n) h81 N [1, 1, 0, 1, 0] (bodyOf Try.f81) (konT (cx tl39 n) Try.f81.results.toList sg81)).r (f81L4Xret a0)) ((kAt (cx tl39 n) h81 N [1, 1, 0, 1, 0] (bodyOf Try.f81) (konT (cx tl39 n) Try.f81.results.toList sg81)).x 0 (f81L4X0 a0))) = f81G n a0 (fun a0 => f81L4 n a0 N) := by kernel_rfl
theorem f81_ev (n : Nat) (a0 : ByteArray) : evT (cx tl39 n) h81 (n + 8) Try.f81 sg81 [encV false R15 a0] = f81 n a0 := by
  have h := (f81_ev_s1 n (n + 8) a0 : evT (cx tl39 n) h81 (n + 8) Try.f81 sg81 [encV false R15 a0] = f81G n a0 (fun a0 v6 _ _ => f81L4N n (n + 8) (n + 8) (f81L4S a0 v6) (kAt (cx tl39 n) h81 (n + 8) [1, 1, 0, 1, 0] (bodyOf Try.f81) (konT (cx tl39 n) Try.f81.results.toList sg81))))
  replace h := h.trans (congrArg (fun lp => f81G n a0 lp) (funext fun x0 => funext fun x1 => funext fun _ => funext fun _ => f81L4_ok n (n + 8) x0 (n + 8) x1 (kAt (cx tl39 n) h81 (n + 8) [1, 1, 0, 1, 0] (bodyOf Try.f81) (konT (cx tl39 n) Try.f81.results.toList sg81))))
  replace h := h.trans (f81_ev_s2 n (n + 8) a0 : f81G n a0 (fun a0 v6 _ _ => f81L4 n a0 (n + 8) v6 ((kAt (cx tl39 n) h81 (n + 8) [1, 1, 0, 1, 0] (bodyOf Try.f81) (konT (cx tl39 n) Try.f81.results.toList sg81)).r (f81L4Xret a0)) ((kAt (cx tl39 n) h81 (n + 8) [1, 1, 0, 1, 0] (bodyOf Try.f81) (konT (cx tl39 n) Try.f81.results.toList sg81)).x 0 (f81L4X0 a0))) = f81G n a0 (fun a0 => f81L4 n a0 (n + 8)))
  exact h
noncomputable def sp81 : Sp := fun n => dat1 false R15 fun a0 => dat0 (ansO sg81 (f81 n a0) false)
theorem sp81_ok {n : Nat} (h : CallOk Try.prog (tabF tl39 n)) : ∀ args r, sp81 n args = some (true, r) → FnOK Try.prog 81 args r := SpR.all (SpR.dat1 fun a0 => SpR.ansO fun y hy => fnT_ok (cx_ok h) (normal_ok _) Try.func81 (code_ok_of (cx_ok h) st81) ((f81_ev n a0).trans hy))
noncomputable def tl40 : List (Nat × Sp) := (81, sp81) :: tl39
theorem tl40_ok (n : Nat) : CallOk Try.prog (tabF tl40 n) := tabF_cons (tl39_ok n) (known_of Try.func81 (by decide +kernel) (by kernel_rfl)) (sp81_ok (tl39_ok n))
/-! f82: sawmill/product.Find -/
abbrev sg82 : Sig := [(false, R3), (false, R0)]
noncomputable def h82 : List (Nat × List Keep) := hintsOf keeps 82
theorem st82 : fnSt Try.f82 = true := by kernel_rfl
noncomputable def b82L2 : Code := sub [1, 0, 1, 0, 0] (bodyOf Try.f82)
def f82L2S (a1 : ByteArray) (a0 : List (ByteArray × Int × Int × Int × Int × List Int × List Int)) (v2 : Int) : Sx := ⟨(.node .undef (.node (.str a1) .nil (.node .undef (.node (.int .i64 (a0.length : Int)) .nil .nil) .nil)) (.node .undef (.node .undef (.node (.imm R16 a0) .nil .nil) .nil) (.node .undef (.node (.int .i64 v2) .nil .nil) .nil))), [], [], 0⟩
def f82L2Xret (a1 : ByteArray) (a0 : List (ByteArray × Int × Int × Int × Int × List Int × List Int)) (v5 : Int) : Sx := ⟨(.node .undef (.node .undef .nil (.node (.bool true) .nil .nil)) (.node .undef (.node (.int .i64 v5) .nil .nil) .nil)), [], [], 0⟩
def f82L2X0 (a1 : ByteArray) (a0 : List (ByteArray × Int × Int × Int × Int × List Int × List Int)) : Sx := ⟨.nil, [], [], 0⟩
noncomputable def f82L2N (n N m : Nat) (s : Sx) (k : Kont (Int × Bool)) : Option (Int × Bool) := loopN (get h82 6) (evCode (cx tl40 n) h82 N b82L2) m s k
theorem f82L2_ok (n N : Nat) (a1 : ByteArray) (a0 : List (ByteArray × Int × Int × Int × Int × List Int × List Int)) : ∀ (m : Nat) (v2 : Int) (k : Kont (Int × Bool)), f82L2N n N m (f82L2S a1 a0 v2) k = f82L2 n a1 a0 m v2 (fun v5 => k.r (f82L2Xret a1 a0 v5)) (k.x 0 (f82L2X0 a1 a0)) := by
  intro m
  induction m with
  | zero => intros; rfl
  | succ m ih =>
    intro v2 k
    have h := (by kernel_rfl : f82L2N n N (m + 1) (f82L2S a1 a0 v2) k = f82L2G n a1 a0 v2 (fun v2 => f82L2N n N m (f82L2S a1 a0 v2) k) (fun v5 => k.r (f82L2Xret a1 a0 v5)) (k.x 0 (f82L2X0 a1 a0)))
    exact h.trans (congrArg (fun kc => f82L2G n a1 a0 v2 kc (fun v5 => k.r (f82L2Xret a1 a0 v5)) (k.x 0 (f82L2X0 a1 a0))) (funext fun v2 => ih v2 k))
theorem f82_ev_s1 (n N : Nat) (a0 : List (ByteArray × Int × Int × Int × Int × List Int × List Int)) (a1 : ByteArray) : evT (cx tl40 n) h82 N Try.f82 sg82 [encV false R17 a0, encV false R15 a1] = f82G n a0 a1 (fun a1 a0 v2 _ _ => f82L2N n N N (f82L2S a1 a0 v2) (kAt (cx tl40 n) h82 N [1, 0, 1, 0] (bodyOf Try.f82) (konT (cx tl40 n) Try.f82.results.toList sg82))) := by kernel_rfl
theorem f82_ev_s2 (n N : Nat) (a0 : List (ByteArray × Int × Int × Int × Int × List Int × List Int)) (a1 : ByteArray) : f82G n a0 a1 (fun a1 a0 v2 _ _ => f82L2 n a1 a0 N v2 (fun v5 => (kAt (cx tl40 n) h82 N [1, 0, 1, 0] (bodyOf Try.f82) (konT (cx tl40 n) Try.f82.results.toList sg82)).r (f82L2Xret a1 a0 v5)) ((kAt (cx tl40 n) h82 N [1, 0, 1, 0] (bodyOf Try.f82) (konT (cx tl40 n) Try.f82.results.toList sg82)).x 0 (f82L2X0 a1 a0))) = f82G n a0 a1 (fun a1 a0 => f82L2 n a1 a0 N) := by kernel_rfl
theorem f82_ev (n : Nat) (a0 : List (ByteArray × Int × Int × Int × Int × List Int × List Int)) (a1 : ByteArray) : evT (cx tl40 n) h82 (n + 8) Try.f82 sg82 [encV false R17 a0, encV false R15 a1] = f82 n a0 a1 := by
  have h := (f82_ev_s1 n (n + 8) a0 a1 : evT (cx tl40 n) h82 (n + 8) Try.f82 sg82 [encV false R17 a0, encV false R15 a1] = f82G n a0 a1 (fun a1 a0 v2 _ _ => f82L2N n (n + 8) (n + 8) (f82L2S a1 a0 v2) (kAt (cx tl40 n) h82 (n + 8) [1, 0, 1, 0] (bodyOf Try.f82) (konT (cx tl40 n) Try.f82.results.toList sg82))))
  replace h := h.trans (congrArg (fun lp => f82G n a0 a1 lp) (funext fun x0 => funext fun x1 => funext fun x2 => funext fun _ => funext fun _ => f82L2_ok n (n + 8) x0 x1 (n + 8) x2 (kAt (cx tl40 n) h82 (n + 8) [1, 0, 1, 0] (bodyOf Try.f82) (konT (cx tl40 n) Try.f82.results.toList sg82))))
  replace h := h.trans (f82_ev_s2 n (n + 8) a0 a1 : f82G n a0 a1 (fun a1 a0 v2 _ _ => f82L2 n a1 a0 (n + 8) v2 (fun v5 => (kAt (cx tl40 n) h82 (n + 8) [1, 0, 1, 0] (bodyOf Try.f82) (konT (cx tl40 n) Try.f82.results.toList sg82)).r (f82L2Xret a1 a0 v5)) ((kAt (cx tl40 n) h82 (n + 8) [1, 0, 1, 0] (bodyOf Try.f82) (konT (cx tl40 n) Try.f82.results.toList sg82)).x 0 (f82L2X0 a1 a0))) = f82G n a0 a1 (fun a1 a0 => f82L2 n a1 a0 (n + 8)))
  exact h
noncomputable def sp82 : Sp := fun n => dat1 false R17 fun a0 => dat1 false R15 fun a1 => dat0 (ansO sg82 (f82 n a0 a1) ((0 : Int), false))
theorem sp82_ok {n : Nat} (h : CallOk Try.prog (tabF tl40 n)) : ∀ args r, sp82 n args = some (true, r) → FnOK Try.prog 82 args r := SpR.all (SpR.dat1 fun a0 => SpR.dat1 fun a1 => SpR.ansO fun y hy => fnT_ok (cx_ok h) (normal_ok _) Try.func82 (code_ok_of (cx_ok h) st82) ((f82_ev n a0 a1).trans hy))
noncomputable def tl41 : List (Nat × Sp) := (82, sp82) :: tl40
theorem tl41_ok (n : Nat) : CallOk Try.prog (tabF tl41 n) := tabF_cons (tl40_ok n) (known_of Try.func82 (by decide +kernel) (by kernel_rfl)) (sp82_ok (tl40_ok n))
/-! f94: sawmill/units.Floor$1 -/
abbrev sg94 : Sig := [(false, R0)]
noncomputable def h94 : List (Nat × List Keep) := hintsOf keeps 94
theorem st94 : fnSt Try.f94 = true := by kernel_rfl
theorem f94_ev (n : Nat) (a0 : Int) (a1 : Int) : evT (cx tl41 n) h94 (n + 8) Try.f94 sg94 [encV false R3 a0, encV false R3 a1] = some (f94 a0 a1) := (by kernel_rfl : evT (cx tl41 n) h94 (n + 8) Try.f94 sg94 [encV false R3 a0, encV false R3 a1] = f94O a0 a1).trans (f94_o a0 a1)
noncomputable def sp94 : Sp := fun n => dat1 false R3 fun a0 => dat1 false R3 fun a1 => dat0 (ansT sg94 (f94 a0 a1))
theorem sp94_ok {n : Nat} (h : CallOk Try.prog (tabF tl41 n)) : ∀ args r, sp94 n args = some (true, r) → FnOK Try.prog 94 args r := SpR.all (SpR.dat1 fun a0 => SpR.dat1 fun a1 => SpR.ansT (fnT_ok (cx_ok h) (normal_ok _) Try.func94 (code_ok_of (cx_ok h) st94) (f94_ev n a0 a1)))
noncomputable def tl42 : List (Nat × Sp) := (94, sp94) :: tl41
theorem tl42_ok (n : Nat) : CallOk Try.prog (tabF tl42 n) := tabF_cons (tl41_ok n) (known_of Try.func94 (by decide +kernel) (by kernel_rfl)) (sp94_ok (tl41_ok n))
/-! f95i0: (sawmill/units.division).of -/
abbrev sg95i0 : Sig := [(false, R3), (false, R0)]
noncomputable def h95i0 : List (Nat × List Keep) := hintsOf keeps 95
theorem st95i0 : fnSt Try.f95 = true := by kernel_rfl
theorem f95i0_ev (n : Nat) (a0 : Int) (a1 : Int) : evT (cx tl42 n) h95i0 (n + 8) Try.f95 sg95i0 [(.agg [(.fn 94 [])]), encV false R3 a0, encV false R3 a1] = f95i0 a0 a1 := by
  have h := (by kernel_rfl : evT (cx tl42 n) h95i0 (n + 8) Try.f95 sg95i0 [(.agg [(.fn 94 [])]), encV false R3 a0, encV false R3 a1] = f95i0G a0 a1)
  exact h
noncomputable def sp95i0 : Sp := fun n => sta1 (.agg [(.fn 94 [])]) (dat1 false R3 fun a0 => dat1 false R3 fun a1 => dat0 (ansO sg95i0 (f95i0 a0 a1) ((0 : Int), false)))
theorem sp95i0_ok {n : Nat} (h : CallOk Try.prog (tabF tl42 n)) : ∀ args r, sp95i0 n args = some (true, r) → FnOK Try.prog 95 args r := SpR.all (SpR.sta1 (SpR.dat1 fun a0 => SpR.dat1 fun a1 => SpR.ansO fun y hy => fnT_ok (cx_ok h) (normal_ok _) Try.func95 (code_ok_of (cx_ok h) st95i0) ((f95i0_ev n a0 a1).trans hy)))
noncomputable def tl43 : List (Nat × Sp) := (95, sp95i0) :: tl42
theorem tl43_ok (n : Nat) : CallOk Try.prog (tabF tl43 n) := tabF_cons (tl42_ok n) (known_of Try.func95 (by decide +kernel) (by kernel_rfl)) (sp95i0_ok (tl42_ok n))
/-! f85: sawmill/units.Floor -/
abbrev sg85 : Sig := [(false, R3), (false, R0)]
noncomputable def h85 : List (Nat × List Keep) := hintsOf keeps 85
theorem st85 : fnSt Try.f85 = true := by kernel_rfl
theorem f85_ev (n : Nat) (a0 : Int) (a1 : Int) : evT (cx tl43 n) h85 (n + 8) Try.f85 sg85 [encV false R3 a0, encV false R3 a1] = f85 a0 a1 := by
  have h := (by kernel_rfl : evT (cx tl43 n) h85 (n + 8) Try.f85 sg85 [encV false R3 a0, encV false R3 a1] = f85G a0 a1)
  exact h
noncomputable def sp85 : Sp := fun n => dat1 false R3 fun a0 => dat1 false R3 fun a1 => dat0 (ansO sg85 (f85 a0 a1) ((0 : Int), false))
theorem sp85_ok {n : Nat} (h : CallOk Try.prog (tabF tl43 n)) : ∀ args r, sp85 n args = some (true, r) → FnOK Try.prog 85 args r := SpR.all (SpR.dat1 fun a0 => SpR.dat1 fun a1 => SpR.ansO fun y hy => fnT_ok (cx_ok h) (normal_ok _) Try.func85 (code_ok_of (cx_ok h) st85) ((f85_ev n a0 a1).trans hy))
noncomputable def tl44 : List (Nat × Sp) := (85, sp85) :: tl43
theorem tl44_ok (n : Nat) : CallOk Try.prog (tabF tl44 n) := tabF_cons (tl43_ok n) (known_of Try.func85 (by decide +kernel) (by kernel_rfl)) (sp85_ok (tl43_ok n))
/-! f69: sawmill/product.Green -/
abbrev sg69 : Sig := [(false, R3), (false, R3)]
noncomputable def h69 : List (Nat × List Keep) := hintsOf keeps 69
theorem st69 : fnSt Try.f69 = true := by kernel_rfl
theorem f69_ev (n : Nat) (a0 : ByteArray × Int × Int × Int × Int × List Int × List Int) : evT (cx tl44 n) h69 (n + 8) Try.f69 sg69 [encV true R16 a0] = f69 a0 := by
  have h := (by kernel_rfl : evT (cx tl44 n) h69 (n + 8) Try.f69 sg69 [encV true R16 a0] = f69G a0)
  exact h
noncomputable def sp69 : Sp := fun n => dat1 true R16 fun a0 => dat0 (ansO sg69 (f69 a0) ((0 : Int), (0 : Int)))
theorem sp69_ok {n : Nat} (h : CallOk Try.prog (tabF tl44 n)) : ∀ args r, sp69 n args = some (true, r) → FnOK Try.prog 69 args r := SpR.all (SpR.dat1 fun a0 => SpR.ansO fun y hy => fnT_ok (cx_ok h) (normal_ok _) Try.func69 (code_ok_of (cx_ok h) st69) ((f69_ev n a0).trans hy))
noncomputable def tl45 : List (Nat × Sp) := (69, sp69) :: tl44
theorem tl45_ok (n : Nat) : CallOk Try.prog (tabF tl45 n) := tabF_cons (tl44_ok n) (known_of Try.func69 (by decide +kernel) (by kernel_rfl)) (sp69_ok (tl44_ok n))
/-! f83: sawmill/product.sized -/
abbrev sg83 : Sig := [(false, R0)]
noncomputable def h83 : List (Nat × List Keep) := hintsOf keeps 83
theorem st83 : fnSt Try.f83 = true := by kernel_rfl
theorem f83_ev (n : Nat) (a0 : ByteArray × Int × Int × Int × Int × List Int × List Int) : evT (cx tl45 n) h83 (n + 8) Try.f83 sg83 [encV true R16 a0] = f83 a0 := by
  have h := (by kernel_rfl : evT (cx tl45 n) h83 (n + 8) Try.f83 sg83 [encV true R16 a0] = f83G a0)
  exact h
noncomputable def sp83 : Sp := fun n => dat1 true R16 fun a0 => dat0 (ansO sg83 (f83 a0) false)
theorem sp83_ok {n : Nat} (h : CallOk Try.prog (tabF tl45 n)) : ∀ args r, sp83 n args = some (true, r) → FnOK Try.prog 83 args r := SpR.all (SpR.dat1 fun a0 => SpR.ansO fun y hy => fnT_ok (cx_ok h) (normal_ok _) Try.func83 (code_ok_of (cx_ok h) st83) ((f83_ev n a0).trans hy))
noncomputable def tl46 : List (Nat × Sp) := (83, sp83) :: tl45
theorem tl46_ok (n : Nat) : CallOk Try.prog (tabF tl46 n) := tabF_cons (tl45_ok n) (known_of Try.func83 (by decide +kernel) (by kernel_rfl)) (sp83_ok (tl45_ok n))
/-! f84: sawmill/product.checkLengths -/
abbrev sg84 : Sig := [(false, R3)]
noncomputable def h84 : List (Nat × List Keep) := hintsOf keeps 84
theorem st84 : fnSt Try.f84 = true := by kernel_rfl
noncomputable def b84L9 : Code := sub [1, 1, 0, 1, 0, 0] (bodyOf Try.f84)
def f84L9S (a0 : ByteArray × Int × Int × Int × Int × List Int × List Int) (v3 : Int) : Sx := ⟨(.node .undef (.node (.ptr 0 0) .nil (.node .undef (.node .undef .nil (.node (.int .i64 (a0.2.2.2.2.2.1.length : Int)) .nil .nil)) .nil)) (.node .undef (.node .undef (.node .undef .nil (.node (.imm R3 a0.2.2.2.2.2.1) .nil .nil)) .nil) (.node .undef (.node .undef .nil (.node (.int .i64 v3) .nil .nil)) .nil))), [(0, .box [(.str a0.1), (.int .i64 a0.2.1), (.int .i64 a0.2.2.1), (.int .i64 a0.2.2.2.1), (.int .i64 a0.2.2.2.2.1), (.imm R3 a0.2.2.2.2.2.1), (.imm R3 a0.2.2.2.2.2.2)])], [], 1⟩
def f84L9Xret (a0 : ByteArray × Int × Int × Int × Int × List Int × List Int) (v9 : Int) : Sx := ⟨(.node .undef .nil (.node (.int .i64 v9) .nil .nil)), [], [], 0⟩
def f84L9X1 (a0 : ByteArray × Int × Int × Int × Int × List Int × List Int) : Sx := ⟨(.node .undef (.node (.ptr 0 0) .nil .nil) .nil), [(0, .box [(.str a0.1), (.int .i64 a0.2.1), (.int .i64 a0.2.2.1), (.int .i64 a0.2.2.2.1), (.int .i64 a0.2.2.2.2.1), (.imm R3 a0.2.2.2.2.2.1), (.imm R3 a0.2.2.2.2.2.2)])], [], 1⟩
noncomputable def f84L9N (n N m : Nat) (s : Sx) (k : Kont (Int)) : Option (Int) := loopN (get h84 27) (evCode (cx tl46 n) h84 N b84L9) m s k
theorem f84L9_ok (n N : Nat) (a0 : ByteArray × Int × Int × Int × Int × List Int × List Int) : ∀ (m : Nat) (v3 : Int) (k : Kont (Int)), f84L9N n N m (f84L9S a0 v3) k = f84L9 n a0 m v3 (fun v9 => k.r (f84L9Xret a0 v9)) (k.x 1 (f84L9X1 a0)) := by
  intro m
  induction m with
  | zero => intros; rfl
  | succ m ih =>
    intro v3 k
    have h := (by kernel_rfl : f84L9N n N (m + 1) (f84L9S a0 v3) k = f84L9G n a0 v3 (fun v3 => f84L9N n N m (f84L9S a0 v3) k) (fun v9 => k.r (f84L9Xret a0 v9)) (k.x 1 (f84L9X1 a0)))
    exact h.trans (congrArg (fun kc => f84L9G n a0 v3 kc (fun v9 => k.r (f84L9Xret a0 v9)) (k.x 1 (f84L9X1 a0))) (funext fun v3 => ih v3 k))
noncomputable def b84L17 : Code := sub [1, 1, 1, 0, 1, 0, 0] (bodyOf Try.f84)
def f84L17S (a0 : ByteArray × Int × Int × Int × Int × List Int × List Int) (v12 : Int) : Sx := ⟨(.node .undef (.node .undef (.node .undef .nil (.node .undef (.node .undef .nil (.node (.imm R3 a0.2.2.2.2.2.2) .nil .nil)) .nil)) (.node .undef .nil (.node .undef (.node .undef .nil (.node (.int .i64 v12) .nil .nil)) .nil))) (.node .undef (.node .undef .nil (.node .undef (.node .undef .nil (.node (.int .i64 (a0.2.2.2.2.2.2.length : Int)) .nil .nil)) .nil)) .nil)), [], [], 0⟩
def f84L17Xret (a0 : ByteArray × Int × Int × Int × Int × List Int × List Int) : Sx := ⟨(.node .undef .nil (.node (.int .i64 9) .nil .nil)), [], [], 0⟩
def f84L17X3 (a0 : ByteArray × Int × Int × Int × Int × List Int × List Int) : Sx := ⟨.nil, [], [], 0⟩
noncomputable def f84L17N (n N m : Nat) (s : Sx) (k : Kont (Int)) : Option (Int) := loopN (get h84 51) (evCode (cx tl46 n) h84 N b84L17) m s k
theorem f84L17_ok (n N : Nat) (a0 : ByteArray × Int × Int × Int × Int × List Int × List Int) : ∀ (m : Nat) (v12 : Int) (k : Kont (Int)), f84L17N n N m (f84L17S a0 v12) k = f84L17 n a0 m v12 (k.r (f84L17Xret a0)) (k.x 3 (f84L17X3 a0)) := by
  intro m
  induction m with
  | zero => intros; rfl
  | succ m ih =>
    intro v12 k
    have h := (by kernel_rfl : f84L17N n N (m + 1) (f84L17S a0 v12) k = f84L17G n a0 v12 (fun v12 => f84L17N n N m (f84L17S a0 v12) k) (k.r (f84L17Xret a0)) (k.x 3 (f84L17X3 a0)))
    exact h.trans (congrArg (fun kc => f84L17G n a0 v12 kc (k.r (f84L17Xret a0)) (k.x 3 (f84L17X3 a0))) (funext fun v12 => ih v12 k))
theorem f84_ev_s1 (n N : Nat) (a0 : ByteArray × Int × Int × Int × Int × List Int × List Int) : evT (cx tl46 n) h84 N Try.f84 sg84 [encV true R16 a0] = f84G n a0 (fun a0 v3 _ _ => f84L9N n N N (f84L9S a0 v3) (kAt (cx tl46 n) h84 N [1, 1, 0, 1, 0] (bodyOf Try.f84) (konT (cx tl46 n) Try.f84.results.toList sg84))) (fun a0 v12 _ _ => f84L17N n N N (f84L17S a0 v12) (kAt (cx tl46 n) h84 N [1, 1, 1, 0, 1, 0] (bodyOf Try.f84) (konT (cx tl46 n) Try.f84.results.toList sg84))) := by kernel_rfl
theorem f84_ev_s2 (n N : Nat) (a0 : ByteArray × Int × Int × Int × Int × List Int × List Int) : f84G n a0 (fun a0 v3 _ _ => f84L9 n a0 N v3 (fun v9 => (kAt (cx tl46 n) h84 N [1, 1, 0, 1, 0] (bodyOf Try.f84) (konT (cx tl46 n) Try.f84.results.toList sg84)).r (f84L9Xret a0 v9)) ((kAt (cx tl46 n) h84 N [1, 1, 0, 1, 0] (bodyOf Try.f84) (konT (cx tl46 n) Try.f84.results.toList sg84)).x 1 (f84L9X1 a0))) (fun a0 v12 _ _ => f84L17N n N N (f84L17S a0 v12) (kAt (cx tl46 n) h84 N [1, 1, 1, 0, 1, 0] (bodyOf Try.f84) (konT (cx tl46 n) Try.f84.results.toList sg84))) = f84G n a0 (fun a0 => f84L9 n a0 N) (fun a0 v12 _ _ => f84L17N n N N (f84L17S a0 v12) (kAt (cx tl46 n) h84 N [1, 1, 1, 0, 1, 0] (bodyOf Try.f84) (konT (cx tl46 n) Try.f84.results.toList sg84))) := by kernel_rfl
theorem f84_ev_s3 (n N : Nat) (a0 : ByteArray × Int × Int × Int × Int × List Int × List Int) : f84G n a0 (fun a0 => f84L9 n a0 N) (fun a0 v12 _ _ => f84L17 n a0 N v12 ((kAt (cx tl46 n) h84 N [1, 1, 1, 0, 1, 0] (bodyOf Try.f84) (konT (cx tl46 n) Try.f84.results.toList sg84)).r (f84L17Xret a0)) ((kAt (cx tl46 n) h84 N [1, 1, 1, 0, 1, 0] (bodyOf Try.f84) (konT (cx tl46 n) Try.f84.results.toList sg84)).x 3 (f84L17X3 a0))) = f84G n a0 (fun a0 => f84L9 n a0 N) (fun a0 => f84L17 n a0 N) := by kernel_rfl
theorem f84_ev (n : Nat) (a0 : ByteArray × Int × Int × Int × Int × List Int × List Int) : evT (cx tl46 n) h84 (n + 8) Try.f84 sg84 [encV true R16 a0] = f84 n a0 := by
  have h := (f84_ev_s1 n (n + 8) a0 : evT (cx tl46 n) h84 (n + 8) Try.f84 sg84 [encV true R16 a0] = f84G n a0 (fun a0 v3 _ _ => f84L9N n (n + 8) (n + 8) (f84L9S a0 v3) (kAt (cx tl46 n) h84 (n + 8) [1, 1, 0, 1, 0] (bodyOf Try.f84) (konT (cx tl46 n) Try.f84.results.toList sg84))) (fun a0 v12 _ _ => f84L17N n (n + 8) (n + 8) (f84L17S a0 v12) (kAt (cx tl46 n) h84 (n + 8) [1, 1, 1, 0, 1, 0] (bodyOf Try.f84) (konT (cx tl46 n) Try.f84.results.toList sg84))))
  replace h := h.trans (congrArg (fun lp => f84G n a0 lp (fun a0 v12 _ _ => f84L17N n (n + 8) (n + 8) (f84L17S a0 v12) (kAt (cx tl46 n) h84 (n + 8) [1, 1, 1, 0, 1, 0] (bodyOf Try.f84) (konT (cx tl46 n) Try.f84.results.toList sg84)))) (funext fun x0 => funext fun x1 => funext fun _ => funext fun _ => f84L9_ok n (n + 8) x0 (n + 8) x1 (kAt (cx tl46 n) h84 (n + 8) [1, 1, 0, 1, 0] (bodyOf Try.f84) (konT (cx tl46 n) Try.f84.results.toList sg84))))
  replace h := h.trans (f84_ev_s2 n (n + 8) a0 : f84G n a0 (fun a0 v3 _ _ => f84L9 n a0 (n + 8) v3 (fun v9 => (kAt (cx tl46 n) h84 (n + 8) [1, 1, 0, 1, 0] (bodyOf Try.f84) (konT (cx tl46 n) Try.f84.results.toList sg84)).r (f84L9Xret a0 v9)) ((kAt (cx tl46 n) h84 (n + 8) [1, 1, 0, 1, 0] (bodyOf Try.f84) (konT (cx tl46 n) Try.f84.results.toList sg84)).x 1 (f84L9X1 a0))) (fun a0 v12 _ _ => f84L17N n (n + 8) (n + 8) (f84L17S a0 v12) (kAt (cx tl46 n) h84 (n + 8) [1, 1, 1, 0, 1, 0] (bodyOf Try.f84) (konT (cx tl46 n) Try.f84.results.toList sg84))) = f84G n a0 (fun a0 => f84L9 n a0 (n + 8)) (fun a0 v12 _ _ => f84L17N n (n + 8) (n + 8) (f84L17S a0 v12) (kAt (cx tl46 n) h84 (n + 8) [1, 1, 1, 0, 1, 0] (bodyOf Try.f84) (konT (cx tl46 n) Try.f84.results.toList sg84))))
  replace h := h.trans (congrArg (fun lp => f84G n a0 (fun a0 => f84L9 n a0 (n + 8)) lp) (funext fun x0 => funext fun x1 => funext fun _ => funext fun _ => f84L17_ok n (n + 8) x0 (n + 8) x1 (kAt (cx tl46 n) h84 (n + 8) [1, 1, 1, 0, 1, 0] (bodyOf Try.f84) (konT (cx tl46 n) Try.f84.results.toList sg84))))
  replace h := h.trans (f84_ev_s3 n (n + 8) a0 : f84G n a0 (fun a0 => f84L9 n a0 (n + 8)) (fun a0 v12 _ _ => f84L17 n a0 (n + 8) v12 ((kAt (cx tl46 n) h84 (n + 8) [1, 1, 1, 0, 1, 0] (bodyOf Try.f84) (konT (cx tl46 n) Try.f84.results.toList sg84)).r (f84L17Xret a0)) ((kAt (cx tl46 n) h84 (n + 8) [1, 1, 1, 0, 1, 0] (bodyOf Try.f84) (konT (cx tl46 n) Try.f84.results.toList sg84)).x 3 (f84L17X3 a0))) = f84G n a0 (fun a0 => f84L9 n a0 (n + 8)) (fun a0 => f84L17 n a0 (n + 8)))
  exact h
noncomputable def sp84 : Sp := fun n => dat1 true R16 fun a0 => dat0 (ansO sg84 (f84 n a0) (0 : Int))
theorem sp84_ok {n : Nat} (h : CallOk Try.prog (tabF tl46 n)) : ∀ args r, sp84 n args = some (true, r) → FnOK Try.prog 84 args r := SpR.all (SpR.dat1 fun a0 => SpR.ansO fun y hy => fnT_ok (cx_ok h) (normal_ok _) Try.func84 (code_ok_of (cx_ok h) st84) ((f84_ev n a0).trans hy))
noncomputable def tl47 : List (Nat × Sp) := (84, sp84) :: tl46
theorem tl47_ok (n : Nat) : CallOk Try.prog (tabF tl47 n) := tabF_cons (tl46_ok n) (known_of Try.func84 (by decide +kernel) (by kernel_rfl)) (sp84_ok (tl46_ok n))
end Go.Proofs.Ytdhgbgbdnifonaa.Ev
