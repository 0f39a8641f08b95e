/- The evaluator computes the plain functions, part 2. Written by a program. -/
import Derived.Test.YtdhgbgbdnifonaaFb0
namespace Go.Proofs.Ytdhgbgbdnifonaa.Ev
set_option linter.unusedVariables false
set_option linter.unusedSimpArgs false
set_option maxRecDepth 100000
/-! f68: sawmill/product.Check -/
abbrev sg68 : Sig := [(false, R3)]
noncomputable def h68 : List (Nat × List Keep) := hintsOf keeps 68
theorem st68 : fnSt Try.f68 = true := by kernel_rfl
noncomputable def b68L4 : Code := sub [1, 1, 0, 1, 0, 0] (bodyOf Try.f68)
def f68L4S (a0 : List (ByteArray × Int × Int × Int × Int × List Int × List Int)) (v11 : Int) : Sx := ⟨(.node (.imm R16 a0) (.node .undef (.node .undef .nil (.node (.imm R16 a0) .nil .nil)) (.node .undef .nil (.node (.int .i64 v11) .nil .nil))) (.node .undef (.node .undef .nil (.node (.int .i64 (a0.length : Int)) .nil .nil)) .nil)), [], [], 0⟩
def f68L4Xret (a0 : List (ByteArray × Int × Int × Int × Int × List Int × List Int)) (v23 : Int) : Sx := ⟨(.node .undef .nil (.node (.int .i64 v23) .nil .nil)), [], [], 0⟩
def f68L4X0 (a0 : List (ByteArray × Int × Int × Int × Int × List Int × List Int)) : Sx := ⟨.nil, [], [], 0⟩
noncomputable def f68L4N (n N m : Nat) (s : Sx) (k : Kont (Int)) : Option (Int) := loopN (get h68 12) (evCode (cx tl47 n) h68 N b68L4) m s k
theorem f68L4_ok (n N : Nat) (a0 : List (ByteArray × Int × Int × Int × Int × List Int × List Int)) : ∀ (m : Nat) (v11 : Int) (k : Kont (Int)), f68L4N n N m (f68L4S a0 v11) k = f68L4 n a0 m v11 (fun v23 => k.r (f68L4Xret a0 v23)) (k.x 0 (f68L4X0 a0)) := by
  intro m
  induction m with
  | zero => intros; rfl
  | succ m ih =>
    intro v11 k
    have h := (by kernel_rfl : f68L4N n N (m + 1) (f68L4S a0 v11) k = f68L4G n a0 v11 (fun v11 => f68L4N n N m (f68L4S a0 v11) k) (fun v23 => k.r (f68L4Xret a0 v23)) (k.x 0 (f68L4X0 a0)))
    exact h.trans (congrArg (fun kc => f68L4G n a0 v11 kc (fun v23 => k.r (f68L4Xret a0 v23)) (k.x 0 (f68L4X0 a0))) (funext fun v11 => ih v11 k))
theorem f68_ev_s1 (n N : Nat) (a0 : List (ByteArray × Int × Int × Int × Int × List Int × List Int)) : evT (cx tl47 n) h68 N Try.f68 sg68 [encV false R17 a0] = f68G n a0 (fun a0 v11 _ _ => f68L4N n N N (f68L4S a0 v11) (kAt (cx tl47 n) h68 N [1, 1, 0, 1, 0] (bodyOf Try.f68) (konT (cx tl47 n) Try.f68.results.toList sg68))) := by kernel_rfl
theorem f68_ev_s2 (n N : Nat) (a0 : List (ByteArray × Int × Int × Int × Int × List Int × List Int)) : f68G n a0 (fun a0 v11 _ _ => f68L4 n a0 N v11 (fun v23 => (kAt (cx tl47 n) h68 N [1, 1, 0, 1, 0] (bodyOf Try.f68) (konT (cx tl47 n) Try.f68.results.toList sg68)).r (f68L4Xret a0 v23)) ((kAt (cx tl47 n) h68 N [1, 1, 0, 1, 0] (bodyOf Try.f68) (konT (cx tl47 n) Try.f68.results.toList sg68)).x 0 (f68L4X0 a0))) = f68G n a0 (fun a0 => f68L4 n a0 N) := by kernel_rfl
theorem f68_ev (n : Nat) (a0 : List (ByteArray × Int × Int × Int × Int × List Int × List Int)) : evT (cx tl47 n) h68 (n + 8) Try.f68 sg68 [encV false R17 a0] = f68 n a0 := by
  have h := (f68_ev_s1 n (n + 8) a0 : evT (cx tl47 n) h68 (n + 8) Try.f68 sg68 [encV false R17 a0] = f68G n a0 (fun a0 v11 _ _ => f68L4N n (n + 8) (n + 8) (f68L4S a0 v11) (kAt (cx tl47 n) h68 (n + 8) [1, 1, 0, 1, 0] (bodyOf Try.f68) (konT (cx tl47 n) Try.f68.results.toList sg68))))
  replace h := h.trans (congrArg (fun lp => f68G n a0 lp) (funext fun x0 => funext fun x1 => funext fun _ => funext fun _ => f68L4_ok n (n + 8) x0 (n + 8) x1 (kAt (cx tl47 n) h68 (n + 8) [1, 1, 0, 1, 0] (bodyOf Try.f68) (konT (cx tl47 n) Try.f68.results.toList sg68))))
  replace h := h.trans (f68_ev_s2 n (n + 8) a0 : f68G n a0 (fun a0 v11 _ _ => f68L4 n a0 (n + 8) v11 (fun v23 => (kAt (cx tl47 n) h68 (n + 8) [1, 1, 0, 1, 0] (bodyOf Try.f68) (konT (cx tl47 n) Try.f68.results.toList sg68)).r (f68L4Xret a0 v23)) ((kAt (cx tl47 n) h68 (n + 8) [1, 1, 0, 1, 0] (bodyOf Try.f68) (konT (cx tl47 n) Try.f68.results.toList sg68)).x 0 (f68L4X0 a0))) = f68G n a0 (fun a0 => f68L4 n a0 (n + 8)))
  exact h
noncomputable def sp68 : Sp := fun n => dat1 false R17 fun a0 => dat0 (ansO sg68 (f68 n a0) (0 : Int))
theorem sp68_ok {n : Nat} (h : CallOk Try.prog (tabF tl47 n)) : ∀ args r, sp68 n args = some (true, r) → FnOK Try.prog 68 args r := SpR.all (SpR.dat1 fun a0 => SpR.ansO fun y hy => fnT_ok (cx_ok h) (normal_ok _) Try.func68 (code_ok_of (cx_ok h) st68) ((f68_ev n a0).trans hy))
noncomputable def tl48 : List (Nat × Sp) := (68, sp68) :: tl47
theorem tl48_ok (n : Nat) : CallOk Try.prog (tabF tl48 n) := tabF_cons (tl47_ok n) (known_of Try.func68 (by decide +kernel) (by kernel_rfl)) (sp68_ok (tl47_ok n))
/-! f50: sawmill/worth.look -/
abbrev sg50 : Sig := [(true, R18), (false, R0)]
noncomputable def h50 : List (Nat × List Keep) := hintsOf keeps 50
theorem st50 : fnSt Try.f50 = true := by kernel_rfl
theorem f50_ev (n : Nat) (a0 : List (Int × Int × List (Int × Int))) (a1 : List (Int × Int × Int × Int × Int × Int × Int)) (a2 : ByteArray × Int × Int × Int × Int × List Int × List Int) (a3 : Int × Int × Int × Int) : evT (cx tl48 n) h50 (n + 8) Try.f50 sg50 [encV false R8 a0, encV false R13 a1, encV true R16 a2, encV true R5 a3] = f50 n a0 a1 a2 a3 := by
  have h := (by kernel_rfl : evT (cx tl48 n) h50 (n + 8) Try.f50 sg50 [encV false R8 a0, encV false R13 a1, encV true R16 a2, encV true R5 a3] = f50G n a0 a1 a2 a3)
  exact h
noncomputable def sp50 : Sp := fun n => dat1 false R8 fun a0 => dat1 false R13 fun a1 => dat1 true R16 fun a2 => dat1 true R5 fun a3 => dat0 (ansO sg50 (f50 n a0 a1 a2 a3) (([], ByteArray.empty, (0 : Int), (0 : Int), (0 : Int), (0 : Int), [], [], (0 : Int), (0 : Int), (0 : Int), (0 : Int), (0 : Int), [], []), false))
theorem sp50_ok {n : Nat} (h : CallOk Try.prog (tabF tl48 n)) : ∀ args r, sp50 n args = some (true, r) → FnOK Try.prog 50 args r := SpR.all (SpR.dat1 fun a0 => SpR.dat1 fun a1 => SpR.dat1 fun a2 => SpR.dat1 fun a3 => SpR.ansO fun y hy => fnT_ok (cx_ok h) (normal_ok _) Try.func50 (code_ok_of (cx_ok h) st50) ((f50_ev n a0 a1 a2 a3).trans hy))
noncomputable def tl49 : List (Nat × Sp) := (50, sp50) :: tl48
theorem tl49_ok (n : Nat) : CallOk Try.prog (tabF tl49 n) := tabF_cons (tl48_ok n) (known_of Try.func50 (by decide +kernel) (by kernel_rfl)) (sp50_ok (tl48_ok n))
/-! f29: sawmill/worth.from -/
abbrev sg29 : Sig := [(false, R0)]
noncomputable def h29 : List (Nat × List Keep) := hintsOf keeps 29
theorem st29 : fnSt Try.f29 = true := by kernel_rfl
theorem f29_ev (n : Nat) (a0 : Int) (a1 : Int) (a2 : Int) : evT (cx tl49 n) h29 (n + 8) Try.f29 sg29 [encV false R3 a0, encV false R3 a1, encV false R3 a2] = some (f29 a0 a1 a2) := (by kernel_rfl : evT (cx tl49 n) h29 (n + 8) Try.f29 sg29 [encV false R3 a0, encV false R3 a1, encV false R3 a2] = f29O a0 a1 a2).trans (f29_o a0 a1 a2)
noncomputable def sp29 : Sp := fun n => dat1 false R3 fun a0 => dat1 false R3 fun a1 => dat1 false R3 fun a2 => dat0 (ansT sg29 (f29 a0 a1 a2))
theorem sp29_ok {n : Nat} (h : CallOk Try.prog (tabF tl49 n)) : ∀ args r, sp29 n args = some (true, r) → FnOK Try.prog 29 args r := SpR.all (SpR.dat1 fun a0 => SpR.dat1 fun a1 => SpR.dat1 fun a2 => SpR.ansT (fnT_ok (cx_ok h) (normal_ok _) Try.func29 (code_ok_of (cx_ok h) st29) (f29_ev n a0 a1 a2)))
noncomputable def tl50 : List (Nat × Sp) := (29, sp29) :: tl49
theorem tl50_ok (n : Nat) : CallOk Try.prog (tabF tl50 n) := tabF_cons (tl49_ok n) (known_of Try.func29 (by decide +kernel) (by kernel_rfl)) (sp29_ok (tl49_ok n))
/-! f24: sawmill/product.Price -/
abbrev sg24 : Sig := [(false, R3), (false, R0)]
noncomputable def h24 : List (Nat × List Keep) := hintsOf keeps 24
theorem st24 : fnSt Try.f24 = true := by kernel_rfl
noncomputable def b24L2 : Code := sub [1, 0, 1, 0, 0] (bodyOf Try.f24)
def f24L2S (a1 : Int) (a0 : ByteArray × Int × Int × Int × Int × List Int × List Int) (v3 : Int) : Sx := ⟨(.node .undef (.node (.int .i64 a1) (.node .undef .nil (.node (.int .i64 v3) .nil .nil)) (.node .undef (.node (.imm R3 a0.2.2.2.2.2.1) .nil .nil) .nil)) (.node (.ptr 0 0) .nil (.node .undef (.node (.int .i64 (a0.2.2.2.2.2.1.length : Int)) .nil .nil) .nil))), [(0, .box [(.str a0.1), (.int .i64 a0.2.1), (.int .i64 a0.2.2.1), (.int .i64 a0.2.2.2.1), (.int .i64 a0.2.2.2.2.1), (.imm R3 a0.2.2.2.2.2.1), (.imm R3 a0.2.2.2.2.2.2)])], [], 1⟩
def f24L2Xret (a1 : Int) (a0 : ByteArray × Int × Int × Int × Int × List Int × List Int) (v7 : Int) (v8 : Bool) : Sx := ⟨(.node .undef (.node .undef .nil (.node (.bool v8) .nil .nil)) (.node .undef (.node (.int .i64 v7) .nil .nil) .nil)), [], [], 0⟩
def f24L2X0 (a1 : Int) (a0 : ByteArray × Int × Int × Int × Int × List Int × List Int) : Sx := ⟨.nil, [], [], 0⟩
noncomputable def f24L2N (n N m : Nat) (s : Sx) (k : Kont (Int × Bool)) : Option (Int × Bool) := loopN (get h24 6) (evCode (cx tl50 n) h24 N b24L2) m s k
theorem f24L2_ok (n N : Nat) (a1 : Int) (a0 : ByteArray × Int × Int × Int × Int × List Int × List Int) : ∀ (m : Nat) (v3 : Int) (k : Kont (Int × Bool)), f24L2N n N m (f24L2S a1 a0 v3) k = f24L2 n a1 a0 m v3 (fun v7 v8 => k.r (f24L2Xret a1 a0 v7 v8)) (k.x 0 (f24L2X0 a1 a0)) := by
  intro m
  induction m with
  | zero => intros; rfl
  | succ m ih =>
    intro v3 k
    have h := (by kernel_rfl : f24L2N n N (m + 1) (f24L2S a1 a0 v3) k = f24L2G n a1 a0 v3 (fun v3 => f24L2N n N m (f24L2S a1 a0 v3) k) (fun v7 v8 => k.r (f24L2Xret a1 a0 v7 v8)) (k.x 0 (f24L2X0 a1 a0)))
    exact h.trans (congrArg (fun kc => f24L2G n a1 a0 v3 kc (fun v7 v8 => k.r (f24L2Xret a1 a0 v7 v8)) (k.x 0 (f24L2X0 a1 a0))) (funext fun v3 => ih v3 k))
theorem f24_ev_s1 (n N : Nat) (a0 : ByteArray × Int × Int × Int × Int × List Int × List Int) (a1 : Int) : evT (cx tl50 n) h24 N Try.f24 sg24 [encV true R16 a0, encV false R3 a1] = f24G n a0 a1 (fun a1 a0 v3 _ _ => f24L2N n N N (f24L2S a1 a0 v3) (kAt (cx tl50 n) h24 N [1, 0, 1, 0] (bodyOf Try.f24) (konT (cx tl50 n) Try.f24.results.toList sg24))) := by kernel_rfl
theorem f24_ev_s2 (n N : Nat) (a0 : ByteArray × Int × Int × Int × Int × List Int × List Int) (a1 : Int) : f24G n a0 a1 (fun a1 a0 v3 _ _ => f24L2 n a1 a0 N v3 (fun v7 v8 => (kAt (cx tl50 n) h24 N [1, 0, 1, 0] (bodyOf Try.f24) (konT (cx tl50 n) Try.f24.results.toList sg24)).r (f24L2Xret a1 a0 v7 v8)) ((kAt (cx tl50 n) h24 N [1, 0, 1, 0] (bodyOf Try.f24) (konT (cx tl50 n) Try.f24.results.toList sg24)).x 0 (f24L2X0 a1 a0))) = f24G n a0 a1 (fun a1 a0 => f24L2 n a1 a0 N) := by kernel_rfl
theorem f24_ev (n : Nat) (a0 : ByteArray × Int × Int × Int × Int × List Int × List Int) (a1 : Int) : evT (cx tl50 n) h24 (n + 8) Try.f24 sg24 [encV true R16 a0, encV false R3 a1] = f24 n a0 a1 := by
  have h := (f24_ev_s1 n (n + 8) a0 a1 : evT (cx tl50 n) h24 (n + 8) Try.f24 sg24 [encV true R16 a0, encV false R3 a1] = f24G n a0 a1 (fun a1 a0 v3 _ _ => f24L2N n (n + 8) (n + 8) (f24L2S a1 a0 v3) (kAt (cx tl50 n) h24 (n + 8) [1, 0, 1, 0] (bodyOf Try.f24) (konT (cx tl50 n) Try.f24.results.toList sg24))))
  replace h := h.trans (congrArg (fun lp => f24G n a0 a1 lp) (funext fun x0 => funext fun x1 => funext fun x2 => funext fun _ => funext fun _ => f24L2_ok n (n + 8) x0 x1 (n + 8) x2 (kAt (cx tl50 n) h24 (n + 8) [1, 0, 1, 0] (bodyOf Try.f24) (konT (cx tl50 n) Try.f24.results.toList sg24))))
  replace h := h.trans (f24_ev_s2 n (n + 8) a0 a1 : f24G n a0 a1 (fun a1 a0 v3 _ _ => f24L2 n a1 a0 (n + 8) v3 (fun v7 v8 => (kAt (cx tl50 n) h24 (n + 8) [1, 0, 1, 0] (bodyOf Try.f24) (konT (cx tl50 n) Try.f24.results.toList sg24)).r (f24L2Xret a1 a0 v7 v8)) ((kAt (cx tl50 n) h24 (n + 8) [1, 0, 1, 0] (bodyOf Try.f24) (konT (cx tl50 n) Try.f24.results.toList sg24)).x 0 (f24L2X0 a1 a0))) = f24G n a0 a1 (fun a1 a0 => f24L2 n a1 a0 (n + 8)))
  exact h
noncomputable def sp24 : Sp := fun n => dat1 true R16 fun a0 => dat1 false R3 fun a1 => dat0 (ansO sg24 (f24 n a0 a1) ((0 : Int), false))
theorem sp24_ok {n : Nat} (h : CallOk Try.prog (tabF tl50 n)) : ∀ args r, sp24 n args = some (true, r) → FnOK Try.prog 24 args r := SpR.all (SpR.dat1 fun a0 => SpR.dat1 fun a1 => SpR.ansO fun y hy => fnT_ok (cx_ok h) (normal_ok _) Try.func24 (code_ok_of (cx_ok h) st24) ((f24_ev n a0 a1).trans hy))
noncomputable def tl51 : List (Nat × Sp) := (24, sp24) :: tl50
theorem tl51_ok (n : Nat) : CallOk Try.prog (tabF tl51 n) := tabF_cons (tl50_ok n) (known_of Try.func24 (by decide +kernel) (by kernel_rfl)) (sp24_ok (tl50_ok n))
/-! f96: sawmill/defect.boxOf -/
abbrev sg96 : Sig := [(true, R12)]
noncomputable def h96 : List (Nat × List Keep) := hintsOf keeps 96
theorem st96 : fnSt Try.f96 = true := by kernel_rfl
theorem f96_ev (n : Nat) (a0 : Int × Int × Int × Int × Int × Int) : evT (cx tl51 n) h96 (n + 8) Try.f96 sg96 [encV true R12 a0] = some (f96 a0) := (by kernel_rfl : evT (cx tl51 n) h96 (n + 8) Try.f96 sg96 [encV true R12 a0] = f96O a0).trans (f96_o a0)
noncomputable def sp96 : Sp := fun n => dat1 true R12 fun a0 => dat0 (ansT sg96 (f96 a0))
theorem sp96_ok {n : Nat} (h : CallOk Try.prog (tabF tl51 n)) : ∀ args r, sp96 n args = some (true, r) → FnOK Try.prog 96 args r := SpR.all (SpR.dat1 fun a0 => SpR.ansT (fnT_ok (cx_ok h) (normal_ok _) Try.func96 (code_ok_of (cx_ok h) st96) (f96_ev n a0)))
noncomputable def tl52 : List (Nat × Sp) := (96, sp96) :: tl51
theorem tl52_ok (n : Nat) : CallOk Try.prog (tabF tl52 n) := tabF_cons (tl51_ok n) (known_of Try.func96 (by decide +kernel) (by kernel_rfl)) (sp96_ok (tl51_ok n))
/-! f86: sawmill/defect.common -/
abbrev sg86 : Sig := [(true, R12), (false, R0)]
noncomputable def h86 : List (Nat × List Keep) := hintsOf keeps 86
theorem st86 : fnSt Try.f86 = true := by kernel_rfl
theorem f86_ev (n : Nat) (a0 : Int × Int × Int × Int × Int × Int) (a1 : Int × Int × Int × Int × Int × Int) : evT (cx tl52 n) h86 (n + 8) Try.f86 sg86 [encV true R12 a0, encV true R12 a1] = some (f86 a0 a1) := (by kernel_rfl : evT (cx tl52 n) h86 (n + 8) Try.f86 sg86 [encV true R12 a0, encV true R12 a1] = f86O a0 a1).trans (f86_o a0 a1)
noncomputable def sp86 : Sp := fun n => dat1 true R12 fun a0 => dat1 true R12 fun a1 => dat0 (ansT sg86 (f86 a0 a1))
theorem sp86_ok {n : Nat} (h : CallOk Try.prog (tabF tl52 n)) : ∀ args r, sp86 n args = some (true, r) → FnOK Try.prog 86 args r := SpR.all (SpR.dat1 fun a0 => SpR.dat1 fun a1 => SpR.ansT (fnT_ok (cx_ok h) (normal_ok _) Try.func86 (code_ok_of (cx_ok h) st86) (f86_ev n a0 a1)))
noncomputable def tl53 : List (Nat × Sp) := (86, sp86) :: tl52
theorem tl53_ok (n : Nat) : CallOk Try.prog (tabF tl53 n) := tabF_cons (tl52_ok n) (known_of Try.func86 (by decide +kernel) (by kernel_rfl)) (sp86_ok (tl52_ok n))
/-! f70: sawmill/defect.Touches -/
abbrev sg70 : Sig := [(false, R0)]
noncomputable def h70 : List (Nat × List Keep) := hintsOf keeps 70
theorem st70 : fnSt Try.f70 = true := by kernel_rfl
theorem f70_ev (n : Nat) (a0 : Int × Int × Int × Int × Int × Int × Int) (a1 : Int × Int × Int × Int × Int × Int) : evT (cx tl53 n) h70 (n + 8) Try.f70 sg70 [encV true R2 a0, encV true R12 a1] = some (f70 a0 a1) := (by kernel_rfl : evT (cx tl53 n) h70 (n + 8) Try.f70 sg70 [encV true R2 a0, encV true R12 a1] = f70O a0 a1).trans (f70_o a0 a1)
noncomputable def sp70 : Sp := fun n => dat1 true R2 fun a0 => dat1 true R12 fun a1 => dat0 (ansT sg70 (f70 a0 a1))
theorem sp70_ok {n : Nat} (h : CallOk Try.prog (tabF tl53 n)) : ∀ args r, sp70 n args = some (true, r) → FnOK Try.prog 70 args r := SpR.all (SpR.dat1 fun a0 => SpR.dat1 fun a1 => SpR.ansT (fnT_ok (cx_ok h) (normal_ok _) Try.func70 (code_ok_of (cx_ok h) st70) (f70_ev n a0 a1)))
noncomputable def tl54 : List (Nat × Sp) := (70, sp70) :: tl53
theorem tl54_ok (n : Nat) : CallOk Try.prog (tabF tl54 n) := tabF_cons (tl53_ok n) (known_of Try.func70 (by decide +kernel) (by kernel_rfl)) (sp70_ok (tl53_ok n))
/-! f51: (sawmill/worth.looker).worth -/
abbrev sg51 : Sig := [(false, R3), (false, R0)]
noncomputable def h51 : List (Nat × List Keep) := hintsOf keeps 51
theorem st51 : fnSt Try.f51 = true := by kernel_rfl
noncomputable def b51L7 : Code := sub [1, 1, 1, 1, 0, 1, 0, 0] (bodyOf Try.f51)
def f51L7S (a2 : Int) (a0 : List (Int × Int × Int × Int × Int × Int × Int) × ByteArray × Int × Int × Int × Int × List Int × List Int × Int × Int × Int × Int × Int × List Int × List Int) (a1 : Int × Int) (v9 : Int) (v10 : Int) : Sx := ⟨(.node .undef (.node .undef (.node (.ptr 0 0) (.node .undef .nil (.node .undef .nil (.node (.imm R2 a0.1) .nil .nil))) .nil) (.node .undef (.node .undef .nil (.node .undef .nil (.node (.int .i64 v10) .nil .nil))) .nil)) (.node (.int .i64 a2) (.node (.ptr 1 0) (.node (.int .i64 v9) .nil (.node .undef .nil (.node (.int .i64 (a0.1.length : Int)) .nil .nil))) .nil) .nil)), [(0, .box [(.imm R2 a0.1), (.str a0.2.1), (.int .i64 a0.2.2.1), (.int .i64 a0.2.2.2.1), (.int .i64 a0.2.2.2.2.1), (.int .i64 a0.2.2.2.2.2.1), (.imm R3 a0.2.2.2.2.2.2.1), (.imm R3 a0.2.2.2.2.2.2.2.1), (.int .i64 a0.2.2.2.2.2.2.2.2.1), (.int .i64 a0.2.2.2.2.2.2.2.2.2.1), (.int .i64 a0.2.2.2.2.2.2.2.2.2.2.1), (.int .i64 a0.2.2.2.2.2.2.2.2.2.2.2.1), (.int .i64 a0.2.2.2.2.2.2.2.2.2.2.2.2.1), (.imm R3 a0.2.2.2.2.2.2.2.2.2.2.2.2.2.1), (.imm R3 a0.2.2.2.2.2.2.2.2.2.2.2.2.2.2)]), (1, .box [(.int .i64 a1.1), (.int .i64 a1.2)])], [], 2⟩
def f51L7Xret (a2 : Int) (a0 : List (Int × Int × Int × Int × Int × Int × Int) × ByteArray × Int × Int × Int × Int × List Int × List Int × Int × Int × Int × Int × Int × List Int × List Int) (a1 : Int × Int) : Sx := ⟨(.node .undef (.node .undef (.node .undef (.node (.bool false) .nil .nil) .nil) .nil) (.node .undef .nil (.node (.int .i64 0) .nil .nil))), [], [], 0⟩
def f51L7X0 (a2 : Int) (a0 : List (Int × Int × Int × Int × Int × Int × Int) × ByteArray × Int × Int × Int × Int × List Int × List Int × Int × Int × Int × Int × Int × List Int × List Int) (a1 : Int × Int) (v16 : Int) : Sx := ⟨(.node .undef .nil (.node .undef (.node .undef (.node (.int .i64 v16) .nil .nil) .nil) .nil)), [], [], 0⟩
noncomputable def f51L7N (n N m : Nat) (s : Sx) (k : Kont (Int × Bool)) : Option (Int × Bool) := loopN (get h51 21) (evCode (cx tl54 n) h51 N b51L7) m s k
theorem f51L7_ok (n N : Nat) (a2 : Int) (a0 : List (Int × Int × Int × Int × Int × Int × Int) × ByteArray × Int × Int × Int × Int × List Int × List Int × Int × Int × Int × Int × Int × List Int × List Int) (a1 : Int × Int) : ∀ (m : Nat) (v9 : Int) (v10 : Int) (k : Kont (Int × Bool)), f51L7N n N m (f51L7S a2 a0 a1 v9 v10) k = f51L7 n a2 a0 a1 m v9 v10 (k.r (f51L7Xret a2 a0 a1)) (fun v16 => k.x 0 (f51L7X0 a2 a0 a1 v16)) := by
  intro m
  induction m with
  | zero => intros; rfl
  | succ m ih =>
    intro v9 v10 k
    have h := (by kernel_rfl : f51L7N n N (m + 1) (f51L7S a2 a0 a1 v9 v10) k = f51L7G n a2 a0 a1 v9 v10 (fun v9 v10 => f51L7N n N m (f51L7S a2 a0 a1 v9 v10) k) (k.r (f51L7Xret a2 a0 a1)) (fun v16 => k.x 0 (f51L7X0 a2 a0 a1 v16)))
    exact h.trans (congrArg (fun kc => f51L7G n a2 a0 a1 v9 v10 kc (k.r (f51L7Xret a2 a0 a1)) (fun v16 => k.x 0 (f51L7X0 a2 a0 a1 v16))) (funext fun v9 => funext fun v10 => ih v9 v10 k))
theorem f51_ev_s1 (n N : Nat) (a0 : List (Int × Int × Int × Int × Int × Int × Int) × ByteArray × Int × Int × Int × Int × List Int × List Int × Int × Int × Int × Int × Int × List Int × List Int) (a1 : Int × Int) (a2 : Int) : evT (cx tl54 n) h51 N Try.f51 sg51 [encV true R18 a0, encV true R6 a1, encV false R3 a2] = f51G n a0 a1 a2 (fun a2 a0 a1 v9 v10 _ _ => f51L7N n N N (f51L7S a2 a0 a1 v9 v10) (kAt (cx tl54 n) h51 N [1, 1, 1, 1, 0, 1, 0] (bodyOf Try.f51) (konT (cx tl54 n) Try.f51.results.toList sg51))) := by kernel_rfl
theorem f51_ev_s2 (n N : Nat) (a0 : List (Int × Int × Int × Int × Int × Int × Int) × ByteArray × Int × Int × Int × Int × List Int × List Int × Int × Int × Int × Int × Int × List Int × List Int) (a1 : Int × Int) (a2 : Int) : f51G n a0 a1 a2 (fun a2 a0 a1 v9 v10 _ _ => f51L7 n a2 a0 a1 N v9 v10 ((kAt (cx tl54 n) h51 N [1, 1, 1, 1, 0, 1, 0] (bodyOf Try.f51) (konT (cx tl54 n) Try.f51.results.toList sg51)).r (f51L7Xret a2 a0 a1)) (fun v16 => (kAt (cx tl54 n) h51 N [1, 1, 1, 1, 0, 1, 0] (bodyOf Try.f51) (konT (cx tl54 n) Try.f51.results.toList sg51)).x 0 (f51L7X0 a2 a0 a1 v16))) = f51G n a0 a1 a2 (fun a2 a0 a1 => f51L7 n a2 a0 a1 N) := by kernel_rfl
theorem f51_ev (n : Nat) (a0 : List (Int × Int × Int × Int × Int × Int × Int) × ByteArray × Int × Int × Int × Int × List Int × List Int × Int × Int × Int × Int × Int × List Int × List Int) (a1 : Int × Int) (a2 : Int) : evT (cx tl54 n) h51 (n + 8) Try.f51 sg51 [encV true R18 a0, encV true R6 a1, encV false R3 a2] = f51 n a0 a1 a2 := by
  have h := (f51_ev_s1 n (n + 8) a0 a1 a2 : evT (cx tl54 n) h51 (n + 8) Try.f51 sg51 [encV true R18 a0, encV true R6 a1, encV false R3 a2] = f51G n a0 a1 a2 (fun a2 a0 a1 v9 v10 _ _ => f51L7N n (n + 8) (n + 8) (f51L7S a2 a0 a1 v9 v10) (kAt (cx tl54 n) h51 (n + 8) [1, 1, 1, 1, 0, 1, 0] (bodyOf Try.f51) (konT (cx tl54 n) Try.f51.results.toList sg51))))
  replace h := h.trans (congrArg (fun lp => f51G n a0 a1 a2 lp) (funext fun x0 => funext fun x1 => funext fun x2 => funext fun x3 => funext fun x4 => funext fun _ => funext fun _ => f51L7_ok n (n + 8) x0 x1 x2 (n + 8) x3 x4 (kAt (cx tl54 n) h51 (n + 8) [1, 1, 1, 1, 0, 1, 0] (bodyOf Try.f51) (konT (cx tl54 n) Try.f51.results.toList sg51))))
  replace h := h.trans (f51_ev_s2 n (n + 8) a0 a1 a2 : f51G n a0 a1 a2 (fun a2 a0 a1 v9 v10 _ _ => f51L7 n a2 a0 a1 (n + 8) v9 v10 ((kAt (cx tl54 n) h51 (n + 8) [1, 1, 1, 1, 0, 1, 0] (bodyOf Try.f51) (konT (cx tl54 n) Try.f51.results.toList sg51)).r (f51L7Xret a2 a0 a1)) (fun v16 => (kAt (cx tl54 n) h51 (n + 8) [1, 1, 1, 1, 0, 1, 0] (bodyOf Try.f51) (konT (cx tl54 n) Try.f51.results.toList sg51)).x 0 (f51L7X0 a2 a0 a1 v16))) = f51G n a0 a1 a2 (fun a2 a0 a1 => f51L7 n a2 a0 a1 (n + 8)))
  exact h
noncomputable def sp51 : Sp := fun n => dat1 true R18 fun a0 => dat1 true R6 fun a1 => dat1 false R3 fun a2 => dat0 (ansO sg51 (f51 n a0 a1 a2) ((0 : Int), false))
theorem sp51_ok {n : Nat} (h : CallOk Try.prog (tabF tl54 n)) : ∀ args r, sp51 n args = some (true, r) → FnOK Try.prog 51 args r := SpR.all (SpR.dat1 fun a0 => SpR.dat1 fun a1 => SpR.dat1 fun a2 => SpR.ansO fun y hy => fnT_ok (cx_ok h) (normal_ok _) Try.func51 (code_ok_of (cx_ok h) st51) ((f51_ev n a0 a1 a2).trans hy))
noncomputable def tl55 : List (Nat × Sp) := (51, sp51) :: tl54
theorem tl55_ok (n : Nat) : CallOk Try.prog (tabF tl55 n) := tabF_cons (tl54_ok n) (known_of Try.func51 (by decide +kernel) (by kernel_rfl)) (sp51_ok (tl54_ok n))
/-! f37: sawmill/worth.Worth -/
abbrev sg37 : Sig := [(false, R3), (false, R0)]
noncomputable def h37 : List (Nat × List Keep) := hintsOf keeps 37
theorem st37 : fnSt Try.f37 = true := by kernel_rfl
theorem f37_ev (n : Nat) (a0 : List (Int × Int × List (Int × Int))) (a1 : List (Int × Int × Int × Int × Int × Int × Int)) (a2 : ByteArray × Int × Int × Int × Int × List Int × List Int) (a3 : Int × Int × Int × Int × Int × Int) (a4 : Int) : evT (cx tl55 n) h37 (n + 8) Try.f37 sg37 [encV false R8 a0, encV false R13 a1, encV true R16 a2, encV true R12 a3, encV false R3 a4] = f37 n a0 a1 a2 a3 a4 := by
  have h := (by kernel_rfl : evT (cx tl55 n) h37 (n + 8) Try.f37 sg37 [encV false R8 a0, encV false R13 a1, encV true R16 a2, encV true R12 a3, encV false R3 a4] = f37G n a0 a1 a2 a3 a4)
  exact h
noncomputable def sp37 : Sp := fun n => dat1 false R8 fun a0 => dat1 false R13 fun a1 => dat1 true R16 fun a2 => dat1 true R12 fun a3 => dat1 false R3 fun a4 => dat0 (ansO sg37 (f37 n a0 a1 a2 a3 a4) ((0 : Int), false))
theorem sp37_ok {n : Nat} (h : CallOk Try.prog (tabF tl55 n)) : ∀ args r, sp37 n args = some (true, r) → FnOK Try.prog 37 args r := SpR.all (SpR.dat1 fun a0 => SpR.dat1 fun a1 => SpR.dat1 fun a2 => SpR.dat1 fun a3 => SpR.dat1 fun a4 => SpR.ansO fun y hy => fnT_ok (cx_ok h) (normal_ok _) Try.func37 (code_ok_of (cx_ok h) st37) ((f37_ev n a0 a1 a2 a3 a4).trans hy))
noncomputable def tl56 : List (Nat × Sp) := (37, sp37) :: tl55
theorem tl56_ok (n : Nat) : CallOk Try.prog (tabF tl56 n) := tabF_cons (tl55_ok n) (known_of Try.func37 (by decide +kernel) (by kernel_rfl)) (sp37_ok (tl55_ok n))
/-! f17: sawmill/sawmilllaw20.of -/
abbrev sg17 : Sig := [(false, R3), (false, R0)]
noncomputable def h17 : List (Nat × List Keep) := hintsOf keeps 17
theorem st17 : fnSt Try.f17 = true := by kernel_rfl
theorem f17_ev (n : Nat) (a0 : List (Int × Int × List (Int × Int)) × List (Int × Int × Int × Int × Int × Int × Int) × ByteArray × Int × Int × Int × Int × List Int × List Int × Int) (a1 : Int × Int × Int × Int × Int × Int) : evT (cx tl56 n) h17 (n + 8) Try.f17 sg17 [encV true R4 a0, encV true R12 a1] = f17 n a0 a1 := by
  have h := (by kernel_rfl : evT (cx tl56 n) h17 (n + 8) Try.f17 sg17 [encV true R4 a0, encV true R12 a1] = f17G n a0 a1)
  exact h
noncomputable def sp17 : Sp := fun n => dat1 true R4 fun a0 => dat1 true R12 fun a1 => dat0 (ansO sg17 (f17 n a0 a1) ((0 : Int), false))
theorem sp17_ok {n : Nat} (h : CallOk Try.prog (tabF tl56 n)) : ∀ args r, sp17 n args = some (true, r) → FnOK Try.prog 17 args r := SpR.all (SpR.dat1 fun a0 => SpR.dat1 fun a1 => SpR.ansO fun y hy => fnT_ok (cx_ok h) (normal_ok _) Try.func17 (code_ok_of (cx_ok h) st17) ((f17_ev n a0 a1).trans hy))
noncomputable def tl57 : List (Nat × Sp) := (17, sp17) :: tl56
theorem tl57_ok (n : Nat) : CallOk Try.prog (tabF tl57 n) := tabF_cons (tl56_ok n) (known_of Try.func17 (by decide +kernel) (by kernel_rfl)) (sp17_ok (tl56_ok n))
/-! f30: sawmill/sawmillref20.from -/
abbrev sg30 : Sig := [(false, R0)]
noncomputable def h30 : List (Nat × List Keep) := hintsOf keeps 30
theorem st30 : fnSt Try.f30 = true := by kernel_rfl
theorem f30_ev (n : Nat) (a0 : Int) (a1 : Int) (a2 : Int) : evT (cx tl57 n) h30 (n + 8) Try.f30 sg30 [encV false R3 a0, encV false R3 a1, encV false R3 a2] = some (f30 a0 a1 a2) := (by kernel_rfl : evT (cx tl57 n) h30 (n + 8) Try.f30 sg30 [encV false R3 a0, encV false R3 a1, encV false R3 a2] = f30O a0 a1 a2).trans (f30_o a0 a1 a2)
noncomputable def sp30 : Sp := fun n => dat1 false R3 fun a0 => dat1 false R3 fun a1 => dat1 false R3 fun a2 => dat0 (ansT sg30 (f30 a0 a1 a2))
theorem sp30_ok {n : Nat} (h : CallOk Try.prog (tabF tl57 n)) : ∀ args r, sp30 n args = some (true, r) → FnOK Try.prog 30 args r := SpR.all (SpR.dat1 fun a0 => SpR.dat1 fun a1 => SpR.dat1 fun a2 => SpR.ansT (fnT_ok (cx_ok h) (normal_ok _) Try.func30 (code_ok_of (cx_ok h) st30) (f30_ev n a0 a1 a2)))
noncomputable def tl58 : List (Nat × Sp) := (30, sp30) :: tl57
theorem tl58_ok (n : Nat) : CallOk Try.prog (tabF tl58 n) := tabF_cons (tl57_ok n) (known_of Try.func30 (by decide +kernel) (by kernel_rfl)) (sp30_ok (tl57_ok n))
/-! f71: sawmill/sawmillref13.Empty -/
abbrev sg71 : Sig := [(false, R0)]
noncomputable def h71 : List (Nat × List Keep) := hintsOf keeps 71
theorem st71 : fnSt Try.f71 = true := by kernel_rfl
theorem f71_ev (n : Nat) (a0 : Int × Int × Int × Int × Int × Int) : evT (cx tl58 n) h71 (n + 8) Try.f71 sg71 [encV true R12 a0] = some (f71 a0) := (by kernel_rfl : evT (cx tl58 n) h71 (n + 8) Try.f71 sg71 [encV true R12 a0] = f71O a0).trans (f71_o a0)
noncomputable def sp71 : Sp := fun n => dat1 true R12 fun a0 => dat0 (ansT sg71 (f71 a0))
theorem sp71_ok {n : Nat} (h : CallOk Try.prog (tabF tl58 n)) : ∀ args r, sp71 n args = some (true, r) → FnOK Try.prog 71 args r := SpR.all (SpR.dat1 fun a0 => SpR.ansT (fnT_ok (cx_ok h) (normal_ok _) Try.func71 (code_ok_of (cx_ok h) st71) (f71_ev n a0)))
noncomputable def tl59 : List (Nat × Sp) := (71, sp71) :: tl58
theorem tl59_ok (n : Nat) : CallOk Try.prog (tabF tl59 n) := tabF_cons (tl58_ok n) (known_of Try.func71 (by decide +kernel) (by kernel_rfl)) (sp71_ok (tl58_ok n))
/-! f89: sawmill/sawmillref13.in -/
abbrev sg89 : Sig := [(false, R0)]
noncomputable def h89 : List (Nat × List Keep) := hintsOf keeps 89
theorem st89 : fnSt Try.f89 = true := by kernel_rfl
theorem f89_ev (n : Nat) (a0 : Int × Int) (a1 : Int) (a2 : Int) : evT (cx tl59 n) h89 (n + 8) Try.f89 sg89 [encV true R6 a0, encV false R3 a1, encV false R3 a2] = some (f89 a0 a1 a2) := (by kernel_rfl : evT (cx tl59 n) h89 (n + 8) Try.f89 sg89 [encV true R6 a0, encV false R3 a1, encV false R3 a2] = f89O a0 a1 a2).trans (f89_o a0 a1 a2)
noncomputable def sp89 : Sp := fun n => dat1 true R6 fun a0 => dat1 false R3 fun a1 => dat1 false R3 fun a2 => dat0 (ansT sg89 (f89 a0 a1 a2))
theorem sp89_ok {n : Nat} (h : CallOk Try.prog (tabF tl59 n)) : ∀ args r, sp89 n args = some (true, r) → FnOK Try.prog 89 args r := SpR.all (SpR.dat1 fun a0 => SpR.dat1 fun a1 => SpR.dat1 fun a2 => SpR.ansT (fnT_ok (cx_ok h) (normal_ok _) Try.func89 (code_ok_of (cx_ok h) st89) (f89_ev n a0 a1 a2)))
noncomputable def tl60 : List (Nat × Sp) := (89, sp89) :: tl59
theorem tl60_ok (n : Nat) : CallOk Try.prog (tabF tl60 n) := tabF_cons (tl59_ok n) (known_of Try.func89 (by decide +kernel) (by kernel_rfl)) (sp89_ok (tl59_ok n))
/-! f74: sawmill/sawmillref13.Ranged -/
abbrev sg74 : Sig := [(false, R0)]
noncomputable def h74 : List (Nat × List Keep) := hintsOf keeps 74
theorem st74 : fnSt Try.f74 = true := by kernel_rfl
theorem f74_ev (n : Nat) (a0 : Int × Int × Int × Int × Int × Int) : evT (cx tl60 n) h74 (n + 8) Try.f74 sg74 [encV true R12 a0] = some (f74 a0) := (by kernel_rfl : evT (cx tl60 n) h74 (n + 8) Try.f74 sg74 [encV true R12 a0] = f74O a0).trans (f74_o a0)
noncomputable def sp74 : Sp := fun n => dat1 true R12 fun a0 => dat0 (ansT sg74 (f74 a0))
theorem sp74_ok {n : Nat} (h : CallOk Try.prog (tabF tl60 n)) : ∀ args r, sp74 n args = some (true, r) → FnOK Try.prog 74 args r := SpR.all (SpR.dat1 fun a0 => SpR.ansT (fnT_ok (cx_ok h) (normal_ok _) Try.func74 (code_ok_of (cx_ok h) st74) (f74_ev n a0)))
noncomputable def tl61 : List (Nat × Sp) := (74, sp74) :: tl60
theorem tl61_ok (n : Nat) : CallOk Try.prog (tabF tl61 n) := tabF_cons (tl60_ok n) (known_of Try.func74 (by decide +kernel) (by kernel_rfl)) (sp74_ok (tl60_ok n))
/-! f55: sawmill/sawmillref13.Check -/
abbrev sg55 : Sig := [(false, R3)]
noncomputable def h55 : List (Nat × List Keep) := hintsOf keeps 55
theorem st55 : fnSt Try.f55 = true := by kernel_rfl
noncomputable def b55L4 : Code := sub [1, 1, 0, 1, 0, 0] (bodyOf Try.f55)
def f55L4S (a0 : List (Int × Int × Int × Int × Int × Int × Int)) (v7 : Int) : Sx := ⟨(.node (.imm R2 a0) (.node .undef (.node (.int .i64 v7) .nil .nil) .nil) .nil), [], [], 0⟩
def f55L4Xret (a0 : List (Int × Int × Int × Int × Int × Int × Int)) (v15 : Int) : Sx := ⟨(.node .undef .nil (.node (.int .i64 v15) .nil .nil)), [], [], 0⟩
def f55L4X0 (a0 : List (Int × Int × Int × Int × Int × Int × Int)) : Sx := ⟨.nil, [], [], 0⟩
noncomputable def f55L4N (n N m : Nat) (s : Sx) (k : Kont (Int)) : Option (Int) := loopN (get h55 12) (evCode (cx tl61 n) h55 N b55L4) m s k
theorem f55L4_ok (n N : Nat) (a0 : List (Int × Int × Int × Int × Int × Int × Int)) : ∀ (m : Nat) (v7 : Int) (k : Kont (Int)), f55L4N n N m (f55L4S a0 v7) k = f55L4 n a0 m v7 (fun v15 => k.r (f55L4Xret a0 v15)) (k.x 0 (f55L4X0 a0)) := by
  intro m
  induction m with
  | zero => intros; rfl
  | succ m ih =>
    intro v7 k
    have h := (by kernel_rfl : f55L4N n N (m + 1) (f55L4S a0 v7) k = f55L4G n a0 v7 (fun v7 => f55L4N n N m (f55L4S a0 v7) k) (fun v15 => k.r (f55L4Xret a0 v15)) (k.x 0 (f55L4X0 a0)))
    exact h.trans (congrArg (fun kc => f55L4G n a0 v7 kc (fun v15 => k.r (f55L4Xret a0 v15)) (k.x 0 (f55L4X0 a0))) (funext fun v7 => ih v7 k))
theorem f55_ev_s1 (n N : Nat) (a0 : List (Int × Int × Int × Int × Int × Int × Int)) : evT (cx tl61 n) h55 N Try.f55 sg55 [encV false R13 a0] = f55G n a0 (fun a0 v7 _ _ => f55L4N n N N (f55L4S a0 v7) (kAt (cx tl61 n) h55 N [1, 1, 0, 1, 0] (bodyOf Try.f55) (konT (cx tl61 n) Try.f55.results.toList sg55))) := by kernel_rfl
theorem f55_ev_s2 (n N : Nat) (a0 : List (Int × Int × Int × Int × Int × Int × Int)) : f55G n a0 (fun a0 v7 _ _ => f55L4 n a0 N v7 (fun v15 => (kAt (cx tl61 n) h55 N [1, 1, 0, 1, 0] (bodyOf Try.f55) (konT (cx tl61 n) Try.f55.results.toList sg55)).r (f55L4Xret a0 v15)) ((kAt (cx tl61 n) h55 N [1, 1, 0, 1, 0] (bodyOf Try.f55) (konT (cx tl61 n) Try.f55.results.toList sg55)).x 0 (f55L4X0 a0))) = f55G n a0 (fun a0 => f55L4 n a0 N) := by kernel_rfl
theorem f55_ev (n : Nat) (a0 : List (Int × Int × Int × Int × Int × Int × Int)) : evT (cx tl61 n) h55 (n + 8) Try.f55 sg55 [encV false R13 a0] = f55 n a0 := by
  have h := (f55_ev_s1 n (n + 8) a0 : evT (cx tl61 n) h55 (n + 8) Try.f55 sg55 [encV false R13 a0] = f55G n a0 (fun a0 v7 _ _ => f55L4N n (n + 8) (n + 8) (f55L4S a0 v7) (kAt (cx tl61 n) h55 (n + 8) [1, 1, 0, 1, 0] (bodyOf Try.f55) (konT (cx tl61 n) Try.f55.results.toList sg55))))
  replace h := h.trans (congrArg (fun lp => f55G n a0 lp) (funext fun x0 => funext fun x1 => funext fun _ => funext fun _ => f55L4_ok n (n + 8) x0 (n + 8) x1 (kAt (cx tl61 n) h55 (n + 8) [1, 1, 0, 1, 0] (bodyOf Try.f55) (konT (cx tl61 n) Try.f55.results.toList sg55))))
  replace h := h.trans (f55_ev_s2 n (n + 8) a0 : f55G n a0 (fun a0 v7 _ _ => f55L4 n a0 (n + 8) v7 (fun v15 => (kAt (cx tl61 n) h55 (n + 8) [1, 1, 0, 1, 0] (bodyOf Try.f55) (konT (cx tl61 n) Try.f55.results.toList sg55)).r (f55L4Xret a0 v15)) ((kAt (cx tl61 n) h55 (n + 8) [1, 1, 0, 1, 0] (bodyOf Try.f55) (konT (cx tl61 n) Try.f55.results.toList sg55)).x 0 (f55L4X0 a0))) = f55G n a0 (fun a0 => f55L4 n a0 (n + 8)))
  exact h
noncomputable def sp55 : Sp := fun n => dat1 false R13 fun a0 => dat0 (ansO sg55 (f55 n a0) (0 : Int))
theorem sp55_ok {n : Nat} (h : CallOk Try.prog (tabF tl61 n)) : ∀ args r, sp55 n args = some (true, r) → FnOK Try.prog 55 args r := SpR.all (SpR.dat1 fun a0 => SpR.ansO fun y hy => fnT_ok (cx_ok h) (normal_ok _) Try.func55 (code_ok_of (cx_ok h) st55) ((f55_ev n a0).trans hy))
noncomputable def tl62 : List (Nat × Sp) := (55, sp55) :: tl61
theorem tl62_ok (n : Nat) : CallOk Try.prog (tabF tl62 n) := tabF_cons (tl61_ok n) (known_of Try.func55 (by decide +kernel) (by kernel_rfl)) (sp55_ok (tl61_ok n))
/-! f90: sawmill/sawmillref02.digit -/
abbrev sg90 : Sig := [(false, R0)]
noncomputable def h90 : List (Nat × List Keep) := hintsOf keeps 90
theorem st90 : fnSt Try.f90 = true := by kernel_rfl
theorem f90_ev (n : Nat) (a0 : Int) : evT (cx tl62 n) h90 (n + 8) Try.f90 sg90 [encV false R14 a0] = some (f90 a0) := (by kernel_rfl : evT (cx tl62 n) h90 (n + 8) Try.f90 sg90 [encV false R14 a0] = f90O a0).trans (f90_o a0)
noncomputable def sp90 : Sp := fun n => dat1 false R14 fun a0 => dat0 (ansT sg90 (f90 a0))
theorem sp90_ok {n : Nat} (h : CallOk Try.prog (tabF tl62 n)) : ∀ args r, sp90 n args = some (true, r) → FnOK Try.prog 90 args r := SpR.all (SpR.dat1 fun a0 => SpR.ansT (fnT_ok (cx_ok h) (normal_ok _) Try.func90 (code_ok_of (cx_ok h) st90) (f90_ev n a0)))
noncomputable def tl63 : List (Nat × Sp) := (90, sp90) :: tl62
theorem tl63_ok (n : Nat) : CallOk Try.prog (tabF tl63 n) := tabF_cons (tl62_ok n) (known_of Try.func90 (by decide +kernel) (by kernel_rfl)) (sp90_ok (tl62_ok n))
/-! f75: sawmill/sawmillref02.IsName -/
abbrev sg75 : Sig := [(false, R0)]
noncomputable def h75 : List (Nat × List Keep) := hintsOf keeps 75
theorem st75 : fnSt Try.f75 = true := by kernel_rfl
noncomputable def b75L4 : Code := sub [1, 1, 0, 1, 0, 0] (bodyOf Try.f75)
def f75L4S (a0 : ByteArray) (v3 : Int) : Sx := ⟨(.node (.str a0) (.node .undef (.node (.int .i64 v3) .nil .nil) .nil) .nil), [], [], 0⟩
def f75L4Xret (a0 : ByteArray) : Sx := ⟨(.node .undef .nil (.node (.bool false) .nil .nil)), [], [], 0⟩
def f75L4X0 (a0 : ByteArray) : Sx := ⟨.nil, [], [], 0⟩
noncomputable def f75L4N (n N m : Nat) (s : Sx) (k : Kont (Bool)) : Option (Bool) := loopN (get h75 12) (evCode (cx tl63 n) h75 N b75L4) m s k
theorem f75L4_ok (n N : Nat) (a0 : ByteArray) : ∀ (m : Nat) (v3 : Int) (k : Kont (Bool)), f75L4N n N m (f75L4S a0 v3) k = f75L4 n a0 m v3 (k.r (f75L4Xret a0)) (k.x 0 (f75L4X0 a0)) := by
  intro m
  induction m with
  | zero => intros; rfl
  | succ m ih =>
    intro v3 k
    have h := (by kernel_rfl : f75L4N n N (m + 1) (f75L4S a0 v3) k = f75L4G n a0 v3 (fun v3 => f75L4N n N m (f75L4S a0 v3) k) (k.r (f75L4Xret a0)) (k.x 0 (f75L4X0 a0)))
    exact h.trans (congrArg (fun kc => f75L4G n a0 v3 kc (k.r (f75L4Xret a0)) (k.x 0 (f75L4X0 a0))) (funext fun v3 => ih v3 k))
theorem f75_ev_s1 (n N : Nat) (a0 : ByteArray) : evT (cx tl63 n) h75 N Try.f75 sg75 [encV false R15 a0] = f75G n a0 (fun a0 v3 _ _ => f75L4N n N N (f75L4S a0 v3) (kAt (cx tl63 n) h75 N [1, 1, 0, 1, 0] (bodyOf Try.f75) (konT (cx tl63 n) Try.f75.results.toList sg75))) := by kernel_rfl
theorem f75_ev_s2 (n N : Nat) (a0 : ByteArray) : f75G n a0 (fun a0 v3 _ _ => f75L4 n a0 N v3 ((kAt (cx tl63 n) h75 N [1, 1, 0, 1, 0] (bodyOf Try.f75) (konT (cx tl63 n) Try.f75.results.toList sg75)).r (f75L4Xret a0)) ((kAt (cx tl63 n) h75 N [1, 1, 0, 1, 0] (bodyOf Try.f75) (konT (cx tl63 n) Try.f75.results.toList sg75)).x 0 (f75L4X0 a0))) = f75G n a0 (fun a0 => f75L4 n a0 N) := by kernel_rfl
theorem f75_ev (n : Nat) (a0 : ByteArray) : evT (cx tl63 n) h75 (n + 8) Try.f75 sg75 [encV false R15 a0] = f75 n a0 := by
  have h := (f75_ev_s1 n (n + 8) a0 : evT (cx tl63 n) h75 (n + 8) Try.f75 sg75 [encV false R15 a0] = f75G n a0 (fun a0 v3 _ _ => f75L4N n (n + 8) (n + 8) (f75L4S a0 v3) (kAt (cx tl63 n) h75 (n + 8) [1, 1, 0, 1, 0] (bodyOf Try.f75) (konT (cx tl63 n) Try.f75.results.toList sg75))))
  replace h := h.trans (congrArg (fun lp => f75G n a0 lp) (funext fun x0 => funext fun x1 => funext fun _ => funext fun _ => f75L4_ok n (n + 8) x0 (n + 8) x1 (kAt (cx tl63 n) h75 (n + 8) [1, 1, 0, 1, 0] (bodyOf Try.f75) (konT (cx tl63 n) Try.f75.results.toList sg75))))
  replace h := h.trans (f75_ev_s2 n (n + 8) a0 : f75G n a0 (fun a0 v3 _ _ => f75L4 n a0 (n + 8) v3 ((kAt (cx tl63 n) h75 (n + 8) [1, 1, 0, 1, 0] (bodyOf Try.f75) (konT (cx tl63 n) Try.f75.results.toList sg75)).r (f75L4Xret a0)) ((kAt (cx tl63 n) h75 (n + 8) [1, 1, 0, 1, 0] (bodyOf Try.f75) (konT (cx tl63 n) Try.f75.results.toList sg75)).x 0 (f75L4X0 a0))) = f75G n a0 (fun a0 => f75L4 n a0 (n + 8)))
  exact h
noncomputable def sp75 : Sp := fun n => dat1 false R15 fun a0 => dat0 (ansO sg75 (f75 n a0) false)
theorem sp75_ok {n : Nat} (h : CallOk Try.prog (tabF tl63 n)) : ∀ args r, sp75 n args = some (true, r) → FnOK Try.prog 75 args r := SpR.all (SpR.dat1 fun a0 => SpR.ansO fun y hy => fnT_ok (cx_ok h) (normal_ok _) Try.func75 (code_ok_of (cx_ok h) st75) ((f75_ev n a0).trans hy))
noncomputable def tl64 : List (Nat × Sp) := (75, sp75) :: tl63
theorem tl64_ok (n : Nat) : CallOk Try.prog (tabF tl64 n) := tabF_cons (tl63_ok n) (known_of Try.func75 (by decide +kernel) (by kernel_rfl)) (sp75_ok (tl63_ok n))
/-! f77: sawmill/sawmillref19.sized -/
abbrev sg77 : Sig := [(false, R0)]
noncomputable def h77 : List (Nat × List Keep) := hintsOf keeps 77
theorem st77 : fnSt Try.f77 = true := by kernel_rfl
theorem f77_ev (n : Nat) (a0 : ByteArray × Int × Int × Int × Int × List Int × List Int) : evT (cx tl64 n) h77 (n + 8) Try.f77 sg77 [encV true R16 a0] = some (f77 a0) := (by kernel_rfl : evT (cx tl64 n) h77 (n + 8) Try.f77 sg77 [encV true R16 a0] = f77O a0).trans (f77_o a0)
noncomputable def sp77 : Sp := fun n => dat1 true R16 fun a0 => dat0 (ansT sg77 (f77 a0))
theorem sp77_ok {n : Nat} (h : CallOk Try.prog (tabF tl64 n)) : ∀ args r, sp77 n args = some (true, r) → FnOK Try.prog 77 args r := SpR.all (SpR.dat1 fun a0 => SpR.ansT (fnT_ok (cx_ok h) (normal_ok _) Try.func77 (code_ok_of (cx_ok h) st77) (f77_ev n a0)))
noncomputable def tl65 : List (Nat × Sp) := (77, sp77) :: tl64
theorem tl65_ok (n : Nat) : CallOk Try.prog (tabF tl65 n) := tabF_cons (tl64_ok n) (known_of Try.func77 (by decide +kernel) (by kernel_rfl)) (sp77_ok (tl64_ok n))
/-! f57: sawmill/sawmillref19.Green -/
abbrev sg57 : Sig := [(false, R3), (false, R3)]
noncomputable def h57 : List (Nat × List Keep) := hintsOf keeps 57
theorem st57 : fnSt Try.f57 = true := by kernel_rfl
theorem f57_ev (n : Nat) (a0 : ByteArray × Int × Int × Int × Int × List Int × List Int) : evT (cx tl65 n) h57 (n + 8) Try.f57 sg57 [encV true R16 a0] = some (f57 a0) := (by kernel_rfl : evT (cx tl65 n) h57 (n + 8) Try.f57 sg57 [encV true R16 a0] = f57O a0).trans (f57_o a0)
noncomputable def sp57 : Sp := fun n => dat1 true R16 fun a0 => dat0 (ansT sg57 (f57 a0))
theorem sp57_ok {n : Nat} (h : CallOk Try.prog (tabF tl65 n)) : ∀ args r, sp57 n args = some (true, r) → FnOK Try.prog 57 args r := SpR.all (SpR.dat1 fun a0 => SpR.ansT (fnT_ok (cx_ok h) (normal_ok _) Try.func57 (code_ok_of (cx_ok h) st57) (f57_ev n a0)))
noncomputable def tl66 : List (Nat × Sp) := (57, sp57) :: tl65
theorem tl66_ok (n : Nat) : CallOk Try.prog (tabF tl66 n) := tabF_cons (tl65_ok n) (known_of Try.func57 (by decide +kernel) (by kernel_rfl)) (sp57_ok (tl65_ok n))
/-! f76: sawmill/sawmillref19.checkLengths -/
abbrev sg76 : Sig := [(false, R3)]
noncomputable def h76 : List (Nat × List Keep) := hintsOf keeps 76
theorem st76 : fnSt Try.f76 = true := by kernel_rfl
noncomputable def b76L8 : Code := sub [1, 1, 1, 1, 0, 1, 0, 0] (bodyOf Try.f76)
def f76L8S (a0 : ByteArray × Int × Int × Int × Int × List Int × List Int) (v4 : Int) : Sx := ⟨(.node .undef (.node (.ptr 0 0) (.node (.int .i64 v4) .nil .nil) .nil) .nil), [(0, .box [(.str a0.1), (.int .i64 a0.2.1), (.int .i64 a0.2.2.1), (.int .i64 a0.2.2.2.1), (.int .i64 a0.2.2.2.2.1), (.imm R3 a0.2.2.2.2.2.1), (.imm R3 a0.2.2.2.2.2.2)])], [], 1⟩
def f76L8Xret (a0 : ByteArray × Int × Int × Int × Int × List Int × List Int) (v12 : Int) : Sx := ⟨(.node .undef .nil (.node (.int .i64 v12) .nil .nil)), [], [], 0⟩
def f76L8X0 (a0 : ByteArray × Int × Int × Int × Int × List Int × List Int) : Sx := ⟨(.node .undef (.node (.ptr 0 0) .nil .nil) .nil), [(0, .box [(.str a0.1), (.int .i64 a0.2.1), (.int .i64 a0.2.2.1), (.int .i64 a0.2.2.2.1), (.int .i64 a0.2.2.2.2.1), (.imm R3 a0.2.2.2.2.2.1), (.imm R3 a0.2.2.2.2.2.2)])], [], 1⟩
noncomputable def f76L8N (n N m : Nat) (s : Sx) (k : Kont (Int)) : Option (Int) := loopN (get h76 24) (evCode (cx tl66 n) h76 N b76L8) m s k
theorem f76L8_ok (n N : Nat) (a0 : ByteArray × Int × Int × Int × Int × List Int × List Int) : ∀ (m : Nat) (v4 : Int) (k : Kont (Int)), f76L8N n N m (f76L8S a0 v4) k = f76L8 n a0 m v4 (fun v12 => k.r (f76L8Xret a0 v12)) (k.x 0 (f76L8X0 a0)) := by
  intro m
  induction m with
  | zero => intros; rfl
  | succ m ih =>
    intro v4 k
    have h := (by kernel_rfl : f76L8N n N (m + 1) (f76L8S a0 v4) k = f76L8G n a0 v4 (fun v4 => f76L8N n N m (f76L8S a0 v4) k) (fun v12 => k.r (f76L8Xret a0 v12)) (k.x 0 (f76L8X0 a0)))
    exact h.trans (congrArg (fun kc => f76L8G n a0 v4 kc (fun v12 => k.r (f76L8Xret a0 v12)) (k.x 0 (f76L8X0 a0))) (funext fun v4 => ih v4 k))
noncomputable def b76L15 : Code := sub [1, 1, 1, 1, 1, 0, 1, 0, 0] (bodyOf Try.f76)
def f76L15S (a0 : ByteArray × Int × Int × Int × Int × List Int × List Int) (v16 : Int) : Sx := ⟨(.node .undef (.node (.ptr 0 0) .nil .nil) (.node .undef (.node (.int .i64 v16) .nil .nil) .nil)), [(0, .box [(.str a0.1), (.int .i64 a0.2.1), (.int .i64 a0.2.2.1), (.int .i64 a0.2.2.2.1), (.int .i64 a0.2.2.2.2.1), (.imm R3 a0.2.2.2.2.2.1), (.imm R3 a0.2.2.2.2.2.2)])], [], 1⟩
def f76L15Xret (a0 : ByteArray × Int × Int × Int × Int × List Int × List Int) : Sx := ⟨(.node .undef .nil (.node (.int .i64 9) .nil .nil)), [], [], 0⟩
def f76L15X2 (a0 : ByteArray × Int × Int × Int × Int × List Int × List Int) : Sx := ⟨.nil, [], [], 0⟩
noncomputable def f76L15N (n N m : Nat) (s : Sx) (k : Kont (Int)) : Option (Int) := loopN (get h76 45) (evCode (cx tl66 n) h76 N b76L15) m s k
theorem f76L15_ok (n N : Nat) (a0 : ByteArray × Int × Int × Int × Int × List Int × List Int) : ∀ (m : Nat) (v16 : Int) (k : Kont (Int)), f76L15N n N m (f76L15S a0 v16) k = f76L15 n a0 m v16 (k.r (f76L15Xret a0)) (k.x 2 (f76L15X2 a0)) := by
  intro m
  induction m with
  | zero => intros; rfl
  | succ m ih =>
    intro v16 k
    have h := (by kernel_rfl : f76L15N n N (m + 1) (f76L15S a0 v16) k = f76L15G n a0 v16 (fun v16 => f76L15N n N m (f76L15S a0 v16) k) (k.r (f76L15Xret a0)) (k.x 2 (f76L15X2 a0)))
    exact h.trans (congrArg (fun kc => f76L15G n a0 v16 kc (k.r (f76L15Xret a0)) (k.x 2 (f76L15X2 a0))) (funext fun v16 => ih v16 k))
theorem f76_ev_s1 (n N : Nat) (a0 : ByteArray × Int × Int × Int × Int × List Int × List Int) : evT (cx tl66 n) h76 N Try.f76 sg76 [encV true R16 a0] = f76G n a0 (fun a0 v4 _ _ => f76L8N n N N (f76L8S a0 v4) (kAt (cx tl66 n) h76 N [1, 1, 1, 1, 0, 1, 0] (bodyOf Try.f76) (konT (cx tl66 n) Try.f76.results.toList sg76))) (fun a0 v16 _ _ => f76L15N n N N (f76L15S a0 v16) (kAt (cx tl66 n) h76 N [1, 1, 1, 1, 1, 0, 1, 0] (bodyOf Try.f76) (konT (cx tl66 n) Try.f76.results.toList sg76))) := by kernel_rfl
theorem f76_ev_s2 (n N : Nat) (a0 : ByteArray × Int × Int × Int × Int × List Int × List Int) : f76G n a0 (fun a0 v4 _ _ => f76L8 n a0 N v4 (fun v12 => (kAt (cx tl66 n) h76 N [1, 1, 1, 1, 0, 1, 0] (bodyOf Try.f76) (konT (cx tl66 n) Try.f76.results.toList sg76)).r (f76L8Xret a0 v12)) ((kAt (cx tl66 n) h76 N [1, 1, 1, 1, 0, 1, 0] (bodyOf Try.f76) (konT (cx tl66 n) Try.f76.results.toList sg76)).x 0 (f76L8X0 a0))) (fun a0 v16 _ _ => f76L15N n N N (f76L15S a0 v16) (kAt (cx tl66 n) h76 N [1, 1, 1, 1, 1, 0, 1, 0] (bodyOf Try.f76) (konT (cx tl66 n) Try.f76.results.toList sg76))) = f76G n a0 (fun a0 => f76L8 n a0 N) (fun a0 v16 _ _ => f76L15N n N N (f76L15S a0 v16) (kAt (cx tl66 n) h76 N [1, 1, 1, 1, 1, 0, 1, 0] (bodyOf Try.f76) (konT (cx tl66 n) Try.f76.results.toList sg76))) := by kernel_rfl
theorem f76_ev_s3 (n N : Nat) (a0 : ByteArray × Int × Int × Int × Int × List Int × List Int) : f76G n a0 (fun a0 => f76L8 n a0 N) (fun a0 v16 _ _ => f76L15 n a0 N v16 ((kAt (cx tl66 n) h76 N [1, 1, 1, 1, 1, 0, 1, 0] (bodyOf Try.f76) (konT (cx tl66 n) Try.f76.results.toList sg76)).r (f76L15Xret a0)) ((kAt (cx tl66 n) h76 N [1, 1, 1, 1, 1, 0, 1, 0] (bodyOf Try.f76) (konT (cx tl66 n) Try.f76.results.toList sg76)).x 2 (f76L15X2 a0))) = f76G n a0 (fun a0 => f76L8 n a0 N) (fun a0 => f76L15 n a0 N) := by kernel_rfl
theorem f76_ev (n : Nat) (a0 : ByteArray × Int × Int × Int × Int × List Int × List Int) : evT (cx tl66 n) h76 (n + 8) Try.f76 sg76 [encV true R16 a0] = f76 n a0 := by
  have h := (f76_ev_s1 n (n + 8) a0 : evT (cx tl66 n) h76 (n + 8) Try.f76 sg76 [encV true R16 a0] = f76G n a0 (fun a0 v4 _ _ => f76L8N n (n + 8) (n + 8) (f76L8S a0 v4) (kAt (cx tl66 n) h76 (n + 8) [1, 1, 1, 1, 0, 1, 0] (bodyOf Try.f76) (konT (cx tl66 n) Try.f76.results.toList sg76))) (fun a0 v16 _ _ => f76L15N n (n + 8) (n + 8) (f76L15S a0 v16) (kAt (cx tl66 n) h76 (n + 8) [1, 1, 1, 1, 1, 0, 1, 0] (bodyOf Try.f76) (konT (cx tl66 n) Try.f76.results.toList sg76))))
  replace h := h.trans (congrArg (fun lp => f76G n a0 lp (fun a0 v16 _ _ => f76L15N n (n + 8) (n + 8) (f76L15S a0 v16) (kAt (cx tl66 n) h76 (n + 8) [1, 1, 1, 1, 1, 0, 1, 0] (bodyOf Try.f76) (konT (cx tl66 n) Try.f76.results.toList sg76)))) (funext fun x0 => funext fun x1 => funext fun _ => funext fun _ => f76L8_ok n (n + 8) x0 (n + 8) x1 (kAt (cx tl66 n) h76 (n + 8) [1, 1, 1, 1, 0, 1, 0] (bodyOf Try.f76) (konT (cx tl66 n) Try.f76.results.toList sg76))))
  replace h := h.trans (f76_ev_s2 n (n + 8) a0 : f76G n a0 (fun a0 v4 _ _ => f76L8 n a0 (n + 8) v4 (fun v12 => (kAt (cx tl66 n) h76 (n + 8) [1, 1, 1, 1, 0, 1, 0] (bodyOf Try.f76) (konT (cx tl66 n) Try.f76.results.toList sg76)).r (f76L8Xret a0 v12)) ((kAt (cx tl66 n) h76 (n + 8) [1, 1, 1, 1, 0, 1, 0] (bodyOf Try.f76) (konT (cx tl66 n) Try.f76.results.toList sg76)).x 0 (f76L8X0 a0))) (fun a0 v16 _ _ => f76L15N n (n + 8) (n + 8) (f76L15S a0 v16) (kAt (cx tl66 n) h76 (n + 8) [1, 1, 1, 1, 1, 0, 1, 0] (bodyOf Try.f76) (konT (cx tl66 n) Try.f76.results.toList sg76))) = f76G n a0 (fun a0 => f76L8 n a0 (n + 8)) (fun a0 v16 _ _ => f76L15N n (n + 8) (n + 8) (f76L15S a0 v16) (kAt (cx tl66 n) h76 (n + 8) [1, 1, 1, 1, 1, 0, 1, 0] (bodyOf Try.f76) (konT (cx tl66 n) Try.f76.results.toList sg76))))
  replace h := h.trans (congrArg (fun lp => f76G n a0 (fun a0 => f76L8 n a0 (n + 8)) lp) (funext fun x0 => funext fun x1 => funext fun _ => funext fun _ => f76L15_ok n (n + 8) x0 (n + 8) x1 (kAt (cx tl66 n) h76 (n + 8) [1, 1, 1, 1, 1, 0, 1, 0] (bodyOf Try.f76) (konT (cx tl66 n) Try.f76.results.toList sg76))))
  replace h := h.trans (f76_ev_s3 n (n + 8) a0 : f76G n a0 (fun a0 => f76L8 n a0 (n + 8)) (fun a0 v16 _ _ => f76L15 n a0 (n + 8) v16 ((kAt (cx tl66 n) h76 (n + 8) [1, 1, 1, 1, 1, 0, 1, 0] (bodyOf Try.f76) (konT (cx tl66 n) Try.f76.results.toList sg76)).r (f76L15Xret a0)) ((kAt (cx tl66 n) h76 (n + 8) [1, 1, 1, 1, 1, 0, 1, 0] (bodyOf Try.f76) (konT (cx tl66 n) Try.f76.results.toList sg76)).x 2 (f76L15X2 a0))) = f76G n a0 (fun a0 => f76L8 n a0 (n + 8)) (fun a0 => f76L15 n a0 (n + 8)))
  exact h
noncomputable def sp76 : Sp := fun n => dat1 true R16 fun a0 => dat0 (ansO sg76 (f76 n a0) (0 : Int))
theorem sp76_ok {n : Nat} (h : CallOk Try.prog (tabF tl66 n)) : ∀ args r, sp76 n args = some (true, r) → FnOK Try.prog 76 args r := SpR.all (SpR.dat1 fun a0 => SpR.ansO fun y hy => fnT_ok (cx_ok h) (normal_ok _) Try.func76 (code_ok_of (cx_ok h) st76) ((f76_ev n a0).trans hy))
noncomputable def tl67 : List (Nat × Sp) := (76, sp76) :: tl66
theorem tl67_ok (n : Nat) : CallOk Try.prog (tabF tl67 n) := tabF_cons (tl66_ok n) (known_of Try.func76 (by decide +kernel) (by kernel_rfl)) (sp76_ok (tl66_ok n))
/-! f56: sawmill/sawmillref19.Check -/
abbrev sg56 : Sig := [(false, R3)]
noncomputable def h56 : List (Nat × List Keep) := hintsOf keeps 56
theorem st56 : fnSt Try.f56 = true := by kernel_rfl
noncomputable def b56L10 : Code := sub [1, 1, 0, 1, 0, 0, 1, 0, 0, 1, 1, 0, 1, 0, 0] (bodyOf Try.f56)
def f56L10S (a0 : List (ByteArray × Int × Int × Int × Int × List Int × List Int)) (v7 : Int) (v8 : ByteArray × Int × Int × Int × Int × List Int × List Int) (v12 : Int) : Sx := ⟨(.node (.imm R16 a0) (.node .undef (.node (.int .i64 v7) .nil .nil) (.node (.int .i64 v12) .nil .nil)) (.node .undef (.node (.ptr 0 0) .nil .nil) .nil)), [(0, .box [(.str v8.1), (.int .i64 v8.2.1), (.int .i64 v8.2.2.1), (.int .i64 v8.2.2.2.1), (.int .i64 v8.2.2.2.2.1), (.imm R3 v8.2.2.2.2.2.1), (.imm R3 v8.2.2.2.2.2.2)])], [], 1⟩
def f56L10Xret (a0 : List (ByteArray × Int × Int × Int × Int × List Int × List Int)) (v7 : Int) (v8 : ByteArray × Int × Int × Int × Int × List Int × List Int) : Sx := ⟨(.node .undef .nil (.node (.int .i64 7) .nil .nil)), [], [], 0⟩
def f56L10X2 (a0 : List (ByteArray × Int × Int × Int × Int × List Int × List Int)) (v7 : Int) (v8 : ByteArray × Int × Int × Int × Int × List Int × List Int) : Sx := ⟨(.node (.imm R16 a0) (.node .undef (.node (.int .i64 v7) .nil .nil) .nil) (.node .undef (.node (.ptr 0 0) .nil .nil) .nil)), [(0, .box [(.str v8.1), (.int .i64 v8.2.1), (.int .i64 v8.2.2.1), (.int .i64 v8.2.2.2.1), (.int .i64 v8.2.2.2.2.1), (.imm R3 v8.2.2.2.2.2.1), (.imm R3 v8.2.2.2.2.2.2)])], [], 1⟩
noncomputable def f56L10N (n N m : Nat) (s : Sx) (k : Kont (Int)) : Option (Int) := loopN (get h56 30) (evCode (cx tl67 n) h56 N b56L10) m s k
theorem f56L10_ok (n : Nat) (a0 : List (ByteArray × Int × Int × Int × Int × List Int × List Int)) (v7 : Int) (v8 : ByteArray × Int × Int × Int × Int × List Int × List Int) : ∀ (m : Nat) (v12 : Int) (k : Kont (Int)), f56L10N n (n + 8) m (f56L10S a0 v7 v8 v12) k = f56L10 n a0 v7 v8 m v12 (k.r (f56L10Xret a0 v7 v8)) (k.x 2 (f56L10X2 a0 v7 v8)) := by
  intro m
  induction m with
  | zero => intros; rfl
  | succ m ih =>
    intro v12 k
    have h := (by kernel_rfl : f56L10N n (n + 8) (m + 1) (f56L10S a0 v7 v8 v12) k = f56L10G n a0 v7 v8 v12 (fun v12 => f56L10N n (n + 8) m (f56L10S a0 v7 v8 v12) k) (k.r (f56L10Xret a0 v7 v8)) (k.x 2 (f56L10X2 a0 v7 v8)))
    exact h.trans (congrArg (fun kc => f56L10G n a0 v7 v8 v12 kc (k.r (f56L10Xret a0 v7 v8)) (k.x 2 (f56L10X2 a0 v7 v8))) (funext fun v12 => ih v12 k))
noncomputable def b56L4 : Code := sub [1, 1, 0, 1, 0, 0] (bodyOf Try.f56)
def f56L4S (a0 : List (ByteArray × Int × Int × Int × Int × List Int × List Int)) (v7 : Int) : Sx := ⟨(.node (.imm R16 a0) (.node .undef (.node (.int .i64 v7) .nil .nil) .nil) .nil), [], [], 0⟩
def f56L4Xret (a0 : List (ByteArray × Int × Int × Int × Int × List Int × List Int)) (v19 : Int) : Sx := ⟨(.node .undef .nil (.node (.int .i64 v19) .nil .nil)), [], [], 0⟩
def f56L4X0 (a0 : List (ByteArray × Int × Int × Int × Int × List Int × List Int)) : Sx := ⟨.nil, [], [], 0⟩
noncomputable def f56L4N (n N m : Nat) (s : Sx) (k : Kont (Int)) : Option (Int) := loopN (get h56 12) (evCode (cx tl67 n) h56 N b56L4) m s k
theorem f56L4_s1 (n : Nat) (m : Nat) (a0 : List (ByteArray × Int × Int × Int × Int × List Int × List Int)) (v7 : Int) (k : Kont (Int)) : f56L4N n (n + 8) (m + 1) (f56L4S a0 v7) k = f56L4G n a0 (fun a0 v7 v8 v12 _ _ => f56L10N n (n + 8) (n + 8) (f56L10S a0 v7 v8 v12) (kAt (cx tl67 n) h56 (n + 8) [1, 0, 0, 1, 1, 0, 1, 0] (b56L4) (backK (cx tl67 n) h56 (n + 8) m 12 b56L4 k))) v7 (fun v7 => f56L4N n (n + 8) m (f56L4S a0 v7) k) (fun v19 => k.r (f56L4Xret a0 v19)) (k.x 0 (f56L4X0 a0)) := by kernel_rfl
theorem f56L4_s2 (n : Nat) (m : Nat) (a0 : List (ByteArray × Int × Int × Int × Int × List Int × List Int)) (v7 : Int) (k : Kont (Int)) : f56L4G n a0 (fun a0 v7 v8 v12 _ _ => f56L10 n a0 v7 v8 (n + 8) v12 ((kAt (cx tl67 n) h56 (n + 8) [1, 0, 0, 1, 1, 0, 1, 0] (b56L4) (backK (cx tl67 n) h56 (n + 8) m 12 b56L4 k)).r (f56L10Xret a0 v7 v8)) ((kAt (cx tl67 n) h56 (n + 8) [1, 0, 0, 1, 1, 0, 1, 0] (b56L4) (backK (cx tl67 n) h56 (n + 8) m 12 b56L4 k)).x 2 (f56L10X2 a0 v7 v8))) v7 (fun v7 => f56L4N n (n + 8) m (f56L4S a0 v7) k) (fun v19 => k.r (f56L4Xret a0 v19)) (k.x 0 (f56L4X0 a0)) = f56L4G n a0 (fun a0 v7 v8 => f56L10 n a0 v7 v8 (n + 8)) v7 (fun v7 => f56L4N n (n + 8) m (f56L4S a0 v7) k) (fun v19 => k.r (f56L4Xret a0 v19)) (k.x 0 (f56L4X0 a0)) := by kernel_rfl
theorem f56L4_ok (n : Nat) (a0 : List (ByteArray × Int × Int × Int × Int × List Int × List Int)) : ∀ (m : Nat) (v7 : Int) (k : Kont (Int)), f56L4N n (n + 8) m (f56L4S a0 v7) k = f56L4 n a0 m v7 (fun v19 => k.r (f56L4Xret a0 v19)) (k.x 0 (f56L4X0 a0)) := by
  intro m
  induction m with
  | zero => intros; rfl
  | succ m ih =>
    intro v7 k
    have h := (f56L4_s1 n m a0 v7 k : f56L4N n (n + 8) (m + 1) (f56L4S a0 v7) k = f56L4G n a0 (fun a0 v7 v8 v12 _ _ => f56L10N n (n + 8) (n + 8) (f56L10S a0 v7 v8 v12) (kAt (cx tl67 n) h56 (n + 8) [1, 0, 0, 1, 1, 0, 1, 0] (b56L4) (backK (cx tl67 n) h56 (n + 8) m 12 b56L4 k))) v7 (fun v7 => f56L4N n (n + 8) m (f56L4S a0 v7) k) (fun v19 => k.r (f56L4Xret a0 v19)) (k.x 0 (f56L4X0 a0)))
    replace h := h.trans (congrArg (fun lp => f56L4G n a0 lp v7 (fun v7 => f56L4N n (n + 8) m (f56L4S a0 v7) k) (fun v19 => k.r (f56L4Xret a0 v19)) (k.x 0 (f56L4X0 a0))) (funext fun x0 => funext fun x1 => funext fun x2 => funext fun x3 => funext fun _ => funext fun _ => f56L10_ok n x0 x1 x2 (n + 8) x3 (kAt (cx tl67 n) h56 (n + 8) [1, 0, 0, 1, 1, 0, 1, 0] (b56L4) (backK (cx tl67 n) h56 (n + 8) m 12 b56L4 k))))
    replace h := h.trans (f56L4_s2 n m a0 v7 k : f56L4G n a0 (fun a0 v7 v8 v12 _ _ => f56L10 n a0 v7 v8 (n + 8) v12 ((kAt (cx tl67 n) h56 (n + 8) [1, 0, 0, 1, 1, 0, 1, 0] (b56L4) (backK (cx tl67 n) h56 (n + 8) m 12 b56L4 k)).r (f56L10Xret a0 v7 v8)) ((kAt (cx tl67 n) h56 (n + 8) [1, 0, 0, 1, 1, 0, 1, 0] (b56L4) (backK (cx tl67 n) h56 (n + 8) m 12 b56L4 k)).x 2 (f56L10X2 a0 v7 v8))) v7 (fun v7 => f56L4N n (n + 8) m (f56L4S a0 v7) k) (fun v19 => k.r (f56L4Xret a0 v19)) (k.x 0 (f56L4X0 a0)) = f56L4G n a0 (fun a0 v7 v8 => f56L10 n a0 v7 v8 (n + 8)) v7 (fun v7 => f56L4N n (n + 8) m (f56L4S a0 v7) k) (fun v19 => k.r (f56L4Xret a0 v19)) (k.x 0 (f56L4X0 a0)))
    exact h.trans (congrArg (fun kc => f56L4G n a0 (fun a0 v7 v8 => f56L10 n a0 v7 v8 (n + 8)) v7 kc (fun v19 => k.r (f56L4Xret a0 v19)) (k.x 0 (f56L4X0 a0))) (funext fun v7 => ih v7 k))
theorem f56_ev_s1 (n : Nat) (a0 : List (ByteArray × Int × Int × Int × Int × List Int × List Int)) : evT (cx tl67 n) h56 (n + 8) Try.f56 sg56 [encV false R17 a0] = f56G n a0 (fun a0 v7 _ _ => f56L4N n (n + 8) (n + 8) (f56L4S a0 v7) (kAt (cx tl67 n) h56 (n + 8) [1, 1, 0, 1, 0] (bodyOf Try.f56) (konT (cx tl67 n) Try.f56.results.toList sg56))) := by kernel_rfl
theorem f56_ev_s2 (n : Nat) (a0 : List (ByteArray × Int × Int × Int × Int × List Int × List Int)) : f56G n a0 (fun a0 v7 _ _ => f56L4 n a0 (n + 8) v7 (fun v19 => (kAt (cx tl67 n) h56 (n + 8) [1, 1, 0, 1, 0] (bodyOf Try.f56) (konT (cx tl67 n) Try.f56.results.toList sg56)).r (f56L4Xret a0 v19)) ((kAt (cx tl67 n) h56 (n + 8) [1, 1, 0, 1, 0] (bodyOf Try.f56) (konT (cx tl67 n) Try.f56.results.toList sg56)).x 0 (f56L4X0 a0))) = f56G n a0 (fun a0 => f56L4 n a0 (n + 8)) := by kernel_rfl
theorem f56_ev (n : Nat) (a0 : List (ByteArray × Int × Int × Int × Int × List Int × List Int)) : evT (cx tl67 n) h56 (n + 8) Try.f56 sg56 [encV false R17 a0] = f56 n a0 := by
  have h := (f56_ev_s1 n a0 : evT (cx tl67 n) h56 (n + 8) Try.f56 sg56 [encV false R17 a0] = f56G n a0 (fun a0 v7 _ _ => f56L4N n (n + 8) (n + 8) (f56L4S a0 v7) (kAt (cx tl67 n) h56 (n + 8) [1, 1, 0, 1, 0] (bodyOf Try.f56) (konT (cx tl67 n) Try.f56.results.toList sg56))))
  replace h := h.trans (congrArg (fun lp => f56G n a0 lp) (funext fun x0 => funext fun x1 => funext fun _ => funext fun _ => f56L4_ok n x0 (n + 8) x1 (kAt (cx tl67 n) h56 (n + 8) [1, 1, 0, 1, 0] (bodyOf Try.f56) (konT (cx tl67 n) Try.f56.results.toList sg56))))
  replace h := h.trans (f56_ev_s2 n a0 : f56G n a0 (fun a0 v7 _ _ => f56L4 n a0 (n + 8) v7 (fun v19 => (kAt (cx tl67 n) h56 (n + 8) [1, 1, 0, 1, 0] (bodyOf Try.f56) (konT (cx tl67 n) Try.f56.results.toList sg56)).r (f56L4Xret a0 v19)) ((kAt (cx tl67 n) h56 (n + 8) [1, 1, 0, 1, 0] (bodyOf Try.f56) (konT (cx tl67 n) Try.f56.results.toList sg56)).x 0 (f56L4X0 a0))) = f56G n a0 (fun a0 => f56L4 n a0 (n + 8)))
  exact h
noncomputable def sp56 : Sp := fun n => dat1 false R17 fun a0 => dat0 (ansO sg56 (f56 n a0) (0 : Int))
theorem sp56_ok {n : Nat} (h : CallOk Try.prog (tabF tl67 n)) : ∀ args r, sp56 n args = some (true, r) → FnOK Try.prog 56 args r := SpR.all (SpR.dat1 fun a0 => SpR.ansO fun y hy => fnT_ok (cx_ok h) (normal_ok _) Try.func56 (code_ok_of (cx_ok h) st56) ((f56_ev n a0).trans hy))
noncomputable def tl68 : List (Nat × Sp) := (56, sp56) :: tl67
theorem tl68_ok (n : Nat) : CallOk Try.prog (tabF tl68 n) := tabF_cons (tl67_ok n) (known_of Try.func56 (by decide +kernel) (by kernel_rfl)) (sp56_ok (tl67_ok n))
/-! f39: sawmill/sawmillref20.valid -/
abbrev sg39 : Sig := [(false, R0)]
noncomputable def h39 : List (Nat × List Keep) := hintsOf keeps 39
theorem st39 : fnSt Try.f39 = true := by kernel_rfl
theorem f39_ev (n : Nat) (a0 : List (Int × Int × List (Int × Int))) (a1 : List (Int × Int × Int × Int × Int × Int × Int)) (a2 : ByteArray × Int × Int × Int × Int × List Int × List Int) : evT (cx tl68 n) h39 (n + 8) Try.f39 sg39 [encV false R8 a0, encV false R13 a1, encV true R16 a2] = f39 n a0 a1 a2 := by
  have h := (by kernel_rfl : evT (cx tl68 n) h39 (n + 8) Try.f39 sg39 [encV false R8 a0, encV false R13 a1, encV true R16 a2] = f39G n a0 a1 a2)
  exact h
noncomputable def sp39 : Sp := fun n => dat1 false R8 fun a0 => dat1 false R13 fun a1 => dat1 true R16 fun a2 => dat0 (ansO sg39 (f39 n a0 a1 a2) false)
theorem sp39_ok {n : Nat} (h : CallOk Try.prog (tabF tl68 n)) : ∀ args r, sp39 n args = some (true, r) → FnOK Try.prog 39 args r := SpR.all (SpR.dat1 fun a0 => SpR.dat1 fun a1 => SpR.dat1 fun a2 => SpR.ansO fun y hy => fnT_ok (cx_ok h) (normal_ok _) Try.func39 (code_ok_of (cx_ok h) st39) ((f39_ev n a0 a1 a2).trans hy))
noncomputable def tl69 : List (Nat × Sp) := (39, sp39) :: tl68
theorem tl69_ok (n : Nat) : CallOk Try.prog (tabF tl69 n) := tabF_cons (tl68_ok n) (known_of Try.func39 (by decide +kernel) (by kernel_rfl)) (sp39_ok (tl68_ok n))
/-! f52: sawmill/sawmillref19.Price -/
abbrev sg52 : Sig := [(false, R3), (false, R0)]
noncomputable def h52 : List (Nat × List Keep) := hintsOf keeps 52
theorem st52 : fnSt Try.f52 = true := by kernel_rfl
noncomputable def b52L2 : Code := sub [1, 0, 1, 0, 0] (bodyOf Try.f52)
def f52L2S (a1 : Int) (a0 : ByteArray × Int × Int × Int × Int × List Int × List Int) (v3 : Int) : Sx := ⟨(.node .undef (.node (.int .i64 a1) .nil .nil) (.node (.ptr 0 0) .nil (.node (.int .i64 v3) .nil .nil))), [(0, .box [(.str a0.1), (.int .i64 a0.2.1), (.int .i64 a0.2.2.1), (.int .i64 a0.2.2.2.1), (.int .i64 a0.2.2.2.2.1), (.imm R3 a0.2.2.2.2.2.1), (.imm R3 a0.2.2.2.2.2.2)])], [], 1⟩
def f52L2Xret (a1 : Int) (a0 : ByteArray × Int × Int × Int × Int × List Int × List Int) (v7 : Int) (v8 : Bool) : Sx := ⟨(.node .undef (.node .undef .nil (.node (.bool v8) .nil .nil)) (.node .undef (.node (.int .i64 v7) .nil .nil) .nil)), [], [], 0⟩
def f52L2X0 (a1 : Int) (a0 : ByteArray × Int × Int × Int × Int × List Int × List Int) : Sx := ⟨.nil, [], [], 0⟩
noncomputable def f52L2N (n N m : Nat) (s : Sx) (k : Kont (Int × Bool)) : Option (Int × Bool) := loopN (get h52 6) (evCode (cx tl69 n) h52 N b52L2) m s k
theorem f52L2_ok (n N : Nat) (a1 : Int) (a0 : ByteArray × Int × Int × Int × Int × List Int × List Int) : ∀ (m : Nat) (v3 : Int) (k : Kont (Int × Bool)), f52L2N n N m (f52L2S a1 a0 v3) k = f52L2 n a1 a0 m v3 (fun v7 v8 => k.r (f52L2Xret a1 a0 v7 v8)) (k.x 0 (f52L2X0 a1 a0)) := by
  intro m
  induction m with
  | zero => intros; rfl
  | succ m ih =>
    intro v3 k
    have h := (by kernel_rfl : f52L2N n N (m + 1) (f52L2S a1 a0 v3) k = f52L2G n a1 a0 v3 (fun v3 => f52L2N n N m (f52L2S a1 a0 v3) k) (fun v7 v8 => k.r (f52L2Xret a1 a0 v7 v8)) (k.x 0 (f52L2X0 a1 a0)))
    exact h.trans (congrArg (fun kc => f52L2G n a1 a0 v3 kc (fun v7 v8 => k.r (f52L2Xret a1 a0 v7 v8)) (k.x 0 (f52L2X0 a1 a0))) (funext fun v3 => ih v3 k))
theorem f52_ev_s1 (n N : Nat) (a0 : ByteArray × Int × Int × Int × Int × List Int × List Int) (a1 : Int) : evT (cx tl69 n) h52 N Try.f52 sg52 [encV true R16 a0, encV false R3 a1] = f52G n a0 a1 (fun a1 a0 v3 _ _ => f52L2N n N N (f52L2S a1 a0 v3) (kAt (cx tl69 n) h52 N [1, 0, 1, 0] (bodyOf Try.f52) (konT (cx tl69 n) Try.f52.results.toList sg52))) := by kernel_rfl
theorem f52_ev_s2 (n N : Nat) (a0 : ByteArray × Int × Int × Int × Int × List Int × List Int) (a1 : Int) : f52G n a0 a1 (fun a1 a0 v3 _ _ => f52L2 n a1 a0 N v3 (fun v7 v8 => (kAt (cx tl69 n) h52 N [1, 0, 1, 0] (bodyOf Try.f52) (konT (cx tl69 n) Try.f52.results.toList sg52)).r (f52L2Xret a1 a0 v7 v8)) ((kAt (cx tl69 n) h52 N [1, 0, 1, 0] (bodyOf Try.f52) (konT (cx tl69 n) Try.f52.results.toList sg52)).x 0 (f52L2X0 a1 a0))) = f52G n a0 a1 (fun a1 a0 => f52L2 n a1 a0 N) := by kernel_rfl
theorem f52_ev (n : Nat) (a0 : ByteArray × Int × Int × Int × Int × List Int × List Int) (a1 : Int) : evT (cx tl69 n) h52 (n + 8) Try.f52 sg52 [encV true R16 a0, encV false R3 a1] = f52 n a0 a1 := by
  have h := (f52_ev_s1 n (n + 8) a0 a1 : evT (cx tl69 n) h52 (n + 8) Try.f52 sg52 [encV true R16 a0, encV false R3 a1] = f52G n a0 a1 (fun a1 a0 v3 _ _ => f52L2N n (n + 8) (n + 8) (f52L2S a1 a0 v3) (kAt (cx tl69 n) h52 (n + 8) [1, 0, 1, 0] (bodyOf Try.f52) (konT (cx tl69 n) Try.f52.results.toList sg52))))
  replace h := h.trans (congrArg (fun lp => f52G n a0 a1 lp) (funext fun x0 => funext fun x1 => funext fun x2 => funext fun _ => funext fun _ => f52L2_ok n (n + 8) x0 x1 (n + 8) x2 (kAt (cx tl69 n) h52 (n + 8) [1, 0, 1, 0] (bodyOf Try.f52) (konT (cx tl69 n) Try.f52.results.toList sg52))))
  replace h := h.trans (f52_ev_s2 n (n + 8) a0 a1 : f52G n a0 a1 (fun a1 a0 v3 _ _ => f52L2 n a1 a0 (n + 8) v3 (fun v7 v8 => (kAt (cx tl69 n) h52 (n + 8) [1, 0, 1, 0] (bodyOf Try.f52) (konT (cx tl69 n) Try.f52.results.toList sg52)).r (f52L2Xret a1 a0 v7 v8)) ((kAt (cx tl69 n) h52 (n + 8) [1, 0, 1, 0] (bodyOf Try.f52) (konT (cx tl69 n) Try.f52.results.toList sg52)).x 0 (f52L2X0 a1 a0))) = f52G n a0 a1 (fun a1 a0 => f52L2 n a1 a0 (n + 8)))
  exact h
noncomputable def sp52 : Sp := fun n => dat1 true R16 fun a0 => dat1 false R3 fun a1 => dat0 (ansO sg52 (f52 n a0 a1) ((0 : Int), false))
theorem sp52_ok {n : Nat} (h : CallOk Try.prog (tabF tl69 n)) : ∀ args r, sp52 n args = some (true, r) → FnOK Try.prog 52 args r := SpR.all (SpR.dat1 fun a0 => SpR.dat1 fun a1 => SpR.ansO fun y hy => fnT_ok (cx_ok h) (normal_ok _) Try.func52 (code_ok_of (cx_ok h) st52) ((f52_ev n a0 a1).trans hy))
noncomputable def tl70 : List (Nat × Sp) := (52, sp52) :: tl69
theorem tl70_ok (n : Nat) : CallOk Try.prog (tabF tl70 n) := tabF_cons (tl69_ok n) (known_of Try.func52 (by decide +kernel) (by kernel_rfl)) (sp52_ok (tl69_ok n))
/-! f87: sawmill/sawmillref03.Meet -/
abbrev sg87 : Sig := [(true, R6)]
noncomputable def h87 : List (Nat × List Keep) := hintsOf keeps 87
theorem st87 : fnSt Try.f87 = true := by kernel_rfl
theorem f87_ev (n : Nat) (a0 : Int × Int) (a1 : Int × Int) : evT (cx tl70 n) h87 (n + 8) Try.f87 sg87 [encV true R6 a0, encV true R6 a1] = some (f87 a0 a1) := (by kernel_rfl : evT (cx tl70 n) h87 (n + 8) Try.f87 sg87 [encV true R6 a0, encV true R6 a1] = f87O a0 a1).trans (f87_o a0 a1)
noncomputable def sp87 : Sp := fun n => dat1 true R6 fun a0 => dat1 true R6 fun a1 => dat0 (ansT sg87 (f87 a0 a1))
theorem sp87_ok {n : Nat} (h : CallOk Try.prog (tabF tl70 n)) : ∀ args r, sp87 n args = some (true, r) → FnOK Try.prog 87 args r := SpR.all (SpR.dat1 fun a0 => SpR.dat1 fun a1 => SpR.ansT (fnT_ok (cx_ok h) (normal_ok _) Try.func87 (code_ok_of (cx_ok h) st87) (f87_ev n a0 a1)))
noncomputable def tl71 : List (Nat × Sp) := (87, sp87) :: tl70
theorem tl71_ok (n : Nat) : CallOk Try.prog (tabF tl71 n) := tabF_cons (tl70_ok n) (known_of Try.func87 (by decide +kernel) (by kernel_rfl)) (sp87_ok (tl70_ok n))
/-! f72: sawmill/sawmillref13.Meet -/
abbrev sg72 : Sig := [(true, R12)]
noncomputable def h72 : List (Nat × List Keep) := hintsOf keeps 72
theorem st72 : fnSt Try.f72 = true := by kernel_rfl
theorem f72_ev (n : Nat) (a0 : Int × Int × Int × Int × Int × Int) (a1 : Int × Int × Int × Int × Int × Int) : evT (cx tl71 n) h72 (n + 8) Try.f72 sg72 [encV true R12 a0, encV true R12 a1] = some (f72 a0 a1) := (by kernel_rfl : evT (cx tl71 n) h72 (n + 8) Try.f72 sg72 [encV true R12 a0, encV true R12 a1] = f72O a0 a1).trans (f72_o a0 a1)
noncomputable def sp72 : Sp := fun n => dat1 true R12 fun a0 => dat1 true R12 fun a1 => dat0 (ansT sg72 (f72 a0 a1))
theorem sp72_ok {n : Nat} (h : CallOk Try.prog (tabF tl71 n)) : ∀ args r, sp72 n args = some (true, r) → FnOK Try.prog 72 args r := SpR.all (SpR.dat1 fun a0 => SpR.dat1 fun a1 => SpR.ansT (fnT_ok (cx_ok h) (normal_ok _) Try.func72 (code_ok_of (cx_ok h) st72) (f72_ev n a0 a1)))
noncomputable def tl72 : List (Nat × Sp) := (72, sp72) :: tl71
theorem tl72_ok (n : Nat) : CallOk Try.prog (tabF tl72 n) := tabF_cons (tl71_ok n) (known_of Try.func72 (by decide +kernel) (by kernel_rfl)) (sp72_ok (tl71_ok n))
/-! f53: sawmill/sawmillref13.Touches -/
abbrev sg53 : Sig := [(false, R0)]
noncomputable def h53 : List (Nat × List Keep) := hintsOf keeps 53
theorem st53 : fnSt Try.f53 = true := by kernel_rfl
theorem f53_ev (n : Nat) (a0 : Int × Int × Int × Int × Int × Int × Int) (a1 : Int × Int × Int × Int × Int × Int) : evT (cx tl72 n) h53 (n + 8) Try.f53 sg53 [encV true R2 a0, encV true R12 a1] = some (f53 a0 a1) := (by kernel_rfl : evT (cx tl72 n) h53 (n + 8) Try.f53 sg53 [encV true R2 a0, encV true R12 a1] = f53O a0 a1).trans (f53_o a0 a1)
noncomputable def sp53 : Sp := fun n => dat1 true R2 fun a0 => dat1 true R12 fun a1 => dat0 (ansT sg53 (f53 a0 a1))
theorem sp53_ok {n : Nat} (h : CallOk Try.prog (tabF tl72 n)) : ∀ args r, sp53 n args = some (true, r) → FnOK Try.prog 53 args r := SpR.all (SpR.dat1 fun a0 => SpR.dat1 fun a1 => SpR.ansT (fnT_ok (cx_ok h) (normal_ok _) Try.func53 (code_ok_of (cx_ok h) st53) (f53_ev n a0 a1)))
noncomputable def tl73 : List (Nat × Sp) := (53, sp53) :: tl72
theorem tl73_ok (n : Nat) : CallOk Try.prog (tabF tl73 n) := tabF_cons (tl72_ok n) (known_of Try.func53 (by decide +kernel) (by kernel_rfl)) (sp53_ok (tl72_ok n))
/-! f40: sawmill/sawmillref20.accept -/
abbrev sg40 : Sig := [(false, R0)]
noncomputable def h40 : List (Nat × List Keep) := hintsOf keeps 40
theorem st40 : fnSt Try.f40 = true := by kernel_rfl
noncomputable def b40L9 : Code := sub [1, 1, 1, 1, 1, 1, 0, 1, 0, 0] (bodyOf Try.f40)
def f40L9S (a0 : List (Int × Int × List (Int × Int))) (a1 : List (Int × Int × Int × Int × Int × Int × Int)) (a2 : ByteArray × Int × Int × Int × Int × List Int × List Int) (a3 : Int × Int × Int × Int × Int × Int) (v12 : Int) : Sx := ⟨(.node (.imm R1 a0) (.node (.imm R2 a1) (.node .undef (.node (.ptr 1 0) (.node (.int .i64 v12) .nil .nil) .nil) .nil) .nil) (.node .undef .nil (.node (.ptr 0 0) .nil .nil))), [(0, .box [(.str a2.1), (.int .i64 a2.2.1), (.int .i64 a2.2.2.1), (.int .i64 a2.2.2.2.1), (.int .i64 a2.2.2.2.2.1), (.imm R3 a2.2.2.2.2.2.1), (.imm R3 a2.2.2.2.2.2.2)]), (1, .box [(.int .i64 a3.1), (.int .i64 a3.2.1), (.int .i64 a3.2.2.1), (.int .i64 a3.2.2.2.1), (.int .i64 a3.2.2.2.2.1), (.int .i64 a3.2.2.2.2.2)])], [], 2⟩
def f40L9Xret (a0 : List (Int × Int × List (Int × Int))) (a1 : List (Int × Int × Int × Int × Int × Int × Int)) (a2 : ByteArray × Int × Int × Int × Int × List Int × List Int) (a3 : Int × Int × Int × Int × Int × Int) : Sx := ⟨(.node .undef .nil (.node .undef (.node .undef (.node (.bool false) .nil .nil) .nil) .nil)), [], [], 0⟩
def f40L9X0 (a0 : List (Int × Int × List (Int × Int))) (a1 : List (Int × Int × Int × Int × Int × Int × Int)) (a2 : ByteArray × Int × Int × Int × Int × List Int × List Int) (a3 : Int × Int × Int × Int × Int × Int) : Sx := ⟨(.node (.imm R1 a0) (.node .undef (.node .undef (.node (.ptr 1 0) .nil .nil) .nil) .nil) (.node .undef .nil (.node (.ptr 0 0) .nil .nil))), [(0, .box [(.str a2.1), (.int .i64 a2.2.1), (.int .i64 a2.2.2.1), (.int .i64 a2.2.2.2.1), (.int .i64 a2.2.2.2.2.1), (.imm R3 a2.2.2.2.2.2.1), (.imm R3 a2.2.2.2.2.2.2)]), (1, .box [(.int .i64 a3.1), (.int .i64 a3.2.1), (.int .i64 a3.2.2.1), (.int .i64 a3.2.2.2.1), (.int .i64 a3.2.2.2.2.1), (.int .i64 a3.2.2.2.2.2)])], [], 2⟩
noncomputable def f40L9N (n N m : Nat) (s : Sx) (k : Kont (Bool)) : Option (Bool) := loopN (get h40 27) (evCode (cx tl73 n) h40 N b40L9) m s k
theorem f40L9_ok (n N : Nat) (a0 : List (Int × Int × List (Int × Int))) (a1 : List (Int × Int × Int × Int × Int × Int × Int)) (a2 : ByteArray × Int × Int × Int × Int × List Int × List Int) (a3 : Int × Int × Int × Int × Int × Int) : ∀ (m : Nat) (v12 : Int) (k : Kont (Bool)), f40L9N n N m (f40L9S a0 a1 a2 a3 v12) k = f40L9 n a0 a1 a2 a3 m v12 (k.r (f40L9Xret a0 a1 a2 a3)) (k.x 0 (f40L9X0 a0 a1 a2 a3)) := by
  intro m
  induction m with
  | zero => intros; rfl
  | succ m ih =>
    intro v12 k
    have h := (by kernel_rfl : f40L9N n N (m + 1) (f40L9S a0 a1 a2 a3 v12) k = f40L9G n a0 a1 a2 a3 v12 (fun v12 => f40L9N n N m (f40L9S a0 a1 a2 a3 v12) k) (k.r (f40L9Xret a0 a1 a2 a3)) (k.x 0 (f40L9X0 a0 a1 a2 a3)))
    exact h.trans (congrArg (fun kc => f40L9G n a0 a1 a2 a3 v12 kc (k.r (f40L9Xret a0 a1 a2 a3)) (k.x 0 (f40L9X0 a0 a1 a2 a3))) (funext fun v12 => ih v12 k))
theorem f40_ev_s1 (n N : Nat) (a0 : List (Int × Int × List (Int × Int))) (a1 : List (Int × Int × Int × Int × Int × Int × Int)) (a2 : ByteArray × Int × Int × Int × Int × List Int × List Int) (a3 : Int × Int × Int × Int × Int × Int) : evT (cx tl73 n) h40 N Try.f40 sg40 [encV false R8 a0, encV false R13 a1, encV true R16 a2, encV true R12 a3] = f40G n a0 a1 a2 a3 (fun a0 a1 a2 a3 v12 _ _ => f40L9N n N N (f40L9S a0 a1 a2 a3 v12) (kAt (cx tl73 n) h40 N [1, 1, 1, 1, 1, 1, 0, 1, 0] (bodyOf Try.f40) (konT (cx tl73 n) Try.f40.results.toList sg40))) := by kernel_rfl
theorem f40_ev_s2 (n N : Nat) (a0 : List (Int × Int × List (Int × Int))) (a1 : List (Int × Int × Int × Int × Int × Int × Int)) (a2 : ByteArray × Int × Int × Int × Int × List Int × List Int) (a3 : Int × Int × Int × Int × Int × Int) : f40G n a0 a1 a2 a3 (fun a0 a1 a2 a3 v12 _ _ => f40L9 n a0 a1 a2 a3 N v12 ((kAt (cx tl73 n) h40 N [1, 1, 1, 1, 1, 1, 0, 1, 0] (bodyOf Try.f40) (konT (cx tl73 n) Try.f40.results.toList sg40)).r (f40L9Xret a0 a1 a2 a3)) ((kAt (cx tl73 n) h40 N [1, 1, 1, 1, 1, 1, 0, 1, 0] (bodyOf Try.f40) (konT (cx tl73 n) Try.f40.results.toList sg40)).x 0 (f40L9X0 a0 a1 a2 a3))) = f40G n a0 a1 a2 a3 (fun a0 a1 a2 a3 => f40L9 n a0 a1 a2 a3 N) := by kernel_rfl
theorem f40_ev (n : Nat) (a0 : List (Int × Int × List (Int × Int))) (a1 : List (Int × Int × Int × Int × Int × Int × Int)) (a2 : ByteArray × Int × Int × Int × Int × List Int × List Int) (a3 : Int × Int × Int × Int × Int × Int) : evT (cx tl73 n) h40 (n + 8) Try.f40 sg40 [encV false R8 a0, encV false R13 a1, encV true R16 a2, encV true R12 a3] = f40 n a0 a1 a2 a3 := by
  have h := (f40_ev_s1 n (n + 8) a0 a1 a2 a3 : evT (cx tl73 n) h40 (n + 8) Try.f40 sg40 [encV false R8 a0, encV false R13 a1, encV true R16 a2, encV true R12 a3] = f40G n a0 a1 a2 a3 (fun a0 a1 a2 a3 v12 _ _ => f40L9N n (n + 8) (n + 8) (f40L9S a0 a1 a2 a3 v12) (kAt (cx tl73 n) h40 (n + 8) [1, 1, 1, 1, 1, 1, 0, 1, 0] (bodyOf Try.f40) (konT (cx tl73 n) Try.f40.results.toList sg40))))
  replace h := h.trans (congrArg (fun lp => f40G n a0 a1 a2 a3 lp) (funext fun x0 => funext fun x1 => funext fun x2 => funext fun x3 => funext fun x4 => funext fun _ => funext fun _ => f40L9_ok n (n + 8) x0 x1 x2 x3 (n + 8) x4 (kAt (cx tl73 n) h40 (n + 8) [1, 1, 1, 1, 1, 1, 0, 1, 0] (bodyOf Try.f40) (konT (cx tl73 n) Try.f40.results.toList sg40))))
  replace h := h.trans (f40_ev_s2 n (n + 8) a0 a1 a2 a3 : f40G n a0 a1 a2 a3 (fun a0 a1 a2 a3 v12 _ _ => f40L9 n a0 a1 a2 a3 (n + 8) v12 ((kAt (cx tl73 n) h40 (n + 8) [1, 1, 1, 1, 1, 1, 0, 1, 0] (bodyOf Try.f40) (konT (cx tl73 n) Try.f40.results.toList sg40)).r (f40L9Xret a0 a1 a2 a3)) ((kAt (cx tl73 n) h40 (n + 8) [1, 1, 1, 1, 1, 1, 0, 1, 0] (bodyOf Try.f40) (konT (cx tl73 n) Try.f40.results.toList sg40)).x 0 (f40L9X0 a0 a1 a2 a3))) = f40G n a0 a1 a2 a3 (fun a0 a1 a2 a3 => f40L9 n a0 a1 a2 a3 (n + 8)))
  exact h
noncomputable def sp40 : Sp := fun n => dat1 false R8 fun a0 => dat1 false R13 fun a1 => dat1 true R16 fun a2 => dat1 true R12 fun a3 => dat0 (ansO sg40 (f40 n a0 a1 a2 a3) false)
theorem sp40_ok {n : Nat} (h : CallOk Try.prog (tabF tl73 n)) : ∀ args r, sp40 n args = some (true, r) → FnOK Try.prog 40 args r := SpR.all (SpR.dat1 fun a0 => SpR.dat1 fun a1 => SpR.dat1 fun a2 => SpR.dat1 fun a3 => SpR.ansO fun y hy => fnT_ok (cx_ok h) (normal_ok _) Try.func40 (code_ok_of (cx_ok h) st40) ((f40_ev n a0 a1 a2 a3).trans hy))
noncomputable def tl74 : List (Nat × Sp) := (40, sp40) :: tl73
theorem tl74_ok (n : Nat) : CallOk Try.prog (tabF tl74 n) := tabF_cons (tl73_ok n) (known_of Try.func40 (by decide +kernel) (by kernel_rfl)) (sp40_ok (tl73_ok n))
/-! f20: sawmill/sawmillref20.Accept -/
abbrev sg20 : Sig := [(false, R0)]
noncomputable def h20 : List (Nat × List Keep) := hintsOf keeps 20
theorem st20 : fnSt Try.f20 = true := by kernel_rfl
theorem f20_ev (n : Nat) (a0 : List (Int × Int × List (Int × Int))) (a1 : List (Int × Int × Int × Int × Int × Int × Int)) (a2 : ByteArray × Int × Int × Int × Int × List Int × List Int) (a3 : Int × Int × Int × Int × Int × Int) : evT (cx tl74 n) h20 (n + 8) Try.f20 sg20 [encV false R8 a0, encV false R13 a1, encV true R16 a2, encV true R12 a3] = f20 n a0 a1 a2 a3 := by
  have h := (by kernel_rfl : evT (cx tl74 n) h20 (n + 8) Try.f20 sg20 [encV false R8 a0, encV false R13 a1, encV true R16 a2, encV true R12 a3] = f20G n a0 a1 a2 a3)
  exact h
noncomputable def sp20 : Sp := fun n => dat1 false R8 fun a0 => dat1 false R13 fun a1 => dat1 true R16 fun a2 => dat1 true R12 fun a3 => dat0 (ansO sg20 (f20 n a0 a1 a2 a3) false)
theorem sp20_ok {n : Nat} (h : CallOk Try.prog (tabF tl74 n)) : ∀ args r, sp20 n args = some (true, r) → FnOK Try.prog 20 args r := SpR.all (SpR.dat1 fun a0 => SpR.dat1 fun a1 => SpR.dat1 fun a2 => SpR.dat1 fun a3 => SpR.ansO fun y hy => fnT_ok (cx_ok h) (normal_ok _) Try.func20 (code_ok_of (cx_ok h) st20) ((f20_ev n a0 a1 a2 a3).trans hy))
noncomputable def tl75 : List (Nat × Sp) := (20, sp20) :: tl74
theorem tl75_ok (n : Nat) : CallOk Try.prog (tabF tl75 n) := tabF_cons (tl74_ok n) (known_of Try.func20 (by decide +kernel) (by kernel_rfl)) (sp20_ok (tl74_ok n))
/-! f38: sawmill/sawmillref20.value -/
abbrev sg38 : Sig := [(false, R3)]
noncomputable def h38 : List (Nat × List Keep) := hintsOf keeps 38
theorem st38 : fnSt Try.f38 = true := by kernel_rfl
noncomputable def b38L3 : Code := sub [1, 1, 0, 1, 0, 0] (bodyOf Try.f38)
def f38L3S (a0 : List (Int × Int × Int × Int × Int × Int × Int)) (a3 : Int) (a2 : Int × Int × Int × Int × Int × Int) (v7 : Int) (v8 : Int) : Sx := ⟨(.node (.imm R2 a0) (.node .undef (.node (.int .i64 a3) .nil (.node (.int .i64 v8) .nil .nil)) (.node .undef (.node (.int .i64 v7) .nil .nil) .nil)) (.node .undef .nil (.node (.ptr 0 0) .nil .nil))), [(0, .box [(.int .i64 a2.1), (.int .i64 a2.2.1), (.int .i64 a2.2.2.1), (.int .i64 a2.2.2.2.1), (.int .i64 a2.2.2.2.2.1), (.int .i64 a2.2.2.2.2.2)])], [], 1⟩
def f38L3X0 (a0 : List (Int × Int × Int × Int × Int × Int × Int)) (a3 : Int) (a2 : Int × Int × Int × Int × Int × Int) (v14 : Int) : Sx := ⟨(.node .undef (.node .undef .nil (.node .undef (.node (.int .i64 v14) .nil .nil) .nil)) .nil), [], [], 0⟩
noncomputable def f38L3N (n N m : Nat) (s : Sx) (k : Kont (Int)) : Option (Int) := loopN (get h38 9) (evCode (cx tl75 n) h38 N b38L3) m s k
theorem f38L3_ok (n N : Nat) (a0 : List (Int × Int × Int × Int × Int × Int × Int)) (a3 : Int) (a2 : Int × Int × Int × Int × Int × Int) : ∀ (m : Nat) (v7 : Int) (v8 : Int) (k : Kont (Int)), f38L3N n N m (f38L3S a0 a3 a2 v7 v8) k = f38L3 n a0 a3 a2 m v7 v8 (fun v14 => k.x 0 (f38L3X0 a0 a3 a2 v14)) := by
  intro m
  induction m with
  | zero => intros; rfl
  | succ m ih =>
    intro v7 v8 k
    have h := (by kernel_rfl : f38L3N n N (m + 1) (f38L3S a0 a3 a2 v7 v8) k = f38L3G n a0 a3 a2 v7 v8 (fun v7 v8 => f38L3N n N m (f38L3S a0 a3 a2 v7 v8) k) (fun v14 => k.x 0 (f38L3X0 a0 a3 a2 v14)))
    exact h.trans (congrArg (fun kc => f38L3G n a0 a3 a2 v7 v8 kc (fun v14 => k.x 0 (f38L3X0 a0 a3 a2 v14))) (funext fun v7 => funext fun v8 => ih v7 v8 k))
theorem f38_ev_s1 (n N : Nat) (a0 : List (Int × Int × Int × Int × Int × Int × Int)) (a1 : ByteArray × Int × Int × Int × Int × List Int × List Int) (a2 : Int × Int × Int × Int × Int × Int) (a3 : Int) : evT (cx tl75 n) h38 N Try.f38 sg38 [encV false R13 a0, encV true R16 a1, encV true R12 a2, encV false R3 a3] = f38G n a0 a1 a2 a3 (fun a0 a3 a2 v7 v8 _ => f38L3N n N N (f38L3S a0 a3 a2 v7 v8) (kAt (cx tl75 n) h38 N [1, 1, 0, 1, 0] (bodyOf Try.f38) (konT (cx tl75 n) Try.f38.results.toList sg38))) := by kernel_rfl
theorem f38_ev_s2 (n N : Nat) (a0 : List (Int × Int × Int × Int × Int × Int × Int)) (a1 : ByteArray × Int × Int × Int × Int × List Int × List Int) (a2 : Int × Int × Int × Int × Int × Int) (a3 : Int) : f38G n a0 a1 a2 a3 (fun a0 a3 a2 v7 v8 _ => f38L3 n a0 a3 a2 N v7 v8 (fun v14 => (kAt (cx tl75 n) h38 N [1, 1, 0, 1, 0] (bodyOf Try.f38) (konT (cx tl75 n) Try.f38.results.toList sg38)).x 0 (f38L3X0 a0 a3 a2 v14))) = f38G n a0 a1 a2 a3 (fun a0 a3 a2 => f38L3 n a0 a3 a2 N) := by kernel_rfl
theorem f38_ev (n : Nat) (a0 : List (Int × Int × Int × Int × Int × Int × Int)) (a1 : ByteArray × Int × Int × Int × Int × List Int × List Int) (a2 : Int × Int × Int × Int × Int × Int) (a3 : Int) : evT (cx tl75 n) h38 (n + 8) Try.f38 sg38 [encV false R13 a0, encV true R16 a1, encV true R12 a2, encV false R3 a3] = f38 n a0 a1 a2 a3 := by
  have h := (f38_ev_s1 n (n + 8) a0 a1 a2 a3 : evT (cx tl75 n) h38 (n + 8) Try.f38 sg38 [encV false R13 a0, encV true R16 a1, encV true R12 a2, encV false R3 a3] = f38G n a0 a1 a2 a3 (fun a0 a3 a2 v7 v8 _ => f38L3N n (n + 8) (n + 8) (f38L3S a0 a3 a2 v7 v8) (kAt (cx tl75 n) h38 (n + 8) [1, 1, 0, 1, 0] (bodyOf Try.f38) (konT (cx tl75 n) Try.f38.results.toList sg38))))
  replace h := h.trans (congrArg (fun lp => f38G n a0 a1 a2 a3 lp) (funext fun x0 => funext fun x1 => funext fun x2 => funext fun x3 => funext fun x4 => funext fun _ => f38L3_ok n (n + 8) x0 x1 x2 (n + 8) x3 x4 (kAt (cx tl75 n) h38 (n + 8) [1, 1, 0, 1, 0] (bodyOf Try.f38) (konT (cx tl75 n) Try.f38.results.toList sg38))))
  replace h := h.trans (f38_ev_s2 n (n + 8) a0 a1 a2 a3 : f38G n a0 a1 a2 a3 (fun a0 a3 a2 v7 v8 _ => f38L3 n a0 a3 a2 (n + 8) v7 v8 (fun v14 => (kAt (cx tl75 n) h38 (n + 8) [1, 1, 0, 1, 0] (bodyOf Try.f38) (konT (cx tl75 n) Try.f38.results.toList sg38)).x 0 (f38L3X0 a0 a3 a2 v14))) = f38G n a0 a1 a2 a3 (fun a0 a3 a2 => f38L3 n a0 a3 a2 (n + 8)))
  exact h
noncomputable def sp38 : Sp := fun n => dat1 false R13 fun a0 => dat1 true R16 fun a1 => dat1 true R12 fun a2 => dat1 false R3 fun a3 => dat0 (ansO sg38 (f38 n a0 a1 a2 a3) (0 : Int))
theorem sp38_ok {n : Nat} (h : CallOk Try.prog (tabF tl75 n)) : ∀ args r, sp38 n args = some (true, r) → FnOK Try.prog 38 args r := SpR.all (SpR.dat1 fun a0 => SpR.dat1 fun a1 => SpR.dat1 fun a2 => SpR.dat1 fun a3 => SpR.ansO fun y hy => fnT_ok (cx_ok h) (normal_ok _) Try.func38 (code_ok_of (cx_ok h) st38) ((f38_ev n a0 a1 a2 a3).trans hy))
noncomputable def tl76 : List (Nat × Sp) := (38, sp38) :: tl75
theorem tl76_ok (n : Nat) : CallOk Try.prog (tabF tl76 n) := tabF_cons (tl75_ok n) (known_of Try.func38 (by decide +kernel) (by kernel_rfl)) (sp38_ok (tl75_ok n))
/-! f18: sawmill/sawmillref20.Worth -/
abbrev sg18 : Sig := [(false, R3), (false, R0)]
noncomputable def h18 : List (Nat × List Keep) := hintsOf keeps 18
theorem st18 : fnSt Try.f18 = true := by kernel_rfl
theorem f18_ev (n : Nat) (a0 : List (Int × Int × List (Int × Int))) (a1 : List (Int × Int × Int × Int × Int × Int × Int)) (a2 : ByteArray × Int × Int × Int × Int × List Int × List Int) (a3 : Int × Int × Int × Int × Int × Int) (a4 : Int) : evT (cx tl76 n) h18 (n + 8) Try.f18 sg18 [encV false R8 a0, encV false R13 a1, encV true R16 a2, encV true R12 a3, encV false R3 a4] = f18 n a0 a1 a2 a3 a4 := by
  have h := (by kernel_rfl : evT (cx tl76 n) h18 (n + 8) Try.f18 sg18 [encV false R8 a0, encV false R13 a1, encV true R16 a2, encV true R12 a3, encV false R3 a4] = f18G n a0 a1 a2 a3 a4)
  exact h
noncomputable def sp18 : Sp := fun n => dat1 false R8 fun a0 => dat1 false R13 fun a1 => dat1 true R16 fun a2 => dat1 true R12 fun a3 => dat1 false R3 fun a4 => dat0 (ansO sg18 (f18 n a0 a1 a2 a3 a4) ((0 : Int), false))
theorem sp18_ok {n : Nat} (h : CallOk Try.prog (tabF tl76 n)) : ∀ args r, sp18 n args = some (true, r) → FnOK Try.prog 18 args r := SpR.all (SpR.dat1 fun a0 => SpR.dat1 fun a1 => SpR.dat1 fun a2 => SpR.dat1 fun a3 => SpR.dat1 fun a4 => SpR.ansO fun y hy => fnT_ok (cx_ok h) (normal_ok _) Try.func18 (code_ok_of (cx_ok h) st18) ((f18_ev n a0 a1 a2 a3 a4).trans hy))
noncomputable def tl77 : List (Nat × Sp) := (18, sp18) :: tl76
theorem tl77_ok (n : Nat) : CallOk Try.prog (tabF tl77 n) := tabF_cons (tl76_ok n) (known_of Try.func18 (by decide +kernel) (by kernel_rfl)) (sp18_ok (tl76_ok n))
/-! f19: sawmill/worth.Accept -/
abbrev sg19 : Sig := [(false, R0)]
noncomputable def h19 : List (Nat × List Keep) := hintsOf keeps 19
theorem st19 : fnSt Try.f19 = true := by kernel_rfl
theorem f19_ev (n : Nat) (a0 : List (Int × Int × List (Int × Int))) (a1 : List (Int × Int × Int × Int × Int × Int × Int)) (a2 : ByteArray × Int × Int × Int × Int × List Int × List Int) (a3 : Int × Int × Int × Int × Int × Int) : evT (cx tl77 n) h19 (n + 8) Try.f19 sg19 [encV false R8 a0, encV false R13 a1, encV true R16 a2, encV true R12 a3] = f19 n a0 a1 a2 a3 := by
  have h := (by kernel_rfl : evT (cx tl77 n) h19 (n + 8) Try.f19 sg19 [encV false R8 a0, encV false R13 a1, encV true R16 a2, encV true R12 a3] = f19G n a0 a1 a2 a3)
  exact h
noncomputable def sp19 : Sp := fun n => dat1 false R8 fun a0 => dat1 false R13 fun a1 => dat1 true R16 fun a2 => dat1 true R12 fun a3 => dat0 (ansO sg19 (f19 n a0 a1 a2 a3) false)
theorem sp19_ok {n : Nat} (h : CallOk Try.prog (tabF tl77 n)) : ∀ args r, sp19 n args = some (true, r) → FnOK Try.prog 19 args r := SpR.all (SpR.dat1 fun a0 => SpR.dat1 fun a1 => SpR.dat1 fun a2 => SpR.dat1 fun a3 => SpR.ansO fun y hy => fnT_ok (cx_ok h) (normal_ok _) Try.func19 (code_ok_of (cx_ok h) st19) ((f19_ev n a0 a1 a2 a3).trans hy))
noncomputable def tl78 : List (Nat × Sp) := (19, sp19) :: tl77
theorem tl78_ok (n : Nat) : CallOk Try.prog (tabF tl78 n) := tabF_cons (tl77_ok n) (known_of Try.func19 (by decide +kernel) (by kernel_rfl)) (sp19_ok (tl77_ok n))
/-! f5: sawmill/sawmilllaw20.WorthAccepts -/
abbrev sg5 : Sig := [(false, R0)]
noncomputable def h5 : List (Nat × List Keep) := hintsOf keeps 5
theorem st5 : fnSt Try.f5 = true := by kernel_rfl
theorem f5_ev (n : Nat) (a0 : List (Int × Int × List (Int × Int)) × List (Int × Int × Int × Int × Int × Int × Int) × ByteArray × Int × Int × Int × Int × List Int × List Int × Int) (a1 : Int × Int × Int × Int × Int × Int) : evT (cx tl78 n) h5 (n + 8) Try.f5 sg5 [encV true R4 a0, encV true R12 a1] = f5 n a0 a1 := by
  have h := (by kernel_rfl : evT (cx tl78 n) h5 (n + 8) Try.f5 sg5 [encV true R4 a0, encV true R12 a1] = f5G n a0 a1)
  exact h
noncomputable def sp5 : Sp := fun n => dat1 true R4 fun a0 => dat1 true R12 fun a1 => dat0 (ansO sg5 (f5 n a0 a1) false)
theorem sp5_ok {n : Nat} (h : CallOk Try.prog (tabF tl78 n)) : ∀ args r, sp5 n args = some (true, r) → FnOK Try.prog 5 args r := SpR.all (SpR.dat1 fun a0 => SpR.dat1 fun a1 => SpR.ansO fun y hy => fnT_ok (cx_ok h) (normal_ok _) Try.func5 (code_ok_of (cx_ok h) st5) ((f5_ev n a0 a1).trans hy))
noncomputable def tl79 : List (Nat × Sp) := (5, sp5) :: tl78
theorem tl79_ok (n : Nat) : CallOk Try.prog (tabF tl79 n) := tabF_cons (tl78_ok n) (known_of Try.func5 (by decide +kernel) (by kernel_rfl)) (sp5_ok (tl78_ok n))
/-! f21: sawmill/sawmilllaw20.rare -/
abbrev sg21 : Sig := [(false, R0)]
noncomputable def h21 : List (Nat × List Keep) := hintsOf keeps 21
theorem st21 : fnSt Try.f21 = true := by kernel_rfl
theorem f21_ev (n : Nat) (a0 : Int) : evT (cx tl79 n) h21 (n + 8) Try.f21 sg21 [encV false R3 a0] = some (f21 a0) := (by kernel_rfl : evT (cx tl79 n) h21 (n + 8) Try.f21 sg21 [encV false R3 a0] = f21O a0).trans (f21_o a0)
noncomputable def sp21 : Sp := fun n => dat1 false R3 fun a0 => dat0 (ansT sg21 (f21 a0))
theorem sp21_ok {n : Nat} (h : CallOk Try.prog (tabF tl79 n)) : ∀ args r, sp21 n args = some (true, r) → FnOK Try.prog 21 args r := SpR.all (SpR.dat1 fun a0 => SpR.ansT (fnT_ok (cx_ok h) (normal_ok _) Try.func21 (code_ok_of (cx_ok h) st21) (f21_ev n a0)))
noncomputable def tl80 : List (Nat × Sp) := (21, sp21) :: tl79
theorem tl80_ok (n : Nat) : CallOk Try.prog (tabF tl80 n) := tabF_cons (tl79_ok n) (known_of Try.func21 (by decide +kernel) (by kernel_rfl)) (sp21_ok (tl79_ok n))
/-! f41: sawmill/worth.Best -/
abbrev sg41 : Sig := [(true, R6), (false, R3), (false, R0)]
noncomputable def h41 : List (Nat × List Keep) := hintsOf keeps 41
theorem st41 : fnSt Try.f41 = true := by kernel_rfl
noncomputable def b41L10 : Code := sub [1, 1, 1, 1, 1, 0, 1, 0, 0, 1, 0, 0, 1, 0, 0] (bodyOf Try.f41)
def f41L10S (a4 : Int) (a5 : Int) (v60 : Int) (a2 : ByteArray × Int × Int × Int × Int × List Int × List Int) (v2 : (List (Int × Int × Int × Int × Int × Int × Int) × ByteArray × Int × Int × Int × Int × List Int × List Int × Int × Int × Int × Int × Int × List Int × List Int) × Bool) (v67 : Int) (v68 : Bool) (v69 : Int) (v70 : Int) (v71 : Int) : Sx := ⟨(.node .undef (.node .undef (.node .undef (.node .undef (.node (.ptr 2 0) .nil .nil) (.node .undef .nil (.node (.imm R3 a2.2.2.2.2.2.1) .nil .nil))) (.node .undef (.node (.bool v68) .nil .nil) .nil)) (.node (.int .i64 a5) (.node .undef (.node (.ptr 3 0) .nil .nil) (.node .undef .nil (.node (.int .i64 v69) .nil .nil))) .nil)) (.node .undef (.node (.int .i64 a4) (.node (.ptr 0 0) .nil (.node .undef .nil (.node (.int .i64 (a2.2.2.2.2.2.1.length : Int)) .nil .nil))) (.node (.ptr 1 0) (.node (.int .i64 v60) .nil .nil) .nil)) (.node .undef (.node .undef (.node (.int .i64 v67) .nil .nil) .nil) .nil))), [(0, .box [(.str a2.1), (.int .i64 a2.2.1), (.int .i64 a2.2.2.1), (.int .i64 a2.2.2.2.1), (.int .i64 a2.2.2.2.2.1), (.imm R3 a2.2.2.2.2.2.1), (.imm R3 a2.2.2.2.2.2.2)]), (1, .box [(.int .i64 0), (.int .i64 0)]), (2, .box [(.imm R2 v2.1.1), (.str v2.1.2.1), (.int .i64 v2.1.2.2.1), (.int .i64 v2.1.2.2.2.1), (.int .i64 v2.1.2.2.2.2.1), (.int .i64 v2.1.2.2.2.2.2.1), (.imm R3 v2.1.2.2.2.2.2.2.1), (.imm R3 v2.1.2.2.2.2.2.2.2.1), (.int .i64 v2.1.2.2.2.2.2.2.2.2.1), (.int .i64 v2.1.2.2.2.2.2.2.2.2.2.1), (.int .i64 v2.1.2.2.2.2.2.2.2.2.2.2.1), (.int .i64 v2.1.2.2.2.2.2.2.2.2.2.2.2.1), (.int .i64 v2.1.2.2.2.2.2.2.2.2.2.2.2.2.1), (.imm R3 v2.1.2.2.2.2.2.2.2.2.2.2.2.2.2.1), (.imm R3 v2.1.2.2.2.2.2.2.2.2.2.2.2.2.2.2)]), (3, .box [(.int .i64 v70), (.int .i64 v71)])], [], 4⟩
def f41L10X2 (a4 : Int) (a5 : Int) (v60 : Int) (a2 : ByteArray × Int × Int × Int × Int × List Int × List Int) (v2 : (List (Int × Int × Int × Int × Int × Int × Int) × ByteArray × Int × Int × Int × Int × List Int × List Int × Int × Int × Int × Int × Int × List Int × List Int) × Bool) (v80 : Int) (v81 : Bool) (v82 : Int) (v83 : Int) : Sx := ⟨(.node .undef (.node .undef (.node .undef (.node .undef (.node (.ptr 2 0) .nil .nil) .nil) (.node .undef (.node (.bool v81) .nil .nil) .nil)) (.node (.int .i64 a5) (.node .undef (.node (.ptr 3 0) .nil .nil) .nil) .nil)) (.node .undef (.node (.int .i64 a4) (.node (.ptr 0 0) .nil .nil) (.node (.ptr 1 0) (.node (.int .i64 v60) .nil .nil) .nil)) (.node .undef (.node .undef (.node (.int .i64 v80) .nil .nil) .nil) .nil))), [(0, .box [(.str a2.1), (.int .i64 a2.2.1), (.int .i64 a2.2.2.1), (.int .i64 a2.2.2.2.1), (.int .i64 a2.2.2.2.2.1), (.imm R3 a2.2.2.2.2.2.1), (.imm R3 a2.2.2.2.2.2.2)]), (1, .box [(.int .i64 0), (.int .i64 0)]), (2, .box [(.imm R2 v2.1.1), (.str v2.1.2.1), (.int .i64 v2.1.2.2.1), (.int .i64 v2.1.2.2.2.1), (.int .i64 v2.1.2.2.2.2.1), (.int .i64 v2.1.2.2.2.2.2.1), (.imm R3 v2.1.2.2.2.2.2.2.1), (.imm R3 v2.1.2.2.2.2.2.2.2.1), (.int .i64 v2.1.2.2.2.2.2.2.2.2.1), (.int .i64 v2.1.2.2.2.2.2.2.2.2.2.1), (.int .i64 v2.1.2.2.2.2.2.2.2.2.2.2.1), (.int .i64 v2.1.2.2.2.2.2.2.2.2.2.2.2.1), (.int .i64 v2.1.2.2.2.2.2.2.2.2.2.2.2.2.1), (.imm R3 v2.1.2.2.2.2.2.2.2.2.2.2.2.2.2.1), (.imm R3 v2.1.2.2.2.2.2.2.2.2.2.2.2.2.2.2)]), (3, .box [(.int .i64 v82), (.int .i64 v83)])], [], 4⟩
noncomputable def f41L10N (n N m : Nat) (s : Sx) (k : Kont ((Int × Int) × Int × Bool)) : Option ((Int × Int) × Int × Bool) := loopN (get h41 30) (evCode (cx tl80 n) h41 N b41L10) m s k
theorem f41L10_ok (n N : Nat) (a4 : Int) (a5 : Int) (v60 : Int) (a2 : ByteArray × Int × Int × Int × Int × List Int × List Int) (v2 : (List (Int × Int × Int × Int × Int × Int × Int) × ByteArray × Int × Int × Int × Int × List Int × List Int × Int × Int × Int × Int × Int × List Int × List Int) × Bool) : ∀ (m : Nat) (v67 : Int) (v68 : Bool) (v69 : Int) (v70 : Int) (v71 : Int) (k : Kont ((Int × Int) × Int × Bool)), f41L10N n N m (f41L10S a4 a5 v60 a2 v2 v67 v68 v69 v70 v71) k = f41L10 n a4 a5 v60 a2 v2 m v67 v68 v69 v70 v71 (fun v80 v81 v82 v83 => k.x 2 (f41L10X2 a4 a5 v60 a2 v2 v80 v81 v82 v83)) := by
  intro m
  induction m with
  | zero => intros; rfl
  | succ m ih =>
    intro v67 v68 v69 v70 v71 k
    have h := (by kernel_rfl : f41L10N n N (m + 1) (f41L10S a4 a5 v60 a2 v2 v67 v68 v69 v70 v71) k = f41L10G n a4 a5 v60 a2 v2 v67 v68 v69 v70 v71 (fun v67 v68 v69 v70 v71 => f41L10N n N m (f41L10S a4 a5 v60 a2 v2 v67 v68 v69 v70 v71) k) (fun v80 v81 v82 v83 => k.x 2 (f41L10X2 a4 a5 v60 a2 v2 v80 v81 v82 v83)))
    exact h.trans (congrArg (fun kc => f41L10G n a4 a5 v60 a2 v2 v67 v68 v69 v70 v71 kc (fun v80 v81 v82 v83 => k.x 2 (f41L10X2 a4 a5 v60 a2 v2 v80 v81 v82 v83))) (funext fun v67 => funext fun v68 => funext fun v69 => funext fun v70 => funext fun v71 => ih v67 v68 v69 v70 v71 k))
noncomputable def b41L7 : Code := sub [1, 1, 1, 1, 1, 0, 1, 0, 0] (bodyOf Try.f41)
def f41L7S (a4 : Int) (a5 : Int) (a2 : ByteArray × Int × Int × Int × Int × List Int × List Int) (v2 : (List (Int × Int × Int × Int × Int × Int × Int) × ByteArray × Int × Int × Int × Int × List Int × List Int × Int × Int × Int × Int × Int × List Int × List Int) × Bool) (v58 : Int) (v59 : Bool) (v60 : Int) (v61 : Int) (v62 : Int) : Sx := ⟨(.node .undef (.node .undef (.node .undef (.node .undef (.node (.ptr 2 0) .nil .nil) .nil) (.node .undef (.node (.bool v59) .nil .nil) .nil)) (.node (.int .i64 a5) (.node .undef (.node (.ptr 3 0) .nil .nil) .nil) .nil)) (.node .undef (.node (.int .i64 a4) (.node (.ptr 0 0) .nil .nil) (.node (.ptr 1 0) (.node (.int .i64 v60) .nil .nil) .nil)) (.node .undef (.node .undef (.node (.int .i64 v58) .nil .nil) .nil) .nil))), [(0, .box [(.str a2.1), (.int .i64 a2.2.1), (.int .i64 a2.2.2.1), (.int .i64 a2.2.2.2.1), (.int .i64 a2.2.2.2.2.1), (.imm R3 a2.2.2.2.2.2.1), (.imm R3 a2.2.2.2.2.2.2)]), (1, .box [(.int .i64 0), (.int .i64 0)]), (2, .box [(.imm R2 v2.1.1), (.str v2.1.2.1), (.int .i64 v2.1.2.2.1), (.int .i64 v2.1.2.2.2.1), (.int .i64 v2.1.2.2.2.2.1), (.int .i64 v2.1.2.2.2.2.2.1), (.imm R3 v2.1.2.2.2.2.2.2.1), (.imm R3 v2.1.2.2.2.2.2.2.2.1), (.int .i64 v2.1.2.2.2.2.2.2.2.2.1), (.int .i64 v2.1.2.2.2.2.2.2.2.2.2.1), (.int .i64 v2.1.2.2.2.2.2.2.2.2.2.2.1), (.int .i64 v2.1.2.2.2.2.2.2.2.2.2.2.2.1), (.int .i64 v2.1.2.2.2.2.2.2.2.2.2.2.2.2.1), (.imm R3 v2.1.2.2.2.2.2.2.2.2.2.2.2.2.2.1), (.imm R3 v2.1.2.2.2.2.2.2.2.2.2.2.2.2.2.2)]), (3, .box [(.int .i64 v61), (.int .i64 v62)])], [], 4⟩
def f41L7X0 (a4 : Int) (a5 : Int) (a2 : ByteArray × Int × Int × Int × Int × List Int × List Int) (v2 : (List (Int × Int × Int × Int × Int × Int × Int) × ByteArray × Int × Int × Int × Int × List Int × List Int × Int × Int × Int × Int × Int × List Int × List Int) × Bool) (v89 : Int) (v90 : Bool) (v91 : Int) (v92 : Int) : Sx := ⟨(.node .undef (.node .undef (.node .undef .nil (.node .undef (.node (.bool v90) .nil .nil) .nil)) (.node .undef (.node .undef (.node (.ptr 1 0) .nil .nil) .nil) .nil)) (.node .undef (.node .undef .nil (.node (.ptr 0 0) .nil .nil)) (.node .undef (.node .undef (.node (.int .i64 v89) .nil .nil) .nil) .nil))), [(0, .box [(.int .i64 0), (.int .i64 0)]), (1, .box [(.int .i64 v91), (.int .i64 v92)])], [], 2⟩
noncomputable def f41L7N (n N m : Nat) (s : Sx) (k : Kont ((Int × Int) × Int × Bool)) : Option ((Int × Int) × Int × Bool) := loopN (get h41 21) (evCode (cx tl80 n) h41 N b41L7) m s k
theorem f41L7_s1 (n N : Nat) (m : Nat) (a4 : Int) (a5 : Int) (a2 : ByteArray × Int × Int × Int × Int × List Int × List Int) (v2 : (List (Int × Int × Int × Int × Int × Int × Int) × ByteArray × Int × Int × Int × Int × List Int × List Int × Int × Int × Int × Int × Int × List Int × List Int) × Bool) (v58 : Int) (v59 : Bool) (v60 : Int) (v61 : Int) (v62 : Int) (k : Kont ((Int × Int) × Int × Bool)) : f41L7N n N (m + 1) (f41L7S a4 a5 a2 v2 v58 v59 v60 v61 v62) k = f41L7G n a4 a5 a2 v2 (fun a4 a5 v60 a2 v2 v67 v68 v69 v70 v71 _ => f41L10N n N N (f41L10S a4 a5 v60 a2 v2 v67 v68 v69 v70 v71) (kAt (cx tl80 n) h41 N [1, 0, 0, 1, 0] (b41L7) (backK (cx tl80 n) h41 N m 21 b41L7 k))) v58 v59 v60 v61 v62 (fun v58 v59 v60 v61 v62 => f41L7N n N m (f41L7S a4 a5 a2 v2 v58 v59 v60 v61 v62) k) (fun v89 v90 v91 v92 => k.x 0 (f41L7X0 a4 a5 a2 v2 v89 v90 v91 v92)) := by kernel_rfl
theorem f41L7_s2 (n N : Nat) (m : Nat) (a4 : Int) (a5 : Int) (a2 : ByteArray × Int × Int × Int × Int × List Int × List Int) (v2 : (List (Int × Int × Int × Int × Int × Int × Int) × ByteArray × Int × Int × Int × Int × List Int × List Int × Int × Int × Int × Int × Int × List Int × List Int) × Bool) (v58 : Int) (v59 : Bool) (v60 : Int) (v61 : Int) (v62 : Int) (k : Kont ((Int × Int) × Int × Bool)) : f41L7G n a4 a5 a2 v2 (fun a4 a5 v60 a2 v2 v67 v68 v69 v70 v71 _ => f41L10 n a4 a5 v60 a2 v2 N v67 v68 v69 v70 v71 (fun v80 v81 v82 v83 => (kAt (cx tl80 n) h41 N [1, 0, 0, 1, 0] (b41L7) (backK (cx tl80 n) h41 N m 21 b41L7 k)).x 2 (f41L10X2 a4 a5 v60 a2 v2 v80 v81 v82 v83))) v58 v59 v60 v61 v62 (fun v58 v59 v60 v61 v62 => f41L7N n N m (f41L7S a4 a5 a2 v2 v58 v59 v60 v61 v62) k) (fun v89 v90 v91 v92 => k.x 0 (f41L7X0 a4 a5 a2 v2 v89 v90 v91 v92)) = f41L7G n a4 a5 a2 v2 (fun a4 a5 v60 a2 v2 => f41L10 n a4 a5 v60 a2 v2 N) v58 v59 v60 v61 v62 (fun v58 v59 v60 v61 v62 => f41L7N n N m (f41L7S a4 a5 a2 v2 v58 v59 v60 v61 v62) k) (fun v89 v90 v91 v92 => k.x 0 (f41L7X0 a4 a5 a2 v2 v89 v90 v91 v92)) := by kernel_rfl
theorem f41L7_ok (n : Nat) (a4 : Int) (a5 : Int) (a2 : ByteArray × Int × Int × Int × Int × List Int × List Int) (v2 : (List (Int × Int × Int × Int × Int × Int × Int) × ByteArray × Int × Int × Int × Int × List Int × List Int × Int × Int × Int × Int × Int × List Int × List Int) × Bool) : ∀ (m : Nat) (v58 : Int) (v59 : Bool) (v60 : Int) (v61 : Int) (v62 : Int) (k : Kont ((Int × Int) × Int × Bool)), f41L7N n (n + 8) m (f41L7S a4 a5 a2 v2 v58 v59 v60 v61 v62) k = f41L7 n a4 a5 a2 v2 m v58 v59 v60 v61 v62 (fun v89 v90 v91 v92 => k.x 0 (f41L7X0 a4 a5 a2 v2 v89 v90 v91 v92)) := by
  intro m
  induction m with
  | zero => intros; rfl
  | succ m ih =>
    intro v58 v59 v60 v61 v62 k
    have h := (f41L7_s1 n (n + 8) m a4 a5 a2 v2 v58 v59 v60 v61 v62 k : f41L7N n (n + 8) (m + 1) (f41L7S a4 a5 a2 v2 v58 v59 v60 v61 v62) k = f41L7G n a4 a5 a2 v2 (fun a4 a5 v60 a2 v2 v67 v68 v69 v70 v71 _ => f41L10N n (n + 8) (n + 8) (f41L10S a4 a5 v60 a2 v2 v67 v68 v69 v70 v71) (kAt (cx tl80 n) h41 (n + 8) [1, 0, 0, 1, 0] (b41L7) (backK (cx tl80 n) h41 (n + 8) m 21 b41L7 k))) v58 v59 v60 v61 v62 (fun v58 v59 v60 v61 v62 => f41L7N n (n + 8) m (f41L7S a4 a5 a2 v2 v58 v59 v60 v61 v62) k) (fun v89 v90 v91 v92 => k.x 0 (f41L7X0 a4 a5 a2 v2 v89 v90 v91 v92)))
    replace h := h.trans (congrArg (fun lp => f41L7G n a4 a5 a2 v2 lp v58 v59 v60 v61 v62 (fun v58 v59 v60 v61 v62 => f41L7N n (n + 8) m (f41L7S a4 a5 a2 v2 v58 v59 v60 v61 v62) k) (fun v89 v90 v91 v92 => k.x 0 (f41L7X0 a4 a5 a2 v2 v89 v90 v91 v92))) (funext fun x0 => funext fun x1 => funext fun x2 => funext fun x3 => funext fun x4 => funext fun x5 => funext fun x6 => funext fun x7 => funext fun x8 => funext fun x9 => funext fun _ => f41L10_ok n (n + 8) x0 x1 x2 x3 x4 (n + 8) x5 x6 x7 x8 x9 (kAt (cx tl80 n) h41 (n + 8) [1, 0, 0, 1, 0] (b41L7) (backK (cx tl80 n) h41 (n + 8) m 21 b41L7 k))))
    replace h := h.trans (f41L7_s2 n (n + 8) m a4 a5 a2 v2 v58 v59 v60 v61 v62 k : f41L7G n a4 a5 a2 v2 (fun a4 a5 v60 a2 v2 v67 v68 v69 v70 v71 _ => f41L10 n a4 a5 v60 a2 v2 (n + 8) v67 v68 v69 v70 v71 (fun v80 v81 v82 v83 => (kAt (cx tl80 n) h41 (n + 8) [1, 0, 0, 1, 0] (b41L7) (backK (cx tl80 n) h41 (n + 8) m 21 b41L7 k)).x 2 (f41L10X2 a4 a5 v60 a2 v2 v80 v81 v82 v83))) v58 v59 v60 v61 v62 (fun v58 v59 v60 v61 v62 => f41L7N n (n + 8) m (f41L7S a4 a5 a2 v2 v58 v59 v60 v61 v62) k) (fun v89 v90 v91 v92 => k.x 0 (f41L7X0 a4 a5 a2 v2 v89 v90 v91 v92)) = f41L7G n a4 a5 a2 v2 (fun a4 a5 v60 a2 v2 => f41L10 n a4 a5 v60 a2 v2 (n + 8)) v58 v59 v60 v61 v62 (fun v58 v59 v60 v61 v62 => f41L7N n (n + 8) m (f41L7S a4 a5 a2 v2 v58 v59 v60 v61 v62) k) (fun v89 v90 v91 v92 => k.x 0 (f41L7X0 a4 a5 a2 v2 v89 v90 v91 v92)))
    exact h.trans (congrArg (fun kc => f41L7G n a4 a5 a2 v2 (fun a4 a5 v60 a2 v2 => f41L10 n a4 a5 v60 a2 v2 (n + 8)) v58 v59 v60 v61 v62 kc (fun v89 v90 v91 v92 => k.x 0 (f41L7X0 a4 a5 a2 v2 v89 v90 v91 v92))) (funext fun v58 => funext fun v59 => funext fun v60 => funext fun v61 => funext fun v62 => ih v58 v59 v60 v61 v62 k))
theorem f41_ev_s1 (n N : Nat) (a0 : List (Int × Int × List (Int × Int))) (a1 : List (Int × Int × Int × Int × Int × Int × Int)) (a2 : ByteArray × Int × Int × Int × Int × List Int × List Int) (a3 : Int × Int × Int × Int) (a4 : Int) (a5 : Int) : evT (cx tl80 n) h41 N Try.f41 sg41 [encV false R8 a0, encV false R13 a1, encV true R16 a2, encV true R5 a3, encV false R3 a4, encV false R3 a5] = f41G n a0 a1 a2 a3 a4 a5 (fun a4 a5 a2 v2 v58 v59 v60 v61 v62 _ => f41L7N n N N (f41L7S a4 a5 a2 v2 v58 v59 v60 v61 v62) (kAt (cx tl80 n) h41 N [1, 1, 1, 1, 1, 0, 1, 0] (bodyOf Try.f41) (konT (cx tl80 n) Try.f41.results.toList sg41))) := by kernel_rfl
theorem f41_ev_s2 (n N : Nat) (a0 : List (Int × Int × List (Int × Int))) (a1 : List (Int × Int × Int × Int × Int × Int × Int)) (a2 : ByteArray × Int × Int × Int × Int × List Int × List Int) (a3 : Int × Int × Int × Int) (a4 : Int) (a5 : Int) : f41G n a0 a1 a2 a3 a4 a5 (fun a4 a5 a2 v2 v58 v59 v60 v61 v62 _ => f41L7 n a4 a5 a2 v2 N v58 v59 v60 v61 v62 (fun v89 v90 v91 v92 => (kAt (cx tl80 n) h41 N [1, 1, 1, 1, 1, 0, 1, 0] (bodyOf Try.f41) (konT (cx tl80 n) Try.f41.results.toList sg41)).x 0 (f41L7X0 a4 a5 a2 v2 v89 v90 v91 v92))) = f41G n a0 a1 a2 a3 a4 a5 (fun a4 a5 a2 v2 => f41L7 n a4 a5 a2 v2 N) := by kernel_rfl
theorem f41_ev (n : Nat) (a0 : List (Int × Int × List (Int × Int))) (a1 : List (Int × Int × Int × Int × Int × Int × Int)) (a2 : ByteArray × Int × Int × Int × Int × List Int × List Int) (a3 : Int × Int × Int × Int) (a4 : Int) (a5 : Int) : evT (cx tl80 n) h41 (n + 8) Try.f41 sg41 [encV false R8 a0, encV false R13 a1, encV true R16 a2, encV true R5 a3, encV false R3 a4, encV false R3 a5] = f41 n a0 a1 a2 a3 a4 a5 := by
  have h := (f41_ev_s1 n (n + 8) a0 a1 a2 a3 a4 a5 : evT (cx tl80 n) h41 (n + 8) Try.f41 sg41 [encV false R8 a0, encV false R13 a1, encV true R16 a2, encV true R5 a3, encV false R3 a4, encV false R3 a5] = f41G n a0 a1 a2 a3 a4 a5 (fun a4 a5 a2 v2 v58 v59 v60 v61 v62 _ => f41L7N n (n + 8) (n + 8) (f41L7S a4 a5 a2 v2 v58 v59 v60 v61 v62) (kAt (cx tl80 n) h41 (n + 8) [1, 1, 1, 1, 1, 0, 1, 0] (bodyOf Try.f41) (konT (cx tl80 n) Try.f41.results.toList sg41))))
  replace h := h.trans (congrArg (fun lp => f41G n a0 a1 a2 a3 a4 a5 lp) (funext fun x0 => funext fun x1 => funext fun x2 => funext fun x3 => funext fun x4 => funext fun x5 => funext fun x6 => funext fun x7 => funext fun x8 => funext fun _ => f41L7_ok n x0 x1 x2 x3 (n + 8) x4 x5 x6 x7 x8 (kAt (cx tl80 n) h41 (n + 8) [1, 1, 1, 1, 1, 0, 1, 0] (bodyOf Try.f41) (konT (cx tl80 n) Try.f41.results.toList sg41))))
  replace h := h.trans (f41_ev_s2 n (n + 8) a0 a1 a2 a3 a4 a5 : f41G n a0 a1 a2 a3 a4 a5 (fun a4 a5 a2 v2 v58 v59 v60 v61 v62 _ => f41L7 n a4 a5 a2 v2 (n + 8) v58 v59 v60 v61 v62 (fun v89 v90 v91 v92 => (kAt (cx tl80 n) h41 (n + 8) [1, 1, 1, 1, 1, 0, 1, 0] (bodyOf Try.f41) (konT (cx tl80 n) Try.f41.results.toList sg41)).x 0 (f41L7X0 a4 a5 a2 v2 v89 v90 v91 v92))) = f41G n a0 a1 a2 a3 a4 a5 (fun a4 a5 a2 v2 => f41L7 n a4 a5 a2 v2 (n + 8)))
  exact h
noncomputable def sp41 : Sp := fun n => dat1 false R8 fun a0 => dat1 false R13 fun a1 => dat1 true R16 fun a2 => dat1 true R5 fun a3 => dat1 false R3 fun a4 => dat1 false R3 fun a5 => dat0 (ansO sg41 (f41 n a0 a1 a2 a3 a4 a5) (((0 : Int), (0 : Int)), (0 : Int), false))
theorem sp41_ok {n : Nat} (h : CallOk Try.prog (tabF tl80 n)) : ∀ args r, sp41 n args = some (true, r) → FnOK Try.prog 41 args r := SpR.all (SpR.dat1 fun a0 => SpR.dat1 fun a1 => SpR.dat1 fun a2 => SpR.dat1 fun a3 => SpR.dat1 fun a4 => SpR.dat1 fun a5 => SpR.ansO fun y hy => fnT_ok (cx_ok h) (normal_ok _) Try.func41 (code_ok_of (cx_ok h) st41) ((f41_ev n a0 a1 a2 a3 a4 a5).trans hy))
noncomputable def tl81 : List (Nat × Sp) := (41, sp41) :: tl80
theorem tl81_ok (n : Nat) : CallOk Try.prog (tabF tl81 n) := tabF_cons (tl80_ok n) (known_of Try.func41 (by decide +kernel) (by kernel_rfl)) (sp41_ok (tl80_ok n))
/-! f22: sawmill/sawmilllaw20.best -/
abbrev sg22 : Sig := [(true, R6), (false, R3), (false, R0)]
noncomputable def h22 : List (Nat × List Keep) := hintsOf keeps 22
theorem st22 : fnSt Try.f22 = true := by kernel_rfl
theorem f22_ev (n : Nat) (a0 : List (Int × Int × List (Int × Int)) × List (Int × Int × Int × Int × Int × Int × Int) × ByteArray × Int × Int × Int × Int × List Int × List Int × Int) (a1 : Int × Int × Int × Int) (a2 : Int) : evT (cx tl81 n) h22 (n + 8) Try.f22 sg22 [encV true R4 a0, encV true R5 a1, encV false R3 a2] = f22 n a0 a1 a2 := by
  have h := (by kernel_rfl : evT (cx tl81 n) h22 (n + 8) Try.f22 sg22 [encV true R4 a0, encV true R5 a1, encV false R3 a2] = f22G n a0 a1 a2)
  exact h
noncomputable def sp22 : Sp := fun n => dat1 true R4 fun a0 => dat1 true R5 fun a1 => dat1 false R3 fun a2 => dat0 (ansO sg22 (f22 n a0 a1 a2) (((0 : Int), (0 : Int)), (0 : Int), false))
theorem sp22_ok {n : Nat} (h : CallOk Try.prog (tabF tl81 n)) : ∀ args r, sp22 n args = some (true, r) → FnOK Try.prog 22 args r := SpR.all (SpR.dat1 fun a0 => SpR.dat1 fun a1 => SpR.dat1 fun a2 => SpR.ansO fun y hy => fnT_ok (cx_ok h) (normal_ok _) Try.func22 (code_ok_of (cx_ok h) st22) ((f22_ev n a0 a1 a2).trans hy))
noncomputable def tl82 : List (Nat × Sp) := (22, sp22) :: tl81
theorem tl82_ok (n : Nat) : CallOk Try.prog (tabF tl82 n) := tabF_cons (tl81_ok n) (known_of Try.func22 (by decide +kernel) (by kernel_rfl)) (sp22_ok (tl81_ok n))
/-! f23: sawmill/sawmillref20.Best -/
abbrev sg23 : Sig := [(true, R6), (false, R3), (false, R0)]
noncomputable def h23 : List (Nat × List Keep) := hintsOf keeps 23
theorem st23 : fnSt Try.f23 = true := by kernel_rfl
noncomputable def b23L8 : Code := sub [1, 1, 1, 0, 1, 0, 0, 1, 0, 0, 1, 0, 0] (bodyOf Try.f23)
def f23L8S (a0 : List (Int × Int × List (Int × Int))) (a1 : List (Int × Int × Int × Int × Int × Int × Int)) (a4 : Int) (a5 : Int) (v72 : Int) (a2 : ByteArray × Int × Int × Int × Int × List Int × List Int) (a3 : Int × Int × Int × Int) (v83 : Int) (v84 : Bool) (v85 : Int) (v86 : Int) (v87 : Int) : Sx := ⟨(.node (.imm R1 a0) (.node (.imm R2 a1) (.node .undef (.node .undef (.node (.ptr 3 0) .nil .nil) .nil) (.node .undef (.node (.int .i64 v85) .nil .nil) .nil)) (.node (.int .i64 a5) (.node (.ptr 1 0) (.node (.bool v84) .nil .nil) .nil) .nil)) (.node .undef (.node (.int .i64 a4) (.node (.ptr 0 0) (.node (.int .i64 v83) .nil .nil) .nil) (.node (.ptr 2 0) .nil .nil)) (.node .undef (.node .undef (.node (.int .i64 v72) .nil .nil) .nil) .nil))), [(0, .box [(.str a2.1), (.int .i64 a2.2.1), (.int .i64 a2.2.2.1), (.int .i64 a2.2.2.2.1), (.int .i64 a2.2.2.2.2.1), (.imm R3 a2.2.2.2.2.2.1), (.imm R3 a2.2.2.2.2.2.2)]), (1, .box [(.int .i64 a3.1), (.int .i64 a3.2.1), (.int .i64 a3.2.2.1), (.int .i64 a3.2.2.2)]), (2, .box [(.int .i64 0), (.int .i64 0)]), (3, .box [(.int .i64 v86), (.int .i64 v87)])], [], 4⟩
def f23L8X2 (a0 : List (Int × Int × List (Int × Int))) (a1 : List (Int × Int × Int × Int × Int × Int × Int)) (a4 : Int) (a5 : Int) (v72 : Int) (a2 : ByteArray × Int × Int × Int × Int × List Int × List Int) (a3 : Int × Int × Int × Int) (v98 : Int) (v99 : Bool) (v100 : Int) (v101 : Int) : Sx := ⟨(.node (.imm R1 a0) (.node (.imm R2 a1) (.node .undef (.node .undef (.node (.ptr 3 0) .nil .nil) .nil) .nil) (.node (.int .i64 a5) (.node (.ptr 1 0) (.node (.bool v99) .nil .nil) .nil) .nil)) (.node .undef (.node (.int .i64 a4) (.node (.ptr 0 0) (.node (.int .i64 v98) .nil .nil) .nil) (.node (.ptr 2 0) .nil .nil)) (.node .undef (.node .undef (.node (.int .i64 v72) .nil .nil) .nil) .nil))), [(0, .box [(.str a2.1), (.int .i64 a2.2.1), (.int .i64 a2.2.2.1), (.int .i64 a2.2.2.2.1), (.int .i64 a2.2.2.2.2.1), (.imm R3 a2.2.2.2.2.2.1), (.imm R3 a2.2.2.2.2.2.2)]), (1, .box [(.int .i64 a3.1), (.int .i64 a3.2.1), (.int .i64 a3.2.2.1), (.int .i64 a3.2.2.2)]), (2, .box [(.int .i64 0), (.int .i64 0)]), (3, .box [(.int .i64 v100), (.int .i64 v101)])], [], 4⟩
noncomputable def f23L8N (n N m : Nat) (s : Sx) (k : Kont ((Int × Int) × Int × Bool)) : Option ((Int × Int) × Int × Bool) := loopN (get h23 24) (evCode (cx tl82 n) h23 N b23L8) m s k
theorem f23L8_ok (n N : Nat) (a0 : List (Int × Int × List (Int × Int))) (a1 : List (Int × Int × Int × Int × Int × Int × Int)) (a4 : Int) (a5 : Int) (v72 : Int) (a2 : ByteArray × Int × Int × Int × Int × List Int × List Int) (a3 : Int × Int × Int × Int) : ∀ (m : Nat) (v83 : Int) (v84 : Bool) (v85 : Int) (v86 : Int) (v87 : Int) (k : Kont ((Int × Int) × Int × Bool)), f23L8N n N m (f23L8S a0 a1 a4 a5 v72 a2 a3 v83 v84 v85 v86 v87) k = f23L8 n a0 a1 a4 a5 v72 a2 a3 m v83 v84 v85 v86 v87 (fun v98 v99 v100 v101 => k.x 2 (f23L8X2 a0 a1 a4 a5 v72 a2 a3 v98 v99 v100 v101)) := by
  intro m
  induction m with
  | zero => intros; rfl
  | succ m ih =>
    intro v83 v84 v85 v86 v87 k
    have h := (by kernel_rfl : f23L8N n N (m + 1) (f23L8S a0 a1 a4 a5 v72 a2 a3 v83 v84 v85 v86 v87) k = f23L8G n a0 a1 a4 a5 v72 a2 a3 v83 v84 v85 v86 v87 (fun v83 v84 v85 v86 v87 => f23L8N n N m (f23L8S a0 a1 a4 a5 v72 a2 a3 v83 v84 v85 v86 v87) k) (fun v98 v99 v100 v101 => k.x 2 (f23L8X2 a0 a1 a4 a5 v72 a2 a3 v98 v99 v100 v101)))
    exact h.trans (congrArg (fun kc => f23L8G n a0 a1 a4 a5 v72 a2 a3 v83 v84 v85 v86 v87 kc (fun v98 v99 v100 v101 => k.x 2 (f23L8X2 a0 a1 a4 a5 v72 a2 a3 v98 v99 v100 v101))) (funext fun v83 => funext fun v84 => funext fun v85 => funext fun v86 => funext fun v87 => ih v83 v84 v85 v86 v87 k))
noncomputable def b23L5 : Code := sub [1, 1, 1, 0, 1, 0, 0] (bodyOf Try.f23)
def f23L5S (a0 : List (Int × Int × List (Int × Int))) (a1 : List (Int × Int × Int × Int × Int × Int × Int)) (a4 : Int) (a5 : Int) (a2 : ByteArray × Int × Int × Int × Int × List Int × List Int) (a3 : Int × Int × Int × Int) (v70 : Int) (v71 : Bool) (v72 : Int) (v73 : Int) (v74 : Int) : Sx := ⟨(.node (.imm R1 a0) (.node (.imm R2 a1) (.node .undef (.node .undef (.node (.ptr 3 0) .nil .nil) .nil) .nil) (.node (.int .i64 a5) (.node (.ptr 1 0) (.node (.bool v71) .nil .nil) .nil) .nil)) (.node .undef (.node (.int .i64 a4) (.node (.ptr 0 0) (.node (.int .i64 v70) .nil .nil) .nil) (.node (.ptr 2 0) .nil .nil)) (.node .undef (.node .undef (.node (.int .i64 v72) .nil .nil) .nil) .nil))), [(0, .box [(.str a2.1), (.int .i64 a2.2.1), (.int .i64 a2.2.2.1), (.int .i64 a2.2.2.2.1), (.int .i64 a2.2.2.2.2.1), (.imm R3 a2.2.2.2.2.2.1), (.imm R3 a2.2.2.2.2.2.2)]), (1, .box [(.int .i64 a3.1), (.int .i64 a3.2.1), (.int .i64 a3.2.2.1), (.int .i64 a3.2.2.2)]), (2, .box [(.int .i64 0), (.int .i64 0)]), (3, .box [(.int .i64 v73), (.int .i64 v74)])], [], 4⟩
def f23L5X0 (a0 : List (Int × Int × List (Int × Int))) (a1 : List (Int × Int × Int × Int × Int × Int × Int)) (a4 : Int) (a5 : Int) (a2 : ByteArray × Int × Int × Int × Int × List Int × List Int) (a3 : Int × Int × Int × Int) (v107 : Int) (v108 : Bool) (v109 : Int) (v110 : Int) : Sx := ⟨(.node .undef (.node .undef (.node .undef (.node .undef (.node (.ptr 1 0) .nil .nil) .nil) .nil) (.node .undef (.node .undef (.node (.bool v108) .nil .nil) .nil) .nil)) (.node .undef (.node .undef (.node .undef (.node (.int .i64 v107) .nil .nil) .nil) (.node (.ptr 0 0) .nil .nil)) .nil)), [(0, .box [(.int .i64 0), (.int .i64 0)]), (1, .box [(.int .i64 v109), (.int .i64 v110)])], [], 2⟩
noncomputable def f23L5N (n N m : Nat) (s : Sx) (k : Kont ((Int × Int) × Int × Bool)) : Option ((Int × Int) × Int × Bool) := loopN (get h23 15) (evCode (cx tl82 n) h23 N b23L5) m s k
theorem f23L5_s1 (n N : Nat) (m : Nat) (a0 : List (Int × Int × List (Int × Int))) (a1 : List (Int × Int × Int × Int × Int × Int × Int)) (a4 : Int) (a5 : Int) (a2 : ByteArray × Int × Int × Int × Int × List Int × List Int) (a3 : Int × Int × Int × Int) (v70 : Int) (v71 : Bool) (v72 : Int) (v73 : Int) (v74 : Int) (k : Kont ((Int × Int) × Int × Bool)) : f23L5N n N (m + 1) (f23L5S a0 a1 a4 a5 a2 a3 v70 v71 v72 v73 v74) k = f23L5G n a0 a1 a4 a5 a2 a3 (fun a0 a1 a4 a5 v72 a2 a3 v83 v84 v85 v86 v87 _ => f23L8N n N N (f23L8S a0 a1 a4 a5 v72 a2 a3 v83 v84 v85 v86 v87) (kAt (cx tl82 n) h23 N [1, 0, 0, 1, 0] (b23L5) (backK (cx tl82 n) h23 N m 15 b23L5 k))) v70 v71 v72 v73 v74 (fun v70 v71 v72 v73 v74 => f23L5N n N m (f23L5S a0 a1 a4 a5 a2 a3 v70 v71 v72 v73 v74) k) (fun v107 v108 v109 v110 => k.x 0 (f23L5X0 a0 a1 a4 a5 a2 a3 v107 v108 v109 v110)) := by kernel_rfl
theorem f23L5_s2 (n N : Nat) (m : Nat) (a0 : List (Int × Int × List (Int × Int))) (a1 : List (Int × Int × Int × Int × Int × Int × Int)) (a4 : Int) (a5 : Int) (a2 : ByteArray × Int × Int × Int × Int × List Int × List Int) (a3 : Int × Int × Int × Int) (v70 : Int) (v71 : Bool) (v72 : Int) (v73 : Int) (v74 : Int) (k : Kont ((Int × Int) × Int × Bool)) : f23L5G n a0 a1 a4 a5 a2 a3 (fun a0 a1 a4 a5 v72 a2 a3 v83 v84 v85 v86 v87 _ => f23L8 n a0 a1 a4 a5 v72 a2 a3 N v83 v84 v85 v86 v87 (fun v98 v99 v100 v101 => (kAt (cx tl82 n) h23 N [1, 0, 0, 1, 0] (b23L5) (backK (cx tl82 n) h23 N m 15 b23L5 k)).x 2 (f23L8X2 a0 a1 a4 a5 v72 a2 a3 v98 v99 v100 v101))) v70 v71 v72 v73 v74 (fun v70 v71 v72 v73 v74 => f23L5N n N m (f23L5S a0 a1 a4 a5 a2 a3 v70 v71 v72 v73 v74) k) (fun v107 v108 v109 v110 => k.x 0 (f23L5X0 a0 a1 a4 a5 a2 a3 v107 v108 v109 v110)) = f23L5G n a0 a1 a4 a5 a2 a3 (fun a0 a1 a4 a5 v72 a2 a3 => f23L8 n a0 a1 a4 a5 v72 a2 a3 N) v70 v71 v72 v73 v74 (fun v70 v71 v72 v73 v74 => f23L5N n N m (f23L5S a0 a1 a4 a5 a2 a3 v70 v71 v72 v73 v74) k) (fun v107 v108 v109 v110 => k.x 0 (f23L5X0 a0 a1 a4 a5 a2 a3 v107 v108 v109 v110)) := by kernel_rfl
theorem f23L5_ok (n : Nat) (a0 : List (Int × Int × List (Int × Int))) (a1 : List (Int × Int × Int × Int × Int × Int × Int)) (a4 : Int) (a5 : Int) (a2 : ByteArray × Int × Int × Int × Int × List Int × List Int) (a3 : Int × Int × Int × Int) : ∀ (m : Nat) (v70 : Int) (v71 : Bool) (v72 : Int) (v73 : Int) (v74 : Int) (k : Kont ((Int × Int) × Int × Bool)), f23L5N n (n + 8) m (f23L5S a0 a1 a4 a5 a2 a3 v70 v71 v72 v73 v74) k = f23L5 n a0 a1 a4 a5 a2 a3 m v70 v71 v72 v73 v74 (fun v107 v108 v109 v110 => k.x 0 (f23L5X0 a0 a1 a4 a5 a2 a3 v107 v108 v109 v110)) := by
  intro m
  induction m with
  | zero => intros; rfl
  | succ m ih =>
    intro v70 v71 v72 v73 v74 k
    have h := (f23L5_s1 n (n + 8) m a0 a1 a4 a5 a2 a3 v70 v71 v72 v73 v74 k : f23L5N n (n + 8) (m + 1) (f23L5S a0 a1 a4 a5 a2 a3 v70 v71 v72 v73 v74) k = f23L5G n a0 a1 a4 a5 a2 a3 (fun a0 a1 a4 a5 v72 a2 a3 v83 v84 v85 v86 v87 _ => f23L8N n (n + 8) (n + 8) (f23L8S a0 a1 a4 a5 v72 a2 a3 v83 v84 v85 v86 v87) (kAt (cx tl82 n) h23 (n + 8) [1, 0, 0, 1, 0] (b23L5) (backK (cx tl82 n) h23 (n + 8) m 15 b23L5 k))) v70 v71 v72 v73 v74 (fun v70 v71 v72 v73 v74 => f23L5N n (n + 8) m (f23L5S a0 a1 a4 a5 a2 a3 v70 v71 v72 v73 v74) k) (fun v107 v108 v109 v110 => k.x 0 (f23L5X0 a0 a1 a4 a5 a2 a3 v107 v108 v109 v110)))
    replace h := h.trans (congrArg (fun lp => f23L5G n a0 a1 a4 a5 a2 a3 lp v70 v71 v72 v73 v74 (fun v70 v71 v72 v73 v74 => f23L5N n (n + 8) m (f23L5S a0 a1 a4 a5 a2 a3 v70 v71 v72 v73 v74) k) (fun v107 v108 v109 v110 => k.x 0 (f23L5X0 a0 a1 a4 a5 a2 a3 v107 v108 v109 v110))) (funext fun x0 => funext fun x1 => funext fun x2 => funext fun x3 => funext fun x4 => funext fun x5 => funext fun x6 => funext fun x7 => funext fun x8 => funext fun x9 => funext fun x10 => funext fun x11 => funext fun _ => f23L8_ok n (n + 8) x0 x1 x2 x3 x4 x5 x6 (n + 8) x7 x8 x9 x10 x11 (kAt (cx tl82 n) h23 (n + 8) [1, 0, 0, 1, 0] (b23L5) (backK (cx tl82 n) h23 (n + 8) m 15 b23L5 k))))
    replace h := h.trans (f23L5_s2 n (n + 8) m a0 a1 a4 a5 a2 a3 v70 v71 v72 v73 v74 k : f23L5G n a0 a1 a4 a5 a2 a3 (fun a0 a1 a4 a5 v72 a2 a3 v83 v84 v85 v86 v87 _ => f23L8 n a0 a1 a4 a5 v72 a2 a3 (n + 8) v83 v84 v85 v86 v87 (fun v98 v99 v100 v101 => (kAt (cx tl82 n) h23 (n + 8) [1, 0, 0, 1, 0] (b23L5) (backK (cx tl82 n) h23 (n + 8) m 15 b23L5 k)).x 2 (f23L8X2 a0 a1 a4 a5 v72 a2 a3 v98 v99 v100 v101))) v70 v71 v72 v73 v74 (fun v70 v71 v72 v73 v74 => f23L5N n (n + 8) m (f23L5S a0 a1 a4 a5 a2 a3 v70 v71 v72 v73 v74) k) (fun v107 v108 v109 v110 => k.x 0 (f23L5X0 a0 a1 a4 a5 a2 a3 v107 v108 v109 v110)) = f23L5G n a0 a1 a4 a5 a2 a3 (fun a0 a1 a4 a5 v72 a2 a3 => f23L8 n a0 a1 a4 a5 v72 a2 a3 (n + 8)) v70 v71 v72 v73 v74 (fun v70 v71 v72 v73 v74 => f23L5N n (n + 8) m (f23L5S a0 a1 a4 a5 a2 a3 v70 v71 v72 v73 v74) k) (fun v107 v108 v109 v110 => k.x 0 (f23L5X0 a0 a1 a4 a5 a2 a3 v107 v108 v109 v110)))
    exact h.trans (congrArg (fun kc => f23L5G n a0 a1 a4 a5 a2 a3 (fun a0 a1 a4 a5 v72 a2 a3 => f23L8 n a0 a1 a4 a5 v72 a2 a3 (n + 8)) v70 v71 v72 v73 v74 kc (fun v107 v108 v109 v110 => k.x 0 (f23L5X0 a0 a1 a4 a5 a2 a3 v107 v108 v109 v110))) (funext fun v70 => funext fun v71 => funext fun v72 => funext fun v73 => funext fun v74 => ih v70 v71 v72 v73 v74 k))
theorem f23_ev_s1 (n N : Nat) (a0 : List (Int × Int × List (Int × Int))) (a1 : List (Int × Int × Int × Int × Int × Int × Int)) (a2 : ByteArray × Int × Int × Int × Int × List Int × List Int) (a3 : Int × Int × Int × Int) (a4 : Int) (a5 : Int) : evT (cx tl82 n) h23 N Try.f23 sg23 [encV false R8 a0, encV false R13 a1, encV true R16 a2, encV true R5 a3, encV false R3 a4, encV false R3 a5] = f23G n a0 a1 a2 a3 a4 a5 (fun a0 a1 a4 a5 a2 a3 v70 v71 v72 v73 v74 _ => f23L5N n N N (f23L5S a0 a1 a4 a5 a2 a3 v70 v71 v72 v73 v74) (kAt (cx tl82 n) h23 N [1, 1, 1, 0, 1, 0] (bodyOf Try.f23) (konT (cx tl82 n) Try.f23.results.toList sg23))) := by kernel_rfl
theorem f23_ev_s2 (n N : Nat) (a0 : List (Int × Int × List (Int × Int))) (a1 : List (Int × Int × Int × Int × Int × Int × Int)) (a2 : ByteArray × Int × Int × Int × Int × List Int × List Int) (a3 : Int × Int × Int × Int) (a4 : Int) (a5 : Int) : f23G n a0 a1 a2 a3 a4 a5 (fun a0 a1 a4 a5 a2 a3 v70 v71 v72 v73 v74 _ => f23L5 n a0 a1 a4 a5 a2 a3 N v70 v71 v72 v73 v74 (fun v107 v108 v109 v110 => (kAt (cx tl82 n) h23 N [1, 1, 1, 0, 1, 0] (bodyOf Try.f23) (konT (cx tl82 n) Try.f23.results.toList sg23)).x 0 (f23L5X0 a0 a1 a4 a5 a2 a3 v107 v108 v109 v110))) = f23G n a0 a1 a2 a3 a4 a5 (fun a0 a1 a4 a5 a2 a3 => f23L5 n a0 a1 a4 a5 a2 a3 N) := by kernel_rfl
theorem f23_ev (n : Nat) (a0 : List (Int × Int × List (Int × Int))) (a1 : List (Int × Int × Int × Int × Int × Int × Int)) (a2 : ByteArray × Int × Int × Int × Int × List Int × List Int) (a3 : Int × Int × Int × Int) (a4 : Int) (a5 : Int) : evT (cx tl82 n) h23 (n + 8) Try.f23 sg23 [encV false R8 a0, encV false R13 a1, encV true R16 a2, encV true R5 a3, encV false R3 a4, encV false R3 a5] = f23 n a0 a1 a2 a3 a4 a5 := by
  have h := (f23_ev_s1 n (n + 8) a0 a1 a2 a3 a4 a5 : evT (cx tl82 n) h23 (n + 8) Try.f23 sg23 [encV false R8 a0, encV false R13 a1, encV true R16 a2, encV true R5 a3, encV false R3 a4, encV false R3 a5] = f23G n a0 a1 a2 a3 a4 a5 (fun a0 a1 a4 a5 a2 a3 v70 v71 v72 v73 v74 _ => f23L5N n (n + 8) (n + 8) (f23L5S a0 a1 a4 a5 a2 a3 v70 v71 v72 v73 v74) (kAt (cx tl82 n) h23 (n + 8) [1, 1, 1, 0, 1, 0] (bodyOf Try.f23) (konT (cx tl82 n) Try.f23.results.toList sg23))))
  replace h := h.trans (congrArg (fun lp => f23G n a0 a1 a2 a3 a4 a5 lp) (funext fun x0 => funext fun x1 => funext fun x2 => funext fun x3 => funext fun x4 => funext fun x5 => funext fun x6 => funext fun x7 => funext fun x8 => funext fun x9 => funext fun x10 => funext fun _ => f23L5_ok n x0 x1 x2 x3 x4 x5 (n + 8) x6 x7 x8 x9 x10 (kAt (cx tl82 n) h23 (n + 8) [1, 1, 1, 0, 1, 0] (bodyOf Try.f23) (konT (cx tl82 n) Try.f23.results.toList sg23))))
  replace h := h.trans (f23_ev_s2 n (n + 8) a0 a1 a2 a3 a4 a5 : f23G n a0 a1 a2 a3 a4 a5 (fun a0 a1 a4 a5 a2 a3 v70 v71 v72 v73 v74 _ => f23L5 n a0 a1 a4 a5 a2 a3 (n + 8) v70 v71 v72 v73 v74 (fun v107 v108 v109 v110 => (kAt (cx tl82 n) h23 (n + 8) [1, 1, 1, 0, 1, 0] (bodyOf Try.f23) (konT (cx tl82 n) Try.f23.results.toList sg23)).x 0 (f23L5X0 a0 a1 a4 a5 a2 a3 v107 v108 v109 v110))) = f23G n a0 a1 a2 a3 a4 a5 (fun a0 a1 a4 a5 a2 a3 => f23L5 n a0 a1 a4 a5 a2 a3 (n + 8)))
  exact h
noncomputable def sp23 : Sp := fun n => dat1 false R8 fun a0 => dat1 false R13 fun a1 => dat1 true R16 fun a2 => dat1 true R5 fun a3 => dat1 false R3 fun a4 => dat1 false R3 fun a5 => dat0 (ansO sg23 (f23 n a0 a1 a2 a3 a4 a5) (((0 : Int), (0 : Int)), (0 : Int), false))
theorem sp23_ok {n : Nat} (h : CallOk Try.prog (tabF tl82 n)) : ∀ args r, sp23 n args = some (true, r) → FnOK Try.prog 23 args r := SpR.all (SpR.dat1 fun a0 => SpR.dat1 fun a1 => SpR.dat1 fun a2 => SpR.dat1 fun a3 => SpR.dat1 fun a4 => SpR.dat1 fun a5 => SpR.ansO fun y hy => fnT_ok (cx_ok h) (normal_ok _) Try.func23 (code_ok_of (cx_ok h) st23) ((f23_ev n a0 a1 a2 a3 a4 a5).trans hy))
noncomputable def tl83 : List (Nat × Sp) := (23, sp23) :: tl82
theorem tl83_ok (n : Nat) : CallOk Try.prog (tabF tl83 n) := tabF_cons (tl82_ok n) (known_of Try.func23 (by decide +kernel) (by kernel_rfl)) (sp23_ok (tl82_ok n))
/-! f6: sawmill/sawmilllaw20.WorthBests -/
abbrev sg6 : Sig := [(false, R0)]
noncomputable def h6 : List (Nat × List Keep) := hintsOf keeps 6
theorem st6 : fnSt Try.f6 = true := by kernel_rfl
theorem f6_ev (n : Nat) (a0 : List (Int × Int × List (Int × Int)) × List (Int × Int × Int × Int × Int × Int × Int) × ByteArray × Int × Int × Int × Int × List Int × List Int × Int) (a1 : Int × Int × Int × Int) (a2 : Int) : evT (cx tl83 n) h6 (n + 8) Try.f6 sg6 [encV true R4 a0, encV true R5 a1, encV false R3 a2] = f6 n a0 a1 a2 := by
  have h := (by kernel_rfl : evT (cx tl83 n) h6 (n + 8) Try.f6 sg6 [encV true R4 a0, encV true R5 a1, encV false R3 a2] = f6G n a0 a1 a2)
  exact h
noncomputable def sp6 : Sp := fun n => dat1 true R4 fun a0 => dat1 true R5 fun a1 => dat1 false R3 fun a2 => dat0 (ansO sg6 (f6 n a0 a1 a2) false)
theorem sp6_ok {n : Nat} (h : CallOk Try.prog (tabF tl83 n)) : ∀ args r, sp6 n args = some (true, r) → FnOK Try.prog 6 args r := SpR.all (SpR.dat1 fun a0 => SpR.dat1 fun a1 => SpR.dat1 fun a2 => SpR.ansO fun y hy => fnT_ok (cx_ok h) (normal_ok _) Try.func6 (code_ok_of (cx_ok h) st6) ((f6_ev n a0 a1 a2).trans hy))
noncomputable def tl84 : List (Nat × Sp) := (6, sp6) :: tl83
theorem tl84_ok (n : Nat) : CallOk Try.prog (tabF tl84 n) := tabF_cons (tl83_ok n) (known_of Try.func6 (by decide +kernel) (by kernel_rfl)) (sp6_ok (tl83_ok n))
end Go.Proofs.Ytdhgbgbdnifonaa.Ev
