/- The examples' function answers true: a closed run of the evaluator, and that the evaluator may be used on this program's functions. -/
import Derived.Test.YtcjhegiidnjepaaEvZ
import Derived.KernelRfl
namespace Go.Proofs.Ytcjhegiidnjepaa.Ev
set_option maxRecDepth 1000000
noncomputable def part0 : List (Nat × Func) := [(2, Try.f2), (3, Try.f3), (4, Try.f4), (5, Try.f5), (6, Try.f6), (7, Try.f7), (8, Try.f8), (9, Try.f9), (10, Try.f10), (11, Try.f11), (12, Try.f12), (13, Try.f13)]
theorem part0_st : (part0.all fun p => fnSt p.2 && p.2.body.isSome) = true := by kernel_rfl
theorem part0_nm : (part0.all fun p => p.2.name != "runtime.NumGoroutine") = true := by kernel_rfl
theorem part0_in : ∀ p ∈ part0, Try.prog.funcs[p.1]? = some p.2 := List.forall_mem_cons.2 ⟨Try.func2, List.forall_mem_cons.2 ⟨Try.func3, List.forall_mem_cons.2 ⟨Try.func4, List.forall_mem_cons.2 ⟨Try.func5, List.forall_mem_cons.2 ⟨Try.func6, List.forall_mem_cons.2 ⟨Try.func7, List.forall_mem_cons.2 ⟨Try.func8, List.forall_mem_cons.2 ⟨Try.func9, List.forall_mem_cons.2 ⟨Try.func10, List.forall_mem_cons.2 ⟨Try.func11, List.forall_mem_cons.2 ⟨Try.func12, List.forall_mem_cons.2 ⟨Try.func13, fun _ h => absurd h (List.not_mem_nil)⟩⟩⟩⟩⟩⟩⟩⟩⟩⟩⟩⟩
noncomputable def part1 : List (Nat × Func) := [(14, Try.f14), (15, Try.f15), (16, Try.f16), (17, Try.f17), (18, Try.f18), (19, Try.f19), (20, Try.f20), (21, Try.f21), (22, Try.f22), (23, Try.f23), (24, Try.f24), (25, Try.f25)]
theorem part1_st : (part1.all fun p => fnSt p.2 && p.2.body.isSome) = true := by kernel_rfl
theorem part1_nm : (part1.all fun p => p.2.name != "runtime.NumGoroutine") = true := by kernel_rfl
theorem part1_in : ∀ p ∈ part1, Try.prog.funcs[p.1]? = some p.2 := List.forall_mem_cons.2 ⟨Try.func14, List.forall_mem_cons.2 ⟨Try.func15, List.forall_mem_cons.2 ⟨Try.func16, List.forall_mem_cons.2 ⟨Try.func17, List.forall_mem_cons.2 ⟨Try.func18, List.forall_mem_cons.2 ⟨Try.func19, List.forall_mem_cons.2 ⟨Try.func20, List.forall_mem_cons.2 ⟨Try.func21, List.forall_mem_cons.2 ⟨Try.func22, List.forall_mem_cons.2 ⟨Try.func23, List.forall_mem_cons.2 ⟨Try.func24, List.forall_mem_cons.2 ⟨Try.func25, fun _ h => absurd h (List.not_mem_nil)⟩⟩⟩⟩⟩⟩⟩⟩⟩⟩⟩⟩
noncomputable def part2 : List (Nat × Func) := [(26, Try.f26), (27, Try.f27), (28, Try.f28), (29, Try.f29), (30, Try.f30), (31, Try.f31), (32, Try.f32), (33, Try.f33), (34, Try.f34), (35, Try.f35), (36, Try.f36), (37, Try.f37)]
theorem part2_st : (part2.all fun p => fnSt p.2 && p.2.body.isSome) = true := by kernel_rfl
theorem part2_nm : (part2.all fun p => p.2.name != "runtime.NumGoroutine") = true := by kernel_rfl
theorem part2_in : ∀ p ∈ part2, Try.prog.funcs[p.1]? = some p.2 := List.forall_mem_cons.2 ⟨Try.func26, List.forall_mem_cons.2 ⟨Try.func27, List.forall_mem_cons.2 ⟨Try.func28, List.forall_mem_cons.2 ⟨Try.func29, List.forall_mem_cons.2 ⟨Try.func30, List.forall_mem_cons.2 ⟨Try.func31, List.forall_mem_cons.2 ⟨Try.func32, List.forall_mem_cons.2 ⟨Try.func33, List.forall_mem_cons.2 ⟨Try.func34, List.forall_mem_cons.2 ⟨Try.func35, List.forall_mem_cons.2 ⟨Try.func36, List.forall_mem_cons.2 ⟨Try.func37, fun _ h => absurd h (List.not_mem_nil)⟩⟩⟩⟩⟩⟩⟩⟩⟩⟩⟩⟩
noncomputable def part3 : List (Nat × Func) := [(38, Try.f38), (39, Try.f39), (40, Try.f40), (41, Try.f41), (42, Try.f42), (43, Try.f43), (44, Try.f44), (45, Try.f45), (46, Try.f46), (47, Try.f47), (48, Try.f48), (49, Try.f49)]
theorem part3_st : (part3.all fun p => fnSt p.2 && p.2.body.isSome) = true := by kernel_rfl
theorem part3_nm : (part3.all fun p => p.2.name != "runtime.NumGoroutine") = true := by kernel_rfl
theorem part3_in : ∀ p ∈ part3, Try.prog.funcs[p.1]? = some p.2 := List.forall_mem_cons.2 ⟨Try.func38, List.forall_mem_cons.2 ⟨Try.func39, List.forall_mem_cons.2 ⟨Try.func40, List.forall_mem_cons.2 ⟨Try.func41, List.forall_mem_cons.2 ⟨Try.func42, List.forall_mem_cons.2 ⟨Try.func43, List.forall_mem_cons.2 ⟨Try.func44, List.forall_mem_cons.2 ⟨Try.func45, List.forall_mem_cons.2 ⟨Try.func46, List.forall_mem_cons.2 ⟨Try.func47, List.forall_mem_cons.2 ⟨Try.func48, List.forall_mem_cons.2 ⟨Try.func49, fun _ h => absurd h (List.not_mem_nil)⟩⟩⟩⟩⟩⟩⟩⟩⟩⟩⟩⟩
noncomputable def part4 : List (Nat × Func) := [(50, Try.f50), (51, Try.f51), (52, Try.f52), (53, Try.f53), (54, Try.f54), (55, Try.f55), (56, Try.f56), (57, Try.f57), (58, Try.f58), (59, Try.f59), (60, Try.f60), (61, Try.f61)]
theorem part4_st : (part4.all fun p => fnSt p.2 && p.2.body.isSome) = true := by kernel_rfl
theorem part4_nm : (part4.all fun p => p.2.name != "runtime.NumGoroutine") = true := by kernel_rfl
theorem part4_in : ∀ p ∈ part4, Try.prog.funcs[p.1]? = some p.2 := List.forall_mem_cons.2 ⟨Try.func50, List.forall_mem_cons.2 ⟨Try.func51, List.forall_mem_cons.2 ⟨Try.func52, List.forall_mem_cons.2 ⟨Try.func53, List.forall_mem_cons.2 ⟨Try.func54, List.forall_mem_cons.2 ⟨Try.func55, List.forall_mem_cons.2 ⟨Try.func56, List.forall_mem_cons.2 ⟨Try.func57, List.forall_mem_cons.2 ⟨Try.func58, List.forall_mem_cons.2 ⟨Try.func59, List.forall_mem_cons.2 ⟨Try.func60, List.forall_mem_cons.2 ⟨Try.func61, fun _ h => absurd h (List.not_mem_nil)⟩⟩⟩⟩⟩⟩⟩⟩⟩⟩⟩⟩
noncomputable def part5 : List (Nat × Func) := [(62, Try.f62), (63, Try.f63), (64, Try.f64), (65, Try.f65), (66, Try.f66), (67, Try.f67), (68, Try.f68), (69, Try.f69), (70, Try.f70), (71, Try.f71), (72, Try.f72), (73, Try.f73)]
theorem part5_st : (part5.all fun p => fnSt p.2 && p.2.body.isSome) = true := by kernel_rfl
theorem part5_nm : (part5.all fun p => p.2.name != "runtime.NumGoroutine") = true := by kernel_rfl
theorem part5_in : ∀ p ∈ part5, Try.prog.funcs[p.1]? = some p.2 := List.forall_mem_cons.2 ⟨Try.func62, List.forall_mem_cons.2 ⟨Try.func63, List.forall_mem_cons.2 ⟨Try.func64, List.forall_mem_cons.2 ⟨Try.func65, List.forall_mem_cons.2 ⟨Try.func66, List.forall_mem_cons.2 ⟨Try.func67, List.forall_mem_cons.2 ⟨Try.func68, List.forall_mem_cons.2 ⟨Try.func69, List.forall_mem_cons.2 ⟨Try.func70, List.forall_mem_cons.2 ⟨Try.func71, List.forall_mem_cons.2 ⟨Try.func72, List.forall_mem_cons.2 ⟨Try.func73, fun _ h => absurd h (List.not_mem_nil)⟩⟩⟩⟩⟩⟩⟩⟩⟩⟩⟩⟩
noncomputable def part6 : List (Nat × Func) := [(74, Try.f74), (75, Try.f75), (76, Try.f76), (77, Try.f77), (78, Try.f78), (79, Try.f79), (80, Try.f80), (81, Try.f81), (82, Try.f82), (83, Try.f83), (84, Try.f84), (85, Try.f85)]
theorem part6_st : (part6.all fun p => fnSt p.2 && p.2.body.isSome) = true := by kernel_rfl
theorem part6_nm : (part6.all fun p => p.2.name != "runtime.NumGoroutine") = true := by kernel_rfl
theorem part6_in : ∀ p ∈ part6, Try.prog.funcs[p.1]? = some p.2 := List.forall_mem_cons.2 ⟨Try.func74, List.forall_mem_cons.2 ⟨Try.func75, List.forall_mem_cons.2 ⟨Try.func76, List.forall_mem_cons.2 ⟨Try.func77, List.forall_mem_cons.2 ⟨Try.func78, List.forall_mem_cons.2 ⟨Try.func79, List.forall_mem_cons.2 ⟨Try.func80, List.forall_mem_cons.2 ⟨Try.func81, List.forall_mem_cons.2 ⟨Try.func82, List.forall_mem_cons.2 ⟨Try.func83, List.forall_mem_cons.2 ⟨Try.func84, List.forall_mem_cons.2 ⟨Try.func85, fun _ h => absurd h (List.not_mem_nil)⟩⟩⟩⟩⟩⟩⟩⟩⟩⟩⟩⟩
noncomputable def part7 : List (Nat × Func) := [(86, Try.f86), (87, Try.f87), (88, Try.f88), (89, Try.f89), (90, Try.f90), (91, Try.f91), (92, Try.f92), (93, Try.f93)]
theorem part7_st : (part7.all fun p => fnSt p.2 && p.2.body.isSome) = true := by kernel_rfl
theorem part7_nm : (part7.all fun p => p.2.name != "runtime.NumGoroutine") = true := by kernel_rfl
theorem part7_in : ∀ p ∈ part7, Try.prog.funcs[p.1]? = some p.2 := List.forall_mem_cons.2 ⟨Try.func86, List.forall_mem_cons.2 ⟨Try.func87, List.forall_mem_cons.2 ⟨Try.func88, List.forall_mem_cons.2 ⟨Try.func89, List.forall_mem_cons.2 ⟨Try.func90, List.forall_mem_cons.2 ⟨Try.func91, List.forall_mem_cons.2 ⟨Try.func92, List.forall_mem_cons.2 ⟨Try.func93, fun _ h => absurd h (List.not_mem_nil)⟩⟩⟩⟩⟩⟩⟩⟩
theorem funs_eq : env.F = part0 ++ (part1 ++ (part2 ++ (part3 ++ (part4 ++ (part5 ++ (part6 ++ (part7))))))) := by kernel_rfl
theorem env_fine : EnvOk Try.prog env := by
  have hin : ∀ p ∈ env.F, Try.prog.funcs[p.1]? = some p.2 ∧ fnSt p.2 = true ∧ p.2.name ≠ "runtime.NumGoroutine" := by
    intro p hp
    rw [funs_eq] at hp
    simp only [List.mem_append] at hp
    rcases hp with hp | hp | hp | hp | hp | hp | hp | hp
    · have h1 := List.all_eq_true.1 part0_st p hp
      have h2 := List.all_eq_true.1 part0_nm p hp
      simp only [Bool.and_eq_true] at h1
      exact ⟨part0_in p hp, h1.1, by simpa using h2⟩
    · have h1 := List.all_eq_true.1 part1_st p hp
      have h2 := List.all_eq_true.1 part1_nm p hp
      simp only [Bool.and_eq_true] at h1
      exact ⟨part1_in p hp, h1.1, by simpa using h2⟩
    · have h1 := List.all_eq_true.1 part2_st p hp
      have h2 := List.all_eq_true.1 part2_nm p hp
      simp only [Bool.and_eq_true] at h1
      exact ⟨part2_in p hp, h1.1, by simpa using h2⟩
    · have h1 := List.all_eq_true.1 part3_st p hp
      have h2 := List.all_eq_true.1 part3_nm p hp
      simp only [Bool.and_eq_true] at h1
      exact ⟨part3_in p hp, h1.1, by simpa using h2⟩
    · have h1 := List.all_eq_true.1 part4_st p hp
      have h2 := List.all_eq_true.1 part4_nm p hp
      simp only [Bool.and_eq_true] at h1
      exact ⟨part4_in p hp, h1.1, by simpa using h2⟩
    · have h1 := List.all_eq_true.1 part5_st p hp
      have h2 := List.all_eq_true.1 part5_nm p hp
      simp only [Bool.and_eq_true] at h1
      exact ⟨part5_in p hp, h1.1, by simpa using h2⟩
    · have h1 := List.all_eq_true.1 part6_st p hp
      have h2 := List.all_eq_true.1 part6_nm p hp
      simp only [Bool.and_eq_true] at h1
      exact ⟨part6_in p hp, h1.1, by simpa using h2⟩
    · have h1 := List.all_eq_true.1 part7_st p hp
      have h2 := List.all_eq_true.1 part7_nm p hp
      simp only [Bool.and_eq_true] at h1
      exact ⟨part7_in p hp, h1.1, by simpa using h2⟩
  refine ⟨tab_ok, fun f fn hf => ?_, fun f fn c hf hc C hT hC => ?_, normal_ok⟩
  · have := hin _ (get_mem hf)
    exact ⟨this.1, this.2.2⟩
  · have := (hin _ (get_mem hf)).2.1
    exact code_ok_of hC this c hc
end Go.Proofs.Ytcjhegiidnjepaa.Ev
