/- The program's functions as plain Lean functions, written by a program out of the translation. Definitions, and that those without a loop always answer. -/
import Derived.Test.YtdhgbgbdnifonaaEv1
namespace Go.Proofs.Ytdhgbgbdnifonaa.Ev
set_option linter.unusedVariables false
set_option linter.unusedSimpArgs false
set_option maxRecDepth 100000
theorem cond_some {α : Type} (c : Bool) (x y : α) : (bif c then some x else some y) = some (bif c then x else y) := by cases c <;> rfl
/-! f29: sawmill/worth.from -/
def f29 (a0 : Int) (a1 : Int) (a2 : Int) : Bool :=
  bif decide (a1 ≤ a0) then
    decide (a0 ≤ a2)
  else
    false
def f29O (a0 : Int) (a1 : Int) (a2 : Int) : Option (Bool) :=
  bif decide (a1 ≤ a0) then
    some (decide (a0 ≤ a2))
  else
    some false
theorem f29_o (a0 : Int) (a1 : Int) (a2 : Int) : f29O a0 a1 a2 = some (f29 a0 a1 a2) := by
  unfold f29O f29
  first | rfl | (simp only [cond_some]) | (simp only [cond_some]; rfl)
/-! f11: sawmill/worth.Check -/
def f11 (a0 : Int × Int × Int × Int) (a1 : Int × Int × Int) : Int :=
  let v1 : Bool := f29 a0.1 0 20
  bif v1 then
    let v2 : Bool := f29 a0.2.1 0 20
    bif v2 then
      let v3 : Bool := f29 a0.2.2.1 1 2000
      bif v3 then
        let v4 : Bool := f29 a0.2.2.2 1 20000
        bif v4 then
          let v5 : Bool := f29 a1.1 0 1000
          bif v5 then
            let v6 : Bool := f29 a1.2.1 0 1000
            bif v6 then
              let v7 : Bool := f29 a1.2.2 0 1000000
              bif v7 then
                0
              else
                9
            else
              9
          else
            9
        else
          9
      else
        9
    else
      9
  else
    9
def f11O (a0 : Int × Int × Int × Int) (a1 : Int × Int × Int) : Option (Int) :=
  let v1 : Bool := f29 a0.1 0 20
  bif v1 then
    let v2 : Bool := f29 a0.2.1 0 20
    bif v2 then
      let v3 : Bool := f29 a0.2.2.1 1 2000
      bif v3 then
        let v4 : Bool := f29 a0.2.2.2 1 20000
        bif v4 then
          let v5 : Bool := f29 a1.1 0 1000
          bif v5 then
            let v6 : Bool := f29 a1.2.1 0 1000
            bif v6 then
              let v7 : Bool := f29 a1.2.2 0 1000000
              bif v7 then
                some 0
              else
                some 9
            else
              some 9
          else
            some 9
        else
          some 9
      else
        some 9
    else
      some 9
  else
    some 9
theorem f11_o (a0 : Int × Int × Int × Int) (a1 : Int × Int × Int) : f11O a0 a1 = some (f11 a0 a1) := by
  unfold f11O f11
  first | rfl | (simp only [cond_some]) | (simp only [cond_some]; rfl)
/-! f30: sawmill/sawmillref20.from -/
def f30 (a0 : Int) (a1 : Int) (a2 : Int) : Bool :=
  bif decide (a0 ≥ a1) then
    decide (a0 ≤ a2)
  else
    false
def f30O (a0 : Int) (a1 : Int) (a2 : Int) : Option (Bool) :=
  bif decide (a0 ≥ a1) then
    some (decide (a0 ≤ a2))
  else
    some false
theorem f30_o (a0 : Int) (a1 : Int) (a2 : Int) : f30O a0 a1 a2 = some (f30 a0 a1 a2) := by
  unfold f30O f30
  first | rfl | (simp only [cond_some]) | (simp only [cond_some]; rfl)
/-! f12: sawmill/sawmillref20.Check -/
def f12 (a0 : Int × Int × Int × Int) (a1 : Int × Int × Int) : Int :=
  let v1 : Bool := f30 a0.1 0 20
  bif (!v1) then
    9
  else
    let v2 : Bool := f30 a0.2.1 0 20
    bif (!v2) then
      9
    else
      let v3 : Bool := f30 a0.2.2.1 1 2000
      bif (!v3) then
        9
      else
        let v4 : Bool := f30 a0.2.2.2 1 20000
        bif (!v4) then
          9
        else
          let v5 : Bool := f30 a1.1 0 1000
          bif (!v5) then
            9
          else
            let v6 : Bool := f30 a1.2.1 0 1000
            bif (!v6) then
              9
            else
              let v7 : Bool := f30 a1.2.2 0 1000000
              bif (!v7) then
                9
              else
                0
def f12O (a0 : Int × Int × Int × Int) (a1 : Int × Int × Int) : Option (Int) :=
  let v1 : Bool := f30 a0.1 0 20
  bif (!v1) then
    some 9
  else
    let v2 : Bool := f30 a0.2.1 0 20
    bif (!v2) then
      some 9
    else
      let v3 : Bool := f30 a0.2.2.1 1 2000
      bif (!v3) then
        some 9
      else
        let v4 : Bool := f30 a0.2.2.2 1 20000
        bif (!v4) then
          some 9
        else
          let v5 : Bool := f30 a1.1 0 1000
          bif (!v5) then
            some 9
          else
            let v6 : Bool := f30 a1.2.1 0 1000
            bif (!v6) then
              some 9
            else
              let v7 : Bool := f30 a1.2.2 0 1000000
              bif (!v7) then
                some 9
              else
                some 0
theorem f12_o (a0 : Int × Int × Int × Int) (a1 : Int × Int × Int) : f12O a0 a1 = some (f12 a0 a1) := by
  unfold f12O f12
  first | rfl | (simp only [cond_some]) | (simp only [cond_some]; rfl)
/-! f3: sawmill/sawmilllaw20.WorthChecks -/
def f3 (a0 : Int × Int × Int × Int) (a1 : Int × Int × Int) : Bool :=
  let v1 : Int := f11 a0 a1
  let v2 : Int := f12 a0 a1
  bif (v1 == v2) then
    true
  else
    false
def f3O (a0 : Int × Int × Int × Int) (a1 : Int × Int × Int) : Option (Bool) :=
  let v1 : Int := f11 a0 a1
  let v2 : Int := f12 a0 a1
  bif (v1 == v2) then
    some true
  else
    some false
theorem f3_o (a0 : Int × Int × Int × Int) (a1 : Int × Int × Int) : f3O a0 a1 = some (f3 a0 a1) := by
  unfold f3O f3
  first | rfl | (simp only [cond_some]) | (simp only [cond_some]; rfl)
/-- What is left to show of WorthChecks. -/
def WorthChecksLaw : Prop := ∀ (a0 : Int × Int × Int × Int) (a1 : Int × Int × Int), ((Lit.int .i64 a0.1).wf = true ∧ (Lit.int .i64 a0.2.1).wf = true ∧ (Lit.int .i64 a0.2.2.1).wf = true ∧ (Lit.int .i64 a0.2.2.2).wf = true) → ((Lit.int .i64 a1.1).wf = true ∧ (Lit.int .i64 a1.2.1).wf = true ∧ (Lit.int .i64 a1.2.2).wf = true) → f3 a0 a1 = true
end Go.Proofs.Ytdhgbgbdnifonaa.Ev
