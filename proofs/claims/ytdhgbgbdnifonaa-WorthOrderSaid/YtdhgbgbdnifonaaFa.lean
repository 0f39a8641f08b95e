/- The program's functions as plain Lean functions, part 2, written by a program out of the translation. Definitions; that those without a loop always answer; that loops along a list are recursions over it. -/
import Derived.Test.YtdhgbgbdnifonaaFa0
namespace Go.Proofs.Ytdhgbgbdnifonaa.Ev
set_option linter.unusedVariables false
set_option linter.unusedSimpArgs false
set_option maxRecDepth 100000
/-! f23: sawmill/sawmillref20.Best -/
def f23L8G (n : Nat) (a0 : List (Int × Int × List (Int × Int))) (a1 : List (Int × Int × Int × Int × Int × Int × Int)) (a4 : Int) (a5 : Int) (v72 : Int) (a2 : ByteArray × Int × Int × Int × Int × List Int × List Int) (a3 : Int × Int × Int × Int) (v83 : Int) (v84 : Bool) (v85 : Int) (v86 : Int) (v87 : Int) (kc : Int → Bool → Int → Int → Int → Option ((Int × Int) × Int × Bool)) (k2 : Int → Bool → Int → Int → Option ((Int × Int) × Int × Bool)) : Option ((Int × Int) × Int × Bool) :=
  bif decide (v85 < (a2.2.2.2.2.2.1.length : Int)) then
    chk (decide ((0 : Int) ≤ v85)) <|
    chk (decide (v85 < (a2.2.2.2.2.2.1.length : Int))) <|
    let v88 : Int := a2.2.2.2.2.2.1.getD (Int.toNat v85) (0 : Int)
    let v89 : Int := IntKind.i64.wrap (v72 + v88)
    let v90 : Option (Bool) := f40 n a0 a1 a2 (a3.1, a3.2.1, a3.2.2.1, a3.2.2.2, v72, v89)
    chk (v90.isSome) <|
    let v91 : Bool := v90.getD false
    bif (!v91) then
      let v92 : Int := IntKind.i64.wrap (v85 + 1)
      kc v83 v84 v92 v86 v87
    else
      let v93 : Option (Int) := f38 n a1 a2 (a3.1, a3.2.1, a3.2.2.1, a3.2.2.2, v72, v89) a5
      chk (v93.isSome) <|
      let v94 : Int := v93.getD (0 : Int)
      bif (!v84) then
        let v95 : Int := IntKind.i64.wrap (v85 + 1)
        kc v94 true v95 v72 v89
      else
        bif decide (v94 > v83) then
          let v96 : Int := IntKind.i64.wrap (v85 + 1)
          kc v94 true v96 v72 v89
        else
          let v97 : Int := IntKind.i64.wrap (v85 + 1)
          kc v83 v84 v97 v86 v87
  else
    k2 v83 v84 v86 v87
def f23L8 (n : Nat) (a0 : List (Int × Int × List (Int × Int))) (a1 : List (Int × Int × Int × Int × Int × Int × Int)) (a4 : Int) (a5 : Int) (v72 : Int) (a2 : ByteArray × Int × Int × Int × Int × List Int × List Int) (a3 : Int × Int × Int × Int) : Nat → Int → Bool → Int → Int → Int → ((Int → Bool → Int → Int → Option ((Int × Int) × Int × Bool))) → Option ((Int × Int) × Int × Bool)
  | 0, _, _, _, _, _, _ => none
  | m + 1, v83, v84, v85, v86, v87, k2 => f23L8G n a0 a1 a4 a5 v72 a2 a3 v83 v84 v85 v86 v87 (fun v83 v84 v85 v86 v87 => f23L8 n a0 a1 a4 a5 v72 a2 a3 m v83 v84 v85 v86 v87 k2) k2
def f23L8B (n : Nat) (a0 : List (Int × Int × List (Int × Int))) (a1 : List (Int × Int × Int × Int × Int × Int × Int)) (a4 : Int) (a5 : Int) (v72 : Int) (a2 : ByteArray × Int × Int × Int × Int × List Int × List Int) (a3 : Int × Int × Int × Int) (x85 : Int) (v85 : Int) (v83 : Int) (v84 : Bool) (v86 : Int) (v87 : Int) (kc : Int → Bool → Int → Int → Option ((Int × Int) × Int × Bool)) (k2 : Int → Bool → Int → Int → Option ((Int × Int) × Int × Bool)) : Option ((Int × Int) × Int × Bool) :=
  let v89 : Int := IntKind.i64.wrap (v72 + x85)
  let v90 : Option (Bool) := f40 n a0 a1 a2 (a3.1, a3.2.1, a3.2.2.1, a3.2.2.2, v72, v89)
  chk (v90.isSome) <|
  let v91 : Bool := v90.getD false
  bif (!v91) then
    kc v83 v84 v86 v87
  else
    let v93 : Option (Int) := f38 n a1 a2 (a3.1, a3.2.1, a3.2.2.1, a3.2.2.2, v72, v89) a5
    chk (v93.isSome) <|
    let v94 : Int := v93.getD (0 : Int)
    bif (!v84) then
      kc v94 true v72 v89
    else
      bif decide (v94 > v83) then
        kc v94 true v72 v89
      else
        kc v83 v84 v86 v87
def f23L8F (n : Nat) (a0 : List (Int × Int × List (Int × Int))) (a1 : List (Int × Int × Int × Int × Int × Int × Int)) (a4 : Int) (a5 : Int) (v72 : Int) (a2 : ByteArray × Int × Int × Int × Int × List Int × List Int) (a3 : Int × Int × Int × Int) (k2 : Int → Bool → Int → Int → Option ((Int × Int) × Int × Bool)) : List (Int) → Nat → Int → Bool → Int → Int → Option ((Int × Int) × Int × Bool)
  | [], j, v83, v84, v86, v87 =>
    let v85 : Int := (j : Int)
    k2 v83 v84 v86 v87
  | x85 :: r, j, v83, v84, v86, v87 => f23L8B n a0 a1 a4 a5 v72 a2 a3 x85 (j : Int) v83 v84 v86 v87 (fun v83 v84 v86 v87 => f23L8F n a0 a1 a4 a5 v72 a2 a3 k2 r (j + 1) v83 v84 v86 v87) k2
theorem f23L8_eq (n : Nat) (a0 : List (Int × Int × List (Int × Int))) (a1 : List (Int × Int × Int × Int × Int × Int × Int)) (a4 : Int) (a5 : Int) (v72 : Int) (a2 : ByteArray × Int × Int × Int × Int × List Int × List Int) (a3 : Int × Int × Int × Int) (k2 : Int → Bool → Int → Int → Option ((Int × Int) × Int × Bool)) (hl : a2.2.2.2.2.2.1.length < 4611686018427387904) : ∀ (r : List (Int)) (m j : Nat) (v83 : Int) (v84 : Bool) (v86 : Int) (v87 : Int), a2.2.2.2.2.2.1.drop j = r → r.length < m → f23L8 n a0 a1 a4 a5 v72 a2 a3 m v83 v84 (j : Int) v86 v87 k2 = f23L8F n a0 a1 a4 a5 v72 a2 a3 k2 r j v83 v84 v86 v87 := by
  intro r
  induction r with
  | nil =>
    intro m j v83 v84 v86 v87 h hm
    obtain ⟨m, rfl⟩ : ∃ q, m = q + 1 := ⟨m - 1, by omega⟩
    have h1 := drop_none h
    have c1 : decide ((j : Int) < (a2.2.2.2.2.2.1.length : Int)) = false := decide_eq_false (by omega)
    simp only [f23L8, f23L8G, f23L8F, c1, cond_false]
  | cons x r ih =>
    intro m j v83 v84 v86 v87 h hm
    obtain ⟨m, rfl⟩ : ∃ q, m = q + 1 := ⟨m - 1, by omega⟩
    obtain ⟨h1, h2, h3⟩ := drop_cons h
    have hm' : r.length < m := by simp only [List.length_cons] at hm; omega
    have c1 : decide ((j : Int) < (a2.2.2.2.2.2.1.length : Int)) = true := decide_eq_true (by omega)
    have c2 : decide ((0 : Int) ≤ (j : Int)) = true := decide_eq_true (by omega)
    have c3 : IntKind.i64.wrap ((j : Int) + 1) = ((j + 1 : Nat) : Int) := wrap_succ (by omega)
    have ih' := fun v83 v84 v86 v87 => ih m (j + 1) v83 v84 v86 v87 h3 hm'
    simp only [f23L8, f23L8G, f23L8F, f23L8B, c1, c2, c3, cond_true, chk_true, Int.toNat_natCast, h2, ih']
theorem f23L8_at (n : Nat) (a0 : List (Int × Int × List (Int × Int))) (a1 : List (Int × Int × Int × Int × Int × Int × Int)) (a4 : Int) (a5 : Int) (v72 : Int) (a2 : ByteArray × Int × Int × Int × Int × List Int × List Int) (a3 : Int × Int × Int × Int) (k2 : Int → Bool → Int → Int → Option ((Int × Int) × Int × Bool)) (hl : a2.2.2.2.2.2.1.length < 4611686018427387904) (hn : a2.2.2.2.2.2.1.length < n + 8) (v83 : Int) (v84 : Bool) (v86 : Int) (v87 : Int) : f23L8 n a0 a1 a4 a5 v72 a2 a3 (n + 8) v83 v84 0 v86 v87 k2 = f23L8F n a0 a1 a4 a5 v72 a2 a3 k2 a2.2.2.2.2.2.1 0 v83 v84 v86 v87 := f23L8_eq n a0 a1 a4 a5 v72 a2 a3 k2 hl a2.2.2.2.2.2.1 (n + 8) 0 v83 v84 v86 v87 rfl hn
def f23L5G (n : Nat) (a0 : List (Int × Int × List (Int × Int))) (a1 : List (Int × Int × Int × Int × Int × Int × Int)) (a4 : Int) (a5 : Int) (a2 : ByteArray × Int × Int × Int × Int × List Int × List Int) (a3 : Int × Int × Int × Int) (lp8 : (List (Int × Int × List (Int × Int))) → (List (Int × Int × Int × Int × Int × Int × Int)) → Int → Int → Int → (ByteArray × Int × Int × Int × Int × List Int × List Int) → (Int × Int × Int × Int) → Int → Bool → Int → Int → Int → ((Int → Bool → Int → Int → Option ((Int × Int) × Int × Bool))) → Option ((Int × Int) × Int × Bool)) (v70 : Int) (v71 : Bool) (v72 : Int) (v73 : Int) (v74 : Int) (kc : Int → Bool → Int → Int → Int → Option ((Int × Int) × Int × Bool)) (k0 : Int → Bool → Int → Int → Option ((Int × Int) × Int × Bool)) : Option ((Int × Int) × Int × Bool) :=
  let v75 : Option (Int) := f42 n a0
  chk (v75.isSome) <|
  let v76 : Int := v75.getD (0 : Int)
  bif decide (v72 < v76) then
    lp8 a0 a1 a4 a5 v72 a2 a3 v70 v71 (0 : Int) v73 v74 (fun v102 v103 v104 v105 =>
        let v106 : Int := IntKind.i64.wrap (v72 + a4)
        kc v102 v103 v106 v104 v105)
  else
    k0 v70 v71 v73 v74
def f23L5 (n : Nat) (a0 : List (Int × Int × List (Int × Int))) (a1 : List (Int × Int × Int × Int × Int × Int × Int)) (a4 : Int) (a5 : Int) (a2 : ByteArray × Int × Int × Int × Int × List Int × List Int) (a3 : Int × Int × Int × Int) : Nat → Int → Bool → Int → Int → Int → ((Int → Bool → Int → Int → Option ((Int × Int) × Int × Bool))) → Option ((Int × Int) × Int × Bool)
  | 0, _, _, _, _, _, _ => none
  | m + 1, v70, v71, v72, v73, v74, k0 => f23L5G n a0 a1 a4 a5 a2 a3 (fun a0 a1 a4 a5 v72 a2 a3 => f23L8 n a0 a1 a4 a5 v72 a2 a3 (n + 8)) v70 v71 v72 v73 v74 (fun v70 v71 v72 v73 v74 => f23L5 n a0 a1 a4 a5 a2 a3 m v70 v71 v72 v73 v74 k0) k0
def f23G (n : Nat) (a0 : List (Int × Int × List (Int × Int))) (a1 : List (Int × Int × Int × Int × Int × Int × Int)) (a2 : ByteArray × Int × Int × Int × Int × List Int × List Int) (a3 : Int × Int × Int × Int) (a4 : Int) (a5 : Int) (lp5 : (List (Int × Int × List (Int × Int))) → (List (Int × Int × Int × Int × Int × Int × Int)) → Int → Int → (ByteArray × Int × Int × Int × Int × List Int × List Int) → (Int × Int × Int × Int) → Int → Bool → Int → Int → Int → ((Int → Bool → Int → Int → Option ((Int × Int) × Int × Bool))) → Option ((Int × Int) × Int × Bool)) : Option ((Int × Int) × Int × Bool) :=
  let v1 : Bool := f30 a4 1 20000
  bif (!v1) then
    some ((0, 0), 0, false)
  else
    let v2 : Bool := f30 a5 0 1000000
    bif (!v2) then
      some ((0, 0), 0, false)
    else
      let v3 : Option (Bool) := f39 n a0 a1 a2
      chk (v3.isSome) <|
      let v4 : Bool := v3.getD false
      bif (!v4) then
        some ((0, 0), 0, false)
      else
        lp5 a0 a1 a4 a5 a2 a3 (0 : Int) false (0 : Int) (0 : Int) (0 : Int) (fun v111 v112 v113 v114 =>
            some ((v113, v114), v111, v112))
def f23 (n : Nat) (a0 : List (Int × Int × List (Int × Int))) (a1 : List (Int × Int × Int × Int × Int × Int × Int)) (a2 : ByteArray × Int × Int × Int × Int × List Int × List Int) (a3 : Int × Int × Int × Int) (a4 : Int) (a5 : Int) : Option ((Int × Int) × Int × Bool) := f23G n a0 a1 a2 a3 a4 a5 (fun a0 a1 a4 a5 a2 a3 => f23L5 n a0 a1 a4 a5 a2 a3 (n + 8))
/-! f6: sawmill/sawmilllaw20.WorthBests -/
def f6G (n : Nat) (a0 : List (Int × Int × List (Int × Int)) × List (Int × Int × Int × Int × Int × Int × Int) × ByteArray × Int × Int × Int × Int × List Int × List Int × Int) (a1 : Int × Int × Int × Int) (a2 : Int) : Option (Bool) :=
  let v1 : Option (Bool) := f14 n a0
  chk (v1.isSome) <|
  let v2 : Bool := v1.getD false
  bif (!v2) then
    some true
  else
    let v3 : Bool := f21 a2
    bif (!v3) then
      some true
    else
      let v4 : Option ((Int × Int) × Int × Bool) := f22 n a0 a1 a2
      chk (v4.isSome) <|
      let v5 : (Int × Int) × Int × Bool := v4.getD (((0 : Int), (0 : Int)), (0 : Int), false)
      let v6 : Option ((Int × Int) × Int × Bool) := f23 n a0.1 a0.2.1 (a0.2.2.1, a0.2.2.2.1, a0.2.2.2.2.1, a0.2.2.2.2.2.1, a0.2.2.2.2.2.2.1, a0.2.2.2.2.2.2.2.1, a0.2.2.2.2.2.2.2.2.1) a1 a2 a0.2.2.2.2.2.2.2.2.2
      chk (v6.isSome) <|
      let v7 : (Int × Int) × Int × Bool := v6.getD (((0 : Int), (0 : Int)), (0 : Int), false)
      bif ((v5.1.1 == v7.1.1) && ((v5.1.2 == v7.1.2) && true)) then
        bif (v5.2.1 == v7.2.1) then
          bif (v5.2.2 == v7.2.2) then
            some true
          else
            some false
        else
          some false
      else
        some false
def f6 (n : Nat) (a0 : List (Int × Int × List (Int × Int)) × List (Int × Int × Int × Int × Int × Int × Int) × ByteArray × Int × Int × Int × Int × List Int × List Int × Int) (a1 : Int × Int × Int × Int) (a2 : Int) : Option (Bool) := f6G n a0 a1 a2
/-! f7: sawmill/sawmilllaw20.WorthBest -/
def f7G (n : Nat) (a0 : List (Int × Int × List (Int × Int)) × List (Int × Int × Int × Int × Int × Int × Int) × ByteArray × Int × Int × Int × Int × List Int × List Int × Int) (a1 : Int × Int × Int × Int) (a2 : Int × Int × Int) : Option (Bool) :=
  let v1 : Option (Bool) := f14 n a0
  chk (v1.isSome) <|
  let v2 : Bool := v1.getD false
  bif (!v2) then
    some true
  else
    let v3 : Bool := f21 a2.1
    bif (!v3) then
      some true
    else
      let v4 : Option ((Int × Int) × Int × Bool) := f22 n a0 a1 a2.1
      chk (v4.isSome) <|
      let v5 : (Int × Int) × Int × Bool := v4.getD (((0 : Int), (0 : Int)), (0 : Int), false)
      let v6 : Option (Int × Bool) := f17 n a0 (a1.1, a1.2.1, a1.2.2.1, a1.2.2.2, v5.1.1, v5.1.2)
      chk (v6.isSome) <|
      let v7 : Int × Bool := v6.getD ((0 : Int), false)
      bif v5.2.2 then
        bif (!v7.2) then
          some false
        else
          bif (v7.1 != v5.2.1) then
            some false
          else
            bif decide (a2.1 < 1) then
              some false
            else
              chk (!decide (a2.1 = 0)) <|
              let v8 : Int := v5.1.1.tmod a2.1
              bif (v8 != 0) then
                some false
              else
                bif (!v5.2.2) then
                  bif (v5.2.1 != 0) then
                    some false
                  else
                    bif (!((v5.1.1 == 0) && ((v5.1.2 == 0) && true))) then
                      some false
                    else
                      bif decide (a2.1 < 1) then
                        some true
                      else
                        bif decide (a2.1 > 20000) then
                          some true
                        else
                          bif decide (a2.2.1 < 0) then
                            some true
                          else
                            bif decide (a2.2.1 > 20000) then
                              some true
                            else
                              bif ((a0.2.2.2.2.2.2.2.1.length : Int) == 0) then
                                some true
                              else
                                chk (!decide (a2.1 = 0)) <|
                                let v9 : Int := IntKind.i64.wrap (a2.2.1.tdiv a2.1)
                                let v10 : Int := IntKind.i64.wrap (v9 * a2.1)
                                let v11 : Int := IntKind.u64.wrap a2.2.2
                                let v12 : Int := IntKind.u64.wrap (a0.2.2.2.2.2.2.2.1.length : Int)
                                chk (!decide (v12 = 0)) <|
                                let v13 : Int := v11.tmod v12
                                let v14 : Int := IntKind.i64.wrap v13
                                chk (decide ((0 : Int) ≤ v14)) <|
                                chk (decide (v14 < (a0.2.2.2.2.2.2.2.1.length : Int))) <|
                                let v15 : Int := a0.2.2.2.2.2.2.2.1.getD (Int.toNat v14) (0 : Int)
                                bif decide (v15 < 0) then
                                  some true
                                else
                                  bif decide (v15 > 20000) then
                                    some true
                                  else
                                    let v16 : Int := IntKind.i64.wrap (v10 + v15)
                                    let v17 : Option (Int × Bool) := f17 n a0 (a1.1, a1.2.1, a1.2.2.1, a1.2.2.2, v10, v16)
                                    chk (v17.isSome) <|
                                    let v18 : Int × Bool := v17.getD ((0 : Int), false)
                                    bif (!v18.2) then
                                      bif (v18.1 == 0) then
                                        some true
                                      else
                                        some false
                                    else
                                      bif (!v5.2.2) then
                                        some false
                                      else
                                        bif decide (v18.1 > v5.2.1) then
                                          some false
                                        else
                                          bif decide (v18.1 < v5.2.1) then
                                            some true
                                          else
                                            bif decide (v5.1.1 < v10) then
                                              some true
                                            else
                                              bif (v5.1.1 == v10) then
                                                let v19 : Int := IntKind.i64.wrap (v10 + v15)
                                                bif decide (v5.1.2 ≤ v19) then
                                                  some true
                                                else
                                                  some false
                                              else
                                                some false
                else
                  bif decide (a2.1 < 1) then
                    some true
                  else
                    bif decide (a2.1 > 20000) then
                      some true
                    else
                      bif decide (a2.2.1 < 0) then
                        some true
                      else
                        bif decide (a2.2.1 > 20000) then
                          some true
                        else
                          bif ((a0.2.2.2.2.2.2.2.1.length : Int) == 0) then
                            some true
                          else
                            chk (!decide (a2.1 = 0)) <|
                            let v20 : Int := IntKind.i64.wrap (a2.2.1.tdiv a2.1)
                            let v21 : Int := IntKind.i64.wrap (v20 * a2.1)
                            let v22 : Int := IntKind.u64.wrap a2.2.2
                            let v23 : Int := IntKind.u64.wrap (a0.2.2.2.2.2.2.2.1.length : Int)
                            chk (!decide (v23 = 0)) <|
                            let v24 : Int := v22.tmod v23
                            let v25 : Int := IntKind.i64.wrap v24
                            chk (decide ((0 : Int) ≤ v25)) <|
                            chk (decide (v25 < (a0.2.2.2.2.2.2.2.1.length : Int))) <|
                            let v26 : Int := a0.2.2.2.2.2.2.2.1.getD (Int.toNat v25) (0 : Int)
                            bif decide (v26 < 0) then
                              some true
                            else
                              bif decide (v26 > 20000) then
                                some true
                              else
                                let v27 : Int := IntKind.i64.wrap (v21 + v26)
                                let v28 : Option (Int × Bool) := f17 n a0 (a1.1, a1.2.1, a1.2.2.1, a1.2.2.2, v21, v27)
                                chk (v28.isSome) <|
                                let v29 : Int × Bool := v28.getD ((0 : Int), false)
                                bif (!v29.2) then
                                  bif (v29.1 == 0) then
                                    some true
                                  else
                                    some false
                                else
                                  bif (!v5.2.2) then
                                    some false
                                  else
                                    bif decide (v29.1 > v5.2.1) then
                                      some false
                                    else
                                      bif decide (v29.1 < v5.2.1) then
                                        some true
                                      else
                                        bif decide (v5.1.1 < v21) then
                                          some true
                                        else
                                          bif (v5.1.1 == v21) then
                                            let v30 : Int := IntKind.i64.wrap (v21 + v26)
                                            bif decide (v5.1.2 ≤ v30) then
                                              some true
                                            else
                                              some false
                                          else
                                            some false
      else
        bif (!v5.2.2) then
          bif (v5.2.1 != 0) then
            some false
          else
            bif (!((v5.1.1 == 0) && ((v5.1.2 == 0) && true))) then
              some false
            else
              bif decide (a2.1 < 1) then
                some true
              else
                bif decide (a2.1 > 20000) then
                  some true
                else
                  bif decide (a2.2.1 < 0) then
                    some true
                  else
                    bif decide (a2.2.1 > 20000) then
                      some true
                    else
                      bif ((a0.2.2.2.2.2.2.2.1.length : Int) == 0) then
                        some true
                      else
                        chk (!decide (a2.1 = 0)) <|
                        let v31 : Int := IntKind.i64.wrap (a2.2.1.tdiv a2.1)
                        let v32 : Int := IntKind.i64.wrap (v31 * a2.1)
                        let v33 : Int := IntKind.u64.wrap a2.2.2
                        let v34 : Int := IntKind.u64.wrap (a0.2.2.2.2.2.2.2.1.length : Int)
                        chk (!decide (v34 = 0)) <|
                        let v35 : Int := v33.tmod v34
                        let v36 : Int := IntKind.i64.wrap v35
                        chk (decide ((0 : Int) ≤ v36)) <|
                        chk (decide (v36 < (a0.2.2.2.2.2.2.2.1.length : Int))) <|
                        let v37 : Int := a0.2.2.2.2.2.2.2.1.getD (Int.toNat v36) (0 : Int)
                        bif decide (v37 < 0) then
                          some true
                        else
                          bif decide (v37 > 20000) then
                            some true
                          else
                            let v38 : Int := IntKind.i64.wrap (v32 + v37)
                            let v39 : Option (Int × Bool) := f17 n a0 (a1.1, a1.2.1, a1.2.2.1, a1.2.2.2, v32, v38)
                            chk (v39.isSome) <|
                            let v40 : Int × Bool := v39.getD ((0 : Int), false)
                            bif (!v40.2) then
                              bif (v40.1 == 0) then
                                some true
                              else
                                some false
                            else
                              bif (!v5.2.2) then
                                some false
                              else
                                bif decide (v40.1 > v5.2.1) then
                                  some false
                                else
                                  bif decide (v40.1 < v5.2.1) then
                                    some true
                                  else
                                    bif decide (v5.1.1 < v32) then
                                      some true
                                    else
                                      bif (v5.1.1 == v32) then
                                        let v41 : Int := IntKind.i64.wrap (v32 + v37)
                                        bif decide (v5.1.2 ≤ v41) then
                                          some true
                                        else
                                          some false
                                      else
                                        some false
        else
          bif decide (a2.1 < 1) then
            some true
          else
            bif decide (a2.1 > 20000) then
              some true
            else
              bif decide (a2.2.1 < 0) then
                some true
              else
                bif decide (a2.2.1 > 20000) then
                  some true
                else
                  bif ((a0.2.2.2.2.2.2.2.1.length : Int) == 0) then
                    some true
                  else
                    chk (!decide (a2.1 = 0)) <|
                    let v42 : Int := IntKind.i64.wrap (a2.2.1.tdiv a2.1)
                    let v43 : Int := IntKind.i64.wrap (v42 * a2.1)
                    let v44 : Int := IntKind.u64.wrap a2.2.2
                    let v45 : Int := IntKind.u64.wrap (a0.2.2.2.2.2.2.2.1.length : Int)
                    chk (!decide (v45 = 0)) <|
                    let v46 : Int := v44.tmod v45
                    let v47 : Int := IntKind.i64.wrap v46
                    chk (decide ((0 : Int) ≤ v47)) <|
                    chk (decide (v47 < (a0.2.2.2.2.2.2.2.1.length : Int))) <|
                    let v48 : Int := a0.2.2.2.2.2.2.2.1.getD (Int.toNat v47) (0 : Int)
                    bif decide (v48 < 0) then
                      some true
                    else
                      bif decide (v48 > 20000) then
                        some true
                      else
                        let v49 : Int := IntKind.i64.wrap (v43 + v48)
                        let v50 : Option (Int × Bool) := f17 n a0 (a1.1, a1.2.1, a1.2.2.1, a1.2.2.2, v43, v49)
                        chk (v50.isSome) <|
                        let v51 : Int × Bool := v50.getD ((0 : Int), false)
                        bif (!v51.2) then
                          bif (v51.1 == 0) then
                            some true
                          else
                            some false
                        else
                          bif (!v5.2.2) then
                            some false
                          else
                            bif decide (v51.1 > v5.2.1) then
                              some false
                            else
                              bif decide (v51.1 < v5.2.1) then
                                some true
                              else
                                bif decide (v5.1.1 < v43) then
                                  some true
                                else
                                  bif (v5.1.1 == v43) then
                                    let v52 : Int := IntKind.i64.wrap (v43 + v48)
                                    bif decide (v5.1.2 ≤ v52) then
                                      some true
                                    else
                                      some false
                                  else
                                    some false
def f7 (n : Nat) (a0 : List (Int × Int × List (Int × Int)) × List (Int × Int × Int × Int × Int × Int × Int) × ByteArray × Int × Int × Int × Int × List Int × List Int × Int) (a1 : Int × Int × Int × Int) (a2 : Int × Int × Int) : Option (Bool) := f7G n a0 a1 a2
/-! f8: sawmill/sawmilllaw20.WorthDefects -/
def f8G (n : Nat) (a0 : List (Int × Int × List (Int × Int)) × List (Int × Int × Int × Int × Int × Int × Int) × ByteArray × Int × Int × Int × Int × List Int × List Int × Int) (a1 : Int × Int × Int × Int × Int × Int) (a2 : List (Int × Int × List (Int × Int)) × List (Int × Int × Int × Int × Int × Int × Int) × ByteArray × Int × Int × Int × Int × List Int × List Int × Int) : Option (Bool) :=
  let v1 : Option (Bool) := f14 n a0
  chk (v1.isSome) <|
  let v2 : Bool := v1.getD false
  bif (!v2) then
    some true
  else
    bif decide ((a0.2.1.length : Int) ≥ 64) then
      some true
    else
      bif ((a2.2.1.length : Int) == 0) then
        some true
      else
        bif decide ((a2.2.1.length : Int) > 70) then
          some true
        else
          let v3 : Option (Int × Bool) := f17 n a0 a1
          chk (v3.isSome) <|
          let v4 : Int × Bool := v3.getD ((0 : Int), false)
          let v5 : Int := IntKind.i64.wrap (a1.2.2.2.2.2 - a1.2.2.2.2.1)
          let v6 : Option (Int × Bool) := f24 n (a0.2.2.1, a0.2.2.2.1, a0.2.2.2.2.1, a0.2.2.2.2.2.1, a0.2.2.2.2.2.2.1, a0.2.2.2.2.2.2.2.1, a0.2.2.2.2.2.2.2.2.1) v5
          chk (v6.isSome) <|
          let v7 : Int × Bool := v6.getD ((0 : Int), false)
          bif (!v4.2) then
            bif (v4.1 != 0) then
              some false
            else
              bif v4.2 then
                bif (!v7.2) then
                  some false
                else
                  bif decide (v4.1 < 0) then
                    some false
                  else
                    bif decide (v4.1 > v7.1) then
                      some false
                    else
                      let v8 : List (Int × Int × Int × Int × Int × Int × Int) := []
                      chk (decide (v8.length < 68719476736)) <|
                      chk (decide (a0.2.1.length < 68719476736)) <|
                      let v9 : List (Int × Int × Int × Int × Int × Int × Int) := v8 ++ a0.2.1
                      chk (decide ((0 : Int) < (a2.2.1.length : Int))) <|
                      let v10 : Int × Int × Int × Int × Int × Int × Int := a2.2.1.getD 0 ((0 : Int), (0 : Int), (0 : Int), (0 : Int), (0 : Int), (0 : Int), (0 : Int))
                      chk (decide (v9.length < 68719476736)) <|
                      let v11 : List (Int × Int × Int × Int × Int × Int × Int) := v9 ++ [v10]
                      let v12 : Option (Int × Bool) := f17 n (a0.1, v11, a0.2.2.1, a0.2.2.2.1, a0.2.2.2.2.1, a0.2.2.2.2.2.1, a0.2.2.2.2.2.2.1, a0.2.2.2.2.2.2.2.1, a0.2.2.2.2.2.2.2.2.1, a0.2.2.2.2.2.2.2.2.2) a1
                      chk (v12.isSome) <|
                      let v13 : Int × Bool := v12.getD ((0 : Int), false)
                      bif v13.2 then
                        bif (!v4.2) then
                          some false
                        else
                          bif decide (v13.1 > v4.1) then
                            some false
                          else
                            let v14 : Option (Int × Bool) := f17 n (a0.1, a0.2.1, a0.2.2.1, a0.2.2.2.1, a0.2.2.2.2.1, a0.2.2.2.2.2.1, a0.2.2.2.2.2.2.1, a0.2.2.2.2.2.2.2.1, a0.2.2.2.2.2.2.2.2.1, a2.2.2.2.2.2.2.2.2.2) a1
                            chk (v14.isSome) <|
                            let v15 : Int × Bool := v14.getD ((0 : Int), false)
                            bif v15.2 then
                              bif v4.2 then
                                bif decide (a2.2.2.2.2.2.2.2.2.2 ≥ a0.2.2.2.2.2.2.2.2.2) then
                                  bif decide (v15.1 > v4.1) then
                                    some false
                                  else
                                    some true
                                else
                                  some true
                              else
                                some true
                            else
                              some true
                      else
                        let v16 : Option (Int × Bool) := f17 n (a0.1, a0.2.1, a0.2.2.1, a0.2.2.2.1, a0.2.2.2.2.1, a0.2.2.2.2.2.1, a0.2.2.2.2.2.2.1, a0.2.2.2.2.2.2.2.1, a0.2.2.2.2.2.2.2.2.1, a2.2.2.2.2.2.2.2.2.2) a1
                        chk (v16.isSome) <|
                        let v17 : Int × Bool := v16.getD ((0 : Int), false)
                        bif v17.2 then
                          bif v4.2 then
                            bif decide (a2.2.2.2.2.2.2.2.2.2 ≥ a0.2.2.2.2.2.2.2.2.2) then
                              bif decide (v17.1 > v4.1) then
                                some false
                              else
                                some true
                            else
                              some true
                          else
                            some true
                        else
                          some true
              else
                let v18 : List (Int × Int × Int × Int × Int × Int × Int) := []
                chk (decide (v18.length < 68719476736)) <|
                chk (decide (a0.2.1.length < 68719476736)) <|
                let v19 : List (Int × Int × Int × Int × Int × Int × Int) := v18 ++ a0.2.1
                chk (decide ((0 : Int) < (a2.2.1.length : Int))) <|
                let v20 : Int × Int × Int × Int × Int × Int × Int := a2.2.1.getD 0 ((0 : Int), (0 : Int), (0 : Int), (0 : Int), (0 : Int), (0 : Int), (0 : Int))
                chk (decide (v19.length < 68719476736)) <|
                let v21 : List (Int × Int × Int × Int × Int × Int × Int) := v19 ++ [v20]
                let v22 : Option (Int × Bool) := f17 n (a0.1, v21, a0.2.2.1, a0.2.2.2.1, a0.2.2.2.2.1, a0.2.2.2.2.2.1, a0.2.2.2.2.2.2.1, a0.2.2.2.2.2.2.2.1, a0.2.2.2.2.2.2.2.2.1, a0.2.2.2.2.2.2.2.2.2) a1
                chk (v22.isSome) <|
                let v23 : Int × Bool := v22.getD ((0 : Int), false)
                bif v23.2 then
                  bif (!v4.2) then
                    some false
                  else
                    bif decide (v23.1 > v4.1) then
                      some false
                    else
                      let v24 : Option (Int × Bool) := f17 n (a0.1, a0.2.1, a0.2.2.1, a0.2.2.2.1, a0.2.2.2.2.1, a0.2.2.2.2.2.1, a0.2.2.2.2.2.2.1, a0.2.2.2.2.2.2.2.1, a0.2.2.2.2.2.2.2.2.1, a2.2.2.2.2.2.2.2.2.2) a1
                      chk (v24.isSome) <|
                      let v25 : Int × Bool := v24.getD ((0 : Int), false)
                      bif v25.2 then
                        bif v4.2 then
                          bif decide (a2.2.2.2.2.2.2.2.2.2 ≥ a0.2.2.2.2.2.2.2.2.2) then
                            bif decide (v25.1 > v4.1) then
                              some false
                            else
                              some true
                          else
                            some true
                        else
                          some true
                      else
                        some true
                else
                  let v26 : Option (Int × Bool) := f17 n (a0.1, a0.2.1, a0.2.2.1, a0.2.2.2.1, a0.2.2.2.2.1, a0.2.2.2.2.2.1, a0.2.2.2.2.2.2.1, a0.2.2.2.2.2.2.2.1, a0.2.2.2.2.2.2.2.2.1, a2.2.2.2.2.2.2.2.2.2) a1
                  chk (v26.isSome) <|
                  let v27 : Int × Bool := v26.getD ((0 : Int), false)
                  bif v27.2 then
                    bif v4.2 then
                      bif decide (a2.2.2.2.2.2.2.2.2.2 ≥ a0.2.2.2.2.2.2.2.2.2) then
                        bif decide (v27.1 > v4.1) then
                          some false
                        else
                          some true
                      else
                        some true
                    else
                      some true
                  else
                    some true
          else
            bif v4.2 then
              bif (!v7.2) then
                some false
              else
                bif decide (v4.1 < 0) then
                  some false
                else
                  bif decide (v4.1 > v7.1) then
                    some false
                  else
                    let v28 : List (Int × Int × Int × Int × Int × Int × Int) := []
                    chk (decide (v28.length < 68719476736)) <|
                    chk (decide (a0.2.1.length < 68719476736)) <|
                    let v29 : List (Int × Int × Int × Int × Int × Int × Int) := v28 ++ a0.2.1
                    chk (decide ((0 : Int) < (a2.2.1.length : Int))) <|
                    let v30 : Int × Int × Int × Int × Int × Int × Int := a2.2.1.getD 0 ((0 : Int), (0 : Int), (0 : Int), (0 : Int), (0 : Int), (0 : Int), (0 : Int))
                    chk (decide (v29.length < 68719476736)) <|
                    let v31 : List (Int × Int × Int × Int × Int × Int × Int) := v29 ++ [v30]
                    let v32 : Option (Int × Bool) := f17 n (a0.1, v31, a0.2.2.1, a0.2.2.2.1, a0.2.2.2.2.1, a0.2.2.2.2.2.1, a0.2.2.2.2.2.2.1, a0.2.2.2.2.2.2.2.1, a0.2.2.2.2.2.2.2.2.1, a0.2.2.2.2.2.2.2.2.2) a1
                    chk (v32.isSome) <|
                    let v33 : Int × Bool := v32.getD ((0 : Int), false)
                    bif v33.2 then
                      bif (!v4.2) then
                        some false
                      else
                        bif decide (v33.1 > v4.1) then
                          some false
                        else
                          let v34 : Option (Int × Bool) := f17 n (a0.1, a0.2.1, a0.2.2.1, a0.2.2.2.1, a0.2.2.2.2.1, a0.2.2.2.2.2.1, a0.2.2.2.2.2.2.1, a0.2.2.2.2.2.2.2.1, a0.2.2.2.2.2.2.2.2.1, a2.2.2.2.2.2.2.2.2.2) a1
                          chk (v34.isSome) <|
                          let v35 : Int × Bool := v34.getD ((0 : Int), false)
                          bif v35.2 then
                            bif v4.2 then
                              bif decide (a2.2.2.2.2.2.2.2.2.2 ≥ a0.2.2.2.2.2.2.2.2.2) then
                                bif decide (v35.1 > v4.1) then
                                  some false
                                else
                                  some true
                              else
                                some true
                            else
                              some true
                          else
                            some true
                    else
                      let v36 : Option (Int × Bool) := f17 n (a0.1, a0.2.1, a0.2.2.1, a0.2.2.2.1, a0.2.2.2.2.1, a0.2.2.2.2.2.1, a0.2.2.2.2.2.2.1, a0.2.2.2.2.2.2.2.1, a0.2.2.2.2.2.2.2.2.1, a2.2.2.2.2.2.2.2.2.2) a1
                      chk (v36.isSome) <|
                      let v37 : Int × Bool := v36.getD ((0 : Int), false)
                      bif v37.2 then
                        bif v4.2 then
                          bif decide (a2.2.2.2.2.2.2.2.2.2 ≥ a0.2.2.2.2.2.2.2.2.2) then
                            bif decide (v37.1 > v4.1) then
                              some false
                            else
                              some true
                          else
                            some true
                        else
                          some true
                      else
                        some true
            else
              let v38 : List (Int × Int × Int × Int × Int × Int × Int) := []
              chk (decide (v38.length < 68719476736)) <|
              chk (decide (a0.2.1.length < 68719476736)) <|
              let v39 : List (Int × Int × Int × Int × Int × Int × Int) := v38 ++ a0.2.1
              chk (decide ((0 : Int) < (a2.2.1.length : Int))) <|
              let v40 : Int × Int × Int × Int × Int × Int × Int := a2.2.1.getD 0 ((0 : Int), (0 : Int), (0 : Int), (0 : Int), (0 : Int), (0 : Int), (0 : Int))
              chk (decide (v39.length < 68719476736)) <|
              let v41 : List (Int × Int × Int × Int × Int × Int × Int) := v39 ++ [v40]
              let v42 : Option (Int × Bool) := f17 n (a0.1, v41, a0.2.2.1, a0.2.2.2.1, a0.2.2.2.2.1, a0.2.2.2.2.2.1, a0.2.2.2.2.2.2.1, a0.2.2.2.2.2.2.2.1, a0.2.2.2.2.2.2.2.2.1, a0.2.2.2.2.2.2.2.2.2) a1
              chk (v42.isSome) <|
              let v43 : Int × Bool := v42.getD ((0 : Int), false)
              bif v43.2 then
                bif (!v4.2) then
                  some false
                else
                  bif decide (v43.1 > v4.1) then
                    some false
                  else
                    let v44 : Option (Int × Bool) := f17 n (a0.1, a0.2.1, a0.2.2.1, a0.2.2.2.1, a0.2.2.2.2.1, a0.2.2.2.2.2.1, a0.2.2.2.2.2.2.1, a0.2.2.2.2.2.2.2.1, a0.2.2.2.2.2.2.2.2.1, a2.2.2.2.2.2.2.2.2.2) a1
                    chk (v44.isSome) <|
                    let v45 : Int × Bool := v44.getD ((0 : Int), false)
                    bif v45.2 then
                      bif v4.2 then
                        bif decide (a2.2.2.2.2.2.2.2.2.2 ≥ a0.2.2.2.2.2.2.2.2.2) then
                          bif decide (v45.1 > v4.1) then
                            some false
                          else
                            some true
                        else
                          some true
                      else
                        some true
                    else
                      some true
              else
                let v46 : Option (Int × Bool) := f17 n (a0.1, a0.2.1, a0.2.2.1, a0.2.2.2.1, a0.2.2.2.2.1, a0.2.2.2.2.2.1, a0.2.2.2.2.2.2.1, a0.2.2.2.2.2.2.2.1, a0.2.2.2.2.2.2.2.2.1, a2.2.2.2.2.2.2.2.2.2) a1
                chk (v46.isSome) <|
                let v47 : Int × Bool := v46.getD ((0 : Int), false)
                bif v47.2 then
                  bif v4.2 then
                    bif decide (a2.2.2.2.2.2.2.2.2.2 ≥ a0.2.2.2.2.2.2.2.2.2) then
                      bif decide (v47.1 > v4.1) then
                        some false
                      else
                        some true
                    else
                      some true
                  else
                    some true
                else
                  some true
def f8 (n : Nat) (a0 : List (Int × Int × List (Int × Int)) × List (Int × Int × Int × Int × Int × Int × Int) × ByteArray × Int × Int × Int × Int × List Int × List Int × Int) (a1 : Int × Int × Int × Int × Int × Int) (a2 : List (Int × Int × List (Int × Int)) × List (Int × Int × Int × Int × Int × Int × Int) × ByteArray × Int × Int × Int × Int × List Int × List Int × Int) : Option (Bool) := f8G n a0 a1 a2
/-! f26: sawmill/sawmilllaw20.far -/
def f26L2G (n : Nat) (a0 : List (Int × Int × Int × Int × Int × Int × Int)) (v3 : Int) (kc : Int → Option (Bool)) (kret : Option (Bool)) (k0 : Option (Bool)) : Option (Bool) :=
  bif decide (v3 < (a0.length : Int)) then
    chk (decide ((0 : Int) ≤ v3)) <|
    chk (decide (v3 < (a0.length : Int))) <|
    let v4 : Int × Int × Int × Int × Int × Int × Int := a0.getD (Int.toNat v3) ((0 : Int), (0 : Int), (0 : Int), (0 : Int), (0 : Int), (0 : Int), (0 : Int))
    bif decide (v4.2.2.2.1 < (-600)) then
      kret
    else
      chk (decide ((0 : Int) ≤ v3)) <|
      chk (decide (v3 < (a0.length : Int))) <|
      let v5 : Int × Int × Int × Int × Int × Int × Int := a0.getD (Int.toNat v3) ((0 : Int), (0 : Int), (0 : Int), (0 : Int), (0 : Int), (0 : Int), (0 : Int))
      bif decide (v5.2.2.2.2.1 > 600) then
        kret
      else
        let v6 : Int := IntKind.i64.wrap (v3 + 1)
        kc v6
  else
    k0
def f26L2 (n : Nat) (a0 : List (Int × Int × Int × Int × Int × Int × Int)) : Nat → Int → (Option (Bool)) → (Option (Bool)) → Option (Bool)
  | 0, _, _, _ => none
  | m + 1, v3, kret, k0 => f26L2G n a0 v3 (fun v3 => f26L2 n a0 m v3 kret k0) kret k0
def f26L2B (n : Nat) (a0 : List (Int × Int × Int × Int × Int × Int × Int)) (x3 : Int × Int × Int × Int × Int × Int × Int) (v3 : Int) (kc : Option (Bool)) (kret : Option (Bool)) (k0 : Option (Bool)) : Option (Bool) :=
  bif decide (x3.2.2.2.1 < (-600)) then
    kret
  else
    bif decide (x3.2.2.2.2.1 > 600) then
      kret
    else
      kc
def f26L2F (n : Nat) (a0 : List (Int × Int × Int × Int × Int × Int × Int)) (kret : Option (Bool)) (k0 : Option (Bool)) : List (Int × Int × Int × Int × Int × Int × Int) → Nat → Option (Bool)
  | [], j =>
    let v3 : Int := (j : Int)
    k0
  | x3 :: r, j => f26L2B n a0 x3 (j : Int) (f26L2F n a0 kret k0 r (j + 1)) kret k0
theorem f26L2_eq (n : Nat) (a0 : List (Int × Int × Int × Int × Int × Int × Int)) (kret : Option (Bool)) (k0 : Option (Bool)) (hl : a0.length < 4611686018427387904) : ∀ (r : List (Int × Int × Int × Int × Int × Int × Int)) (m j : Nat), a0.drop j = r → r.length < m → f26L2 n a0 m (j : Int) kret k0 = f26L2F n a0 kret k0 r j := by
  intro r
  induction r with
  | nil =>
    intro m j h hm
    obtain ⟨m, rfl⟩ : ∃ q, m = q + 1 := ⟨m - 1, by omega⟩
    have h1 := drop_none h
    have c1 : decide ((j : Int) < (a0.length : Int)) = false := decide_eq_false (by omega)
    simp only [f26L2, f26L2G, f26L2F, c1, cond_false]
  | cons x r ih =>
    intro m j h hm
    obtain ⟨m, rfl⟩ : ∃ q, m = q + 1 := ⟨m - 1, by omega⟩
    obtain ⟨h1, h2, h3⟩ := drop_cons h
    have hm' : r.length < m := by simp only [List.length_cons] at hm; omega
    have c1 : decide ((j : Int) < (a0.length : Int)) = true := decide_eq_true (by omega)
    have c2 : decide ((0 : Int) ≤ (j : Int)) = true := decide_eq_true (by omega)
    have c3 : IntKind.i64.wrap ((j : Int) + 1) = ((j + 1 : Nat) : Int) := wrap_succ (by omega)
    have ih' := ih m (j + 1) h3 hm'
    simp only [f26L2, f26L2G, f26L2F, f26L2B, c1, c2, c3, cond_true, chk_true, Int.toNat_natCast, h2, ih']
theorem f26L2_at (n : Nat) (a0 : List (Int × Int × Int × Int × Int × Int × Int)) (kret : Option (Bool)) (k0 : Option (Bool)) (hl : a0.length < 4611686018427387904) (hn : a0.length < n + 8) : f26L2 n a0 (n + 8) 0 kret k0 = f26L2F n a0 kret k0 a0 0 := f26L2_eq n a0 kret k0 hl a0 (n + 8) 0 rfl hn
def f26G (n : Nat) (a0 : List (Int × Int × Int × Int × Int × Int × Int)) (lp2 : (List (Int × Int × Int × Int × Int × Int × Int)) → Int → (Option (Bool)) → (Option (Bool)) → Option (Bool)) : Option (Bool) :=
  lp2 a0 (0 : Int) (
      some true) (
      some false)
def f26 (n : Nat) (a0 : List (Int × Int × Int × Int × Int × Int × Int)) : Option (Bool) := f26G n a0 (fun a0 => f26L2 n a0 (n + 8))
/-! f9: sawmill/sawmilllaw20.WorthOrder -/
def f9L7G (n : Nat) (a2 : Int) (v4 : Int × Bool) (a0 : List (Int × Int × List (Int × Int)) × List (Int × Int × Int × Int × Int × Int × Int) × ByteArray × Int × Int × Int × Int × List Int × List Int × Int) (a1 : Int × Int × Int × Int × Int × Int) (v9 : Int) (v10 : List (Int × Int × Int × Int × Int × Int × Int)) (kc : Int → (List (Int × Int × Int × Int × Int × Int × Int)) → Option (Bool)) (k0 : (List (Int × Int × Int × Int × Int × Int × Int)) → Option (Bool)) : Option (Bool) :=
  bif decide (v9 ≥ 0) then
    chk (decide ((0 : Int) ≤ v9)) <|
    chk (decide (v9 < (a0.2.1.length : Int))) <|
    let v11 : Int × Int × Int × Int × Int × Int × Int := a0.2.1.getD (Int.toNat v9) ((0 : Int), (0 : Int), (0 : Int), (0 : Int), (0 : Int), (0 : Int), (0 : Int))
    chk (decide (v10.length < 68719476736)) <|
    let v12 : List (Int × Int × Int × Int × Int × Int × Int) := v10 ++ [v11]
    let v13 : Int := IntKind.i64.wrap (v9 - 1)
    kc v13 v12
  else
    k0 v10
def f9L7 (n : Nat) (a2 : Int) (v4 : Int × Bool) (a0 : List (Int × Int × List (Int × Int)) × List (Int × Int × Int × Int × Int × Int × Int) × ByteArray × Int × Int × Int × Int × List Int × List Int × Int) (a1 : Int × Int × Int × Int × Int × Int) : Nat → Int → (List (Int × Int × Int × Int × Int × Int × Int)) → (((List (Int × Int × Int × Int × Int × Int × Int)) → Option (Bool))) → Option (Bool)
  | 0, _, _, _ => none
  | m + 1, v9, v10, k0 => f9L7G n a2 v4 a0 a1 v9 v10 (fun v9 v10 => f9L7 n a2 v4 a0 a1 m v9 v10 k0) k0
def f9L16G (n : Nat) (a2 : Int) (v4 : Int × Bool) (v18 : Int) (a0 : List (Int × Int × List (Int × Int)) × List (Int × Int × Int × Int × Int × Int × Int) × ByteArray × Int × Int × Int × Int × List Int × List Int × Int) (a1 : Int × Int × Int × Int × Int × Int) (v22 : Int) (v23 : List (Int × Int × List (Int × Int))) (kc : Int → (List (Int × Int × List (Int × Int))) → Option (Bool)) (kret : Option (Bool)) (k2 : (List (Int × Int × List (Int × Int))) → Option (Bool)) : Option (Bool) :=
  bif decide (v22 < (a0.1.length : Int)) then
    chk (decide ((0 : Int) ≤ v22)) <|
    chk (decide (v22 < (a0.1.length : Int))) <|
    let v24 : Int × Int × List (Int × Int) := a0.1.getD (Int.toNat v22) ((0 : Int), (0 : Int), [])
    bif decide (v24.2.1 < (-1000)) then
      kret
    else
      bif decide (v24.2.1 > 1000) then
        kret
      else
        let v25 : Int := IntKind.i64.wrap (v24.2.1 + a2)
        chk (decide (v23.length < 68719476736)) <|
        let v26 : List (Int × Int × List (Int × Int)) := v23 ++ [(v24.1, v25, v24.2.2)]
        let v27 : Int := IntKind.i64.wrap (v22 + 1)
        kc v27 v26
  else
    k2 v23
def f9L16 (n : Nat) (a2 : Int) (v4 : Int × Bool) (v18 : Int) (a0 : List (Int × Int × List (Int × Int)) × List (Int × Int × Int × Int × Int × Int × Int) × ByteArray × Int × Int × Int × Int × List Int × List Int × Int) (a1 : Int × Int × Int × Int × Int × Int) : Nat → Int → (List (Int × Int × List (Int × Int))) → (Option (Bool)) → (((List (Int × Int × List (Int × Int))) → Option (Bool))) → Option (Bool)
  | 0, _, _, _, _ => none
  | m + 1, v22, v23, kret, k2 => f9L16G n a2 v4 v18 a0 a1 v22 v23 (fun v22 v23 => f9L16 n a2 v4 v18 a0 a1 m v22 v23 kret k2) kret k2
def f9L16B (n : Nat) (a2 : Int) (v4 : Int × Bool) (v18 : Int) (a0 : List (Int × Int × List (Int × Int)) × List (Int × Int × Int × Int × Int × Int × Int) × ByteArray × Int × Int × Int × Int × List Int × List Int × Int) (a1 : Int × Int × Int × Int × Int × Int) (x22 : Int × Int × List (Int × Int)) (v22 : Int) (v23 : List (Int × Int × List (Int × Int))) (kc : (List (Int × Int × List (Int × Int))) → Option (Bool)) (kret : Option (Bool)) (k2 : (List (Int × Int × List (Int × Int))) → Option (Bool)) : Option (Bool) :=
  bif decide (x22.2.1 < (-1000)) then
    kret
  else
    bif decide (x22.2.1 > 1000) then
      kret
    else
      let v25 : Int := IntKind.i64.wrap (x22.2.1 + a2)
      chk (decide (v23.length < 68719476736)) <|
      let v26 : List (Int × Int × List (Int × Int)) := v23 ++ [(x22.1, v25, x22.2.2)]
      kc v26
def f9L16F (n : Nat) (a2 : Int) (v4 : Int × Bool) (v18 : Int) (a0 : List (Int × Int × List (Int × Int)) × List (Int × Int × Int × Int × Int × Int × Int) × ByteArray × Int × Int × Int × Int × List Int × List Int × Int) (a1 : Int × Int × Int × Int × Int × Int) (kret : Option (Bool)) (k2 : (List (Int × Int × List (Int × Int))) → Option (Bool)) : List (Int × Int × List (Int × Int)) → Nat → (List (Int × Int × List (Int × Int))) → Option (Bool)
  | [], j, v23 =>
    let v22 : Int := (j : Int)
    k2 v23
  | x22 :: r, j, v23 => f9L16B n a2 v4 v18 a0 a1 x22 (j : Int) v23 (fun v23 => f9L16F n a2 v4 v18 a0 a1 kret k2 r (j + 1) v23) kret k2
theorem f9L16_eq (n : Nat) (a2 : Int) (v4 : Int × Bool) (v18 : Int) (a0 : List (Int × Int × List (Int × Int)) × List (Int × Int × Int × Int × Int × Int × Int) × ByteArray × Int × Int × Int × Int × List Int × List Int × Int) (a1 : Int × Int × Int × Int × Int × Int) (kret : Option (Bool)) (k2 : (List (Int × Int × List (Int × Int))) → Option (Bool)) (hl : a0.1.length < 4611686018427387904) : ∀ (r : List (Int × Int × List (Int × Int))) (m j : Nat) (v23 : List (Int × Int × List (Int × Int))), a0.1.drop j = r → r.length < m → f9L16 n a2 v4 v18 a0 a1 m (j : Int) v23 kret k2 = f9L16F n a2 v4 v18 a0 a1 kret k2 r j v23 := by
  intro r
  induction r with
  | nil =>
    intro m j v23 h hm
    obtain ⟨m, rfl⟩ : ∃ q, m = q + 1 := ⟨m - 1, by omega⟩
    have h1 := drop_none h
    have c1 : decide ((j : Int) < (a0.1.length : Int)) = false := decide_eq_false (by omega)
    simp only [f9L16, f9L16G, f9L16F, c1, cond_false]
  | cons x r ih =>
    intro m j v23 h hm
    obtain ⟨m, rfl⟩ : ∃ q, m = q + 1 := ⟨m - 1, by omega⟩
    obtain ⟨h1, h2, h3⟩ := drop_cons h
    have hm' : r.length < m := by simp only [List.length_cons] at hm; omega
    have c1 : decide ((j : Int) < (a0.1.length : Int)) = true := decide_eq_true (by omega)
    have c2 : decide ((0 : Int) ≤ (j : Int)) = true := decide_eq_true (by omega)
    have c3 : IntKind.i64.wrap ((j : Int) + 1) = ((j + 1 : Nat) : Int) := wrap_succ (by omega)
    have ih' := fun v23 => ih m (j + 1) v23 h3 hm'
    simp only [f9L16, f9L16G, f9L16F, f9L16B, c1, c2, c3, cond_true, chk_true, Int.toNat_natCast, h2, ih']
theorem f9L16_at (n : Nat) (a2 : Int) (v4 : Int × Bool) (v18 : Int) (a0 : List (Int × Int × List (Int × Int)) × List (Int × Int × Int × Int × Int × Int × Int) × ByteArray × Int × Int × Int × Int × List Int × List Int × Int) (a1 : Int × Int × Int × Int × Int × Int) (kret : Option (Bool)) (k2 : (List (Int × Int × List (Int × Int))) → Option (Bool)) (hl : a0.1.length < 4611686018427387904) (hn : a0.1.length < n + 8) (v23 : List (Int × Int × List (Int × Int))) : f9L16 n a2 v4 v18 a0 a1 (n + 8) 0 v23 kret k2 = f9L16F n a2 v4 v18 a0 a1 kret k2 a0.1 0 v23 := f9L16_eq n a2 v4 v18 a0 a1 kret k2 hl a0.1 (n + 8) 0 v23 rfl hn
def f9L24G (n : Nat) (v4 : Int × Bool) (v18 : Int) (a0 : List (Int × Int × List (Int × Int)) × List (Int × Int × Int × Int × Int × Int × Int) × ByteArray × Int × Int × Int × Int × List Int × List Int × Int) (a1 : Int × Int × Int × Int × Int × Int) (v29 : List (Int × Int × List (Int × Int))) (v34 : Int) (v35 : List (Int × Int × Int × Int × Int × Int × Int)) (kc : Int → (List (Int × Int × Int × Int × Int × Int × Int)) → Option (Bool)) (kret : Option (Bool)) (k4 : (List (Int × Int × Int × Int × Int × Int × Int)) → Option (Bool)) : Option (Bool) :=
  bif decide (v34 < (a0.2.1.length : Int)) then
    chk (decide ((0 : Int) ≤ v34)) <|
    chk (decide (v34 < (a0.2.1.length : Int))) <|
    let v36 : Int × Int × Int × Int × Int × Int × Int := a0.2.1.getD (Int.toNat v34) ((0 : Int), (0 : Int), (0 : Int), (0 : Int), (0 : Int), (0 : Int), (0 : Int))
    bif decide (v36.2.2.2.1 < (-5000)) then
      kret
    else
      bif decide (v36.2.2.2.2.1 > 5000) then
        kret
      else
        let v37 : Int := IntKind.i64.wrap (v36.2.2.2.1 + v18)
        let v38 : Int := IntKind.i64.wrap (v36.2.2.2.2.1 + v18)
        chk (decide (v35.length < 68719476736)) <|
        let v39 : List (Int × Int × Int × Int × Int × Int × Int) := v35 ++ [(v36.1, v36.2.1, v36.2.2.1, v37, v38, v36.2.2.2.2.2.1, v36.2.2.2.2.2.2)]
        let v40 : Int := IntKind.i64.wrap (v34 + 1)
        kc v40 v39
  else
    k4 v35
def f9L24 (n : Nat) (v4 : Int × Bool) (v18 : Int) (a0 : List (Int × Int × List (Int × Int)) × List (Int × Int × Int × Int × Int × Int × Int) × ByteArray × Int × Int × Int × Int × List Int × List Int × Int) (a1 : Int × Int × Int × Int × Int × Int) (v29 : List (Int × Int × List (Int × Int))) : Nat → Int → (List (Int × Int × Int × Int × Int × Int × Int)) → (Option (Bool)) → (((List (Int × Int × Int × Int × Int × Int × Int)) → Option (Bool))) → Option (Bool)
  | 0, _, _, _, _ => none
  | m + 1, v34, v35, kret, k4 => f9L24G n v4 v18 a0 a1 v29 v34 v35 (fun v34 v35 => f9L24 n v4 v18 a0 a1 v29 m v34 v35 kret k4) kret k4
def f9L24B (n : Nat) (v4 : Int × Bool) (v18 : Int) (a0 : List (Int × Int × List (Int × Int)) × List (Int × Int × Int × Int × Int × Int × Int) × ByteArray × Int × Int × Int × Int × List Int × List Int × Int) (a1 : Int × Int × Int × Int × Int × Int) (v29 : List (Int × Int × List (Int × Int))) (x34 : Int × Int × Int × Int × Int × Int × Int) (v34 : Int) (v35 : List (Int × Int × Int × Int × Int × Int × Int)) (kc : (List (Int × Int × Int × Int × Int × Int × Int)) → Option (Bool)) (kret : Option (Bool)) (k4 : (List (Int × Int × Int × Int × Int × Int × Int)) → Option (Bool)) : Option (Bool) :=
  bif decide (x34.2.2.2.1 < (-5000)) then
    kret
  else
    bif decide (x34.2.2.2.2.1 > 5000) then
      kret
    else
      let v37 : Int := IntKind.i64.wrap (x34.2.2.2.1 + v18)
      let v38 : Int := IntKind.i64.wrap (x34.2.2.2.2.1 + v18)
      chk (decide (v35.length < 68719476736)) <|
      let v39 : List (Int × Int × Int × Int × Int × Int × Int) := v35 ++ [(x34.1, x34.2.1, x34.2.2.1, v37, v38, x34.2.2.2.2.2.1, x34.2.2.2.2.2.2)]
      kc v39
def f9L24F (n : Nat) (v4 : Int × Bool) (v18 : Int) (a0 : List (Int × Int × List (Int × Int)) × List (Int × Int × Int × Int × Int × Int × Int) × ByteArray × Int × Int × Int × Int × List Int × List Int × Int) (a1 : Int × Int × Int × Int × Int × Int) (v29 : List (Int × Int × List (Int × Int))) (kret : Option (Bool)) (k4 : (List (Int × Int × Int × Int × Int × Int × Int)) → Option (Bool)) : List (Int × Int × Int × Int × Int × Int × Int) → Nat → (List (Int × Int × Int × Int × Int × Int × Int)) → Option (Bool)
  | [], j, v35 =>
    let v34 : Int := (j : Int)
    k4 v35
  | x34 :: r, j, v35 => f9L24B n v4 v18 a0 a1 v29 x34 (j : Int) v35 (fun v35 => f9L24F n v4 v18 a0 a1 v29 kret k4 r (j + 1) v35) kret k4
theorem f9L24_eq (n : Nat) (v4 : Int × Bool) (v18 : Int) (a0 : List (Int × Int × List (Int × Int)) × List (Int × Int × Int × Int × Int × Int × Int) × ByteArray × Int × Int × Int × Int × List Int × List Int × Int) (a1 : Int × Int × Int × Int × Int × Int) (v29 : List (Int × Int × List (Int × Int))) (kret : Option (Bool)) (k4 : (List (Int × Int × Int × Int × Int × Int × Int)) → Option (Bool)) (hl : a0.2.1.length < 4611686018427387904) : ∀ (r : List (Int × Int × Int × Int × Int × Int × Int)) (m j : Nat) (v35 : List (Int × Int × Int × Int × Int × Int × Int)), a0.2.1.drop j = r → r.length < m → f9L24 n v4 v18 a0 a1 v29 m (j : Int) v35 kret k4 = f9L24F n v4 v18 a0 a1 v29 kret k4 r j v35 := by
  intro r
  induction r with
  | nil =>
    intro m j v35 h hm
    obtain ⟨m, rfl⟩ : ∃ q, m = q + 1 := ⟨m - 1, by omega⟩
    have h1 := drop_none h
    have c1 : decide ((j : Int) < (a0.2.1.length : Int)) = false := decide_eq_false (by omega)
    simp only [f9L24, f9L24G, f9L24F, c1, cond_false]
  | cons x r ih =>
    intro m j v35 h hm
    obtain ⟨m, rfl⟩ : ∃ q, m = q + 1 := ⟨m - 1, by omega⟩
    obtain ⟨h1, h2, h3⟩ := drop_cons h
    have hm' : r.length < m := by simp only [List.length_cons] at hm; omega
    have c1 : decide ((j : Int) < (a0.2.1.length : Int)) = true := decide_eq_true (by omega)
    have c2 : decide ((0 : Int) ≤ (j : Int)) = true := decide_eq_true (by omega)
    have c3 : IntKind.i64.wrap ((j : Int) + 1) = ((j + 1 : Nat) : Int) := wrap_succ (by omega)
    have ih' := fun v35 => ih m (j + 1) v35 h3 hm'
    simp only [f9L24, f9L24G, f9L24F, f9L24B, c1, c2, c3, cond_true, chk_true, Int.toNat_natCast, h2, ih']
theorem f9L24_at (n : Nat) (v4 : Int × Bool) (v18 : Int) (a0 : List (Int × Int × List (Int × Int)) × List (Int × Int × Int × Int × Int × Int × Int) × ByteArray × Int × Int × Int × Int × List Int × List Int × Int) (a1 : Int × Int × Int × Int × Int × Int) (v29 : List (Int × Int × List (Int × Int))) (kret : Option (Bool)) (k4 : (List (Int × Int × Int × Int × Int × Int × Int)) → Option (Bool)) (hl : a0.2.1.length < 4611686018427387904) (hn : a0.2.1.length < n + 8) (v35 : List (Int × Int × Int × Int × Int × Int × Int)) : f9L24 n v4 v18 a0 a1 v29 (n + 8) 0 v35 kret k4 = f9L24F n v4 v18 a0 a1 v29 kret k4 a0.2.1 0 v35 := f9L24_eq n v4 v18 a0 a1 v29 kret k4 hl a0.2.1 (n + 8) 0 v35 rfl hn
def f9G (n : Nat) (a0 : List (Int × Int × List (Int × Int)) × List (Int × Int × Int × Int × Int × Int × Int) × ByteArray × Int × Int × Int × Int × List Int × List Int × Int) (a1 : Int × Int × Int × Int × Int × Int) (a2 : Int) (lp7 : Int → (Int × Bool) → (List (Int × Int × List (Int × Int)) × List (Int × Int × Int × Int × Int × Int × Int) × ByteArray × Int × Int × Int × Int × List Int × List Int × Int) → (Int × Int × Int × Int × Int × Int) → Int → (List (Int × Int × Int × Int × Int × Int × Int)) → (((List (Int × Int × Int × Int × Int × Int × Int)) → Option (Bool))) → Option (Bool)) (lp16 : Int → (Int × Bool) → Int → (List (Int × Int × List (Int × Int)) × List (Int × Int × Int × Int × Int × Int × Int) × ByteArray × Int × Int × Int × Int × List Int × List Int × Int) → (Int × Int × Int × Int × Int × Int) → Int → (List (Int × Int × List (Int × Int))) → (Option (Bool)) → (((List (Int × Int × List (Int × Int))) → Option (Bool))) → Option (Bool)) (lp24 : (Int × Bool) → Int → (List (Int × Int × List (Int × Int)) × List (Int × Int × Int × Int × Int × Int × Int) × ByteArray × Int × Int × Int × Int × List Int × List Int × Int) → (Int × Int × Int × Int × Int × Int) → (List (Int × Int × List (Int × Int))) → Int → (List (Int × Int × Int × Int × Int × Int × Int)) → (Option (Bool)) → (((List (Int × Int × Int × Int × Int × Int × Int)) → Option (Bool))) → Option (Bool)) : Option (Bool) :=
  let v1 : Option (Bool) := f14 n a0
  chk (v1.isSome) <|
  let v2 : Bool := v1.getD false
  bif (!v2) then
    some true
  else
    bif decide (a2 < (-20)) then
      some true
    else
      bif decide (a2 > 20) then
        some true
      else
        bif decide (a1.2.2.1 < (-5000)) then
          some true
        else
          bif decide (a1.2.2.2.1 > 5000) then
            some true
          else
            let v3 : Option (Int × Bool) := f17 n a0 a1
            chk (v3.isSome) <|
            let v4 : Int × Bool := v3.getD ((0 : Int), false)
            let v5 : Int := IntKind.i64.wrap ((a0.2.1.length : Int) - 1)
            lp7 a2 v4 a0 a1 v5 [] (fun v15 =>
                let v16 : Option (Int × Bool) := f17 n (a0.1, v15, a0.2.2.1, a0.2.2.2.1, a0.2.2.2.2.1, a0.2.2.2.2.2.1, a0.2.2.2.2.2.2.1, a0.2.2.2.2.2.2.2.1, a0.2.2.2.2.2.2.2.2.1, a0.2.2.2.2.2.2.2.2.2) a1
                chk (v16.isSome) <|
                let v17 : Int × Bool := v16.getD ((0 : Int), false)
                bif (v4.1 != v17.1) then
                  some false
                else
                  bif (!(v4.2 == v17.2)) then
                    some false
                  else
                    let v18 : Int := IntKind.i64.wrap ((10 : Int) * a2)
                    lp16 a2 v4 v18 a0 a1 (0 : Int) [] (
                        some true) (fun v29 =>
                        lp24 v4 v18 a0 a1 v29 (0 : Int) [] (
                            some true) (fun v42 =>
                            let v43 : Int := IntKind.i64.wrap (a1.2.2.1 + v18)
                            let v44 : Int := IntKind.i64.wrap (a1.2.2.2.1 + v18)
                            let v45 : Option (Int × Bool) := f17 n (v29, v42, a0.2.2.1, a0.2.2.2.1, a0.2.2.2.2.1, a0.2.2.2.2.2.1, a0.2.2.2.2.2.2.1, a0.2.2.2.2.2.2.2.1, a0.2.2.2.2.2.2.2.2.1, a0.2.2.2.2.2.2.2.2.2) (a1.1, a1.2.1, v43, v44, a1.2.2.2.2.1, a1.2.2.2.2.2)
                            chk (v45.isSome) <|
                            let v46 : Int × Bool := v45.getD ((0 : Int), false)
                            bif (!v4.2) then
                              some true
                            else
                              bif decide (v43 < (-600)) then
                                some true
                              else
                                bif decide (v44 > 600) then
                                  some true
                                else
                                  let v47 : Option (Int) := f25 n v29
                                  chk (v47.isSome) <|
                                  let v48 : Int := v47.getD (0 : Int)
                                  bif (v48 != 0) then
                                    some true
                                  else
                                    let v49 : Option (Bool) := f26 n v42
                                    chk (v49.isSome) <|
                                    let v50 : Bool := v49.getD false
                                    bif v50 then
                                      some true
                                    else
                                      bif v46.2 then
                                        bif (v46.1 == v4.1) then
                                          some true
                                        else
                                          some false
                                      else
                                        some false)))
def f9 (n : Nat) (a0 : List (Int × Int × List (Int × Int)) × List (Int × Int × Int × Int × Int × Int × Int) × ByteArray × Int × Int × Int × Int × List Int × List Int × Int) (a1 : Int × Int × Int × Int × Int × Int) (a2 : Int) : Option (Bool) := f9G n a0 a1 a2 (fun a2 v4 a0 a1 => f9L7 n a2 v4 a0 a1 (n + 8)) (fun a2 v4 v18 a0 a1 => f9L16 n a2 v4 v18 a0 a1 (n + 8)) (fun v4 v18 a0 a1 v29 => f9L24 n v4 v18 a0 a1 v29 (n + 8))
/-! f28: sawmill/solid.Within -/
def f28L5G (n : Nat) (v2 : List (Int × Int × Int × List (Int × Int))) (a1 : Int × Int × Int × Int × Int × Int) (v9 : Int) (v10 : Int) (kc : Int → Int → Option (Int)) (k0 : Int → Option (Int)) : Option (Int) :=
  bif decide (v10 < (v2.length : Int)) then
    chk (decide ((0 : Int) ≤ v10)) <|
    chk (decide (v10 < (v2.length : Int))) <|
    let v11 : Int × Int × Int × List (Int × Int) := v2.getD (Int.toNat v10) ((0 : Int), (0 : Int), (0 : Int), [])
    let v12 : Int := IntKind.i64.wrap (v11.2.1 - v11.1)
    let v13 : Option (Int) := f46 n v11.2.2 (a1.1, a1.2.1, a1.2.2.1, a1.2.2.2.1)
    chk (v13.isSome) <|
    let v14 : Int := v13.getD (0 : Int)
    let v15 : Int := IntKind.i64.wrap (v12 * v14)
    let v16 : Int := IntKind.i64.wrap (v9 + v15)
    let v17 : Int := IntKind.i64.wrap (v10 + 1)
    kc v16 v17
  else
    k0 v9
def f28L5 (n : Nat) (v2 : List (Int × Int × Int × List (Int × Int))) (a1 : Int × Int × Int × Int × Int × Int) : Nat → Int → Int → ((Int → Option (Int))) → Option (Int)
  | 0, _, _, _ => none
  | m + 1, v9, v10, k0 => f28L5G n v2 a1 v9 v10 (fun v9 v10 => f28L5 n v2 a1 m v9 v10 k0) k0
def f28L5B (n : Nat) (v2 : List (Int × Int × Int × List (Int × Int))) (a1 : Int × Int × Int × Int × Int × Int) (x10 : Int × Int × Int × List (Int × Int)) (v10 : Int) (v9 : Int) (kc : Int → Option (Int)) (k0 : Int → Option (Int)) : Option (Int) :=
  let v12 : Int := IntKind.i64.wrap (x10.2.1 - x10.1)
  let v13 : Option (Int) := f46 n x10.2.2 (a1.1, a1.2.1, a1.2.2.1, a1.2.2.2.1)
  chk (v13.isSome) <|
  let v14 : Int := v13.getD (0 : Int)
  let v15 : Int := IntKind.i64.wrap (v12 * v14)
  let v16 : Int := IntKind.i64.wrap (v9 + v15)
  kc v16
def f28L5F (n : Nat) (v2 : List (Int × Int × Int × List (Int × Int))) (a1 : Int × Int × Int × Int × Int × Int) (k0 : Int → Option (Int)) : List (Int × Int × Int × List (Int × Int)) → Nat → Int → Option (Int)
  | [], j, v9 =>
    let v10 : Int := (j : Int)
    k0 v9
  | x10 :: r, j, v9 => f28L5B n v2 a1 x10 (j : Int) v9 (fun v9 => f28L5F n v2 a1 k0 r (j + 1) v9) k0
theorem f28L5_eq (n : Nat) (v2 : List (Int × Int × Int × List (Int × Int))) (a1 : Int × Int × Int × Int × Int × Int) (k0 : Int → Option (Int)) (hl : v2.length < 4611686018427387904) : ∀ (r : List (Int × Int × Int × List (Int × Int))) (m j : Nat) (v9 : Int), v2.drop j = r → r.length < m → f28L5 n v2 a1 m v9 (j : Int) k0 = f28L5F n v2 a1 k0 r j v9 := by
  intro r
  induction r with
  | nil =>
    intro m j v9 h hm
    obtain ⟨m, rfl⟩ : ∃ q, m = q + 1 := ⟨m - 1, by omega⟩
    have h1 := drop_none h
    have c1 : decide ((j : Int) < (v2.length : Int)) = false := decide_eq_false (by omega)
    simp only [f28L5, f28L5G, f28L5F, c1, cond_false]
  | cons x r ih =>
    intro m j v9 h hm
    obtain ⟨m, rfl⟩ : ∃ q, m = q + 1 := ⟨m - 1, by omega⟩
    obtain ⟨h1, h2, h3⟩ := drop_cons h
    have hm' : r.length < m := by simp only [List.length_cons] at hm; omega
    have c1 : decide ((j : Int) < (v2.length : Int)) = true := decide_eq_true (by omega)
    have c2 : decide ((0 : Int) ≤ (j : Int)) = true := decide_eq_true (by omega)
    have c3 : IntKind.i64.wrap ((j : Int) + 1) = ((j + 1 : Nat) : Int) := wrap_succ (by omega)
    have ih' := fun v9 => ih m (j + 1) v9 h3 hm'
    simp only [f28L5, f28L5G, f28L5F, f28L5B, c1, c2, c3, cond_true, chk_true, Int.toNat_natCast, h2, ih']
theorem f28L5_at (n : Nat) (v2 : List (Int × Int × Int × List (Int × Int))) (a1 : Int × Int × Int × Int × Int × Int) (k0 : Int → Option (Int)) (hl : v2.length < 4611686018427387904) (hn : v2.length < n + 8) (v9 : Int) : f28L5 n v2 a1 (n + 8) v9 0 k0 = f28L5F n v2 a1 k0 v2 0 v9 := f28L5_eq n v2 a1 k0 hl v2 (n + 8) 0 v9 rfl hn
def f28G (n : Nat) (a0 : List (Int × Int × List (Int × Int))) (a1 : Int × Int × Int × Int × Int × Int) (lp5 : (List (Int × Int × Int × List (Int × Int))) → (Int × Int × Int × Int × Int × Int) → Int → Int → ((Int → Option (Int))) → Option (Int)) : Option (Int) :=
  bif decide (a1.1 ≥ a1.2.1) then
    some 0
  else
    bif decide (a1.2.2.1 ≥ a1.2.2.2.1) then
      some 0
    else
      let v1 : Option (List (Int × Int × Int × List (Int × Int))) := f44 n a0 a1.2.2.2.2
      chk (v1.isSome) <|
      let v2 : List (Int × Int × Int × List (Int × Int)) := v1.getD []
      lp5 v2 a1 (0 : Int) (0 : Int) (fun v19 =>
          some v19)
def f28 (n : Nat) (a0 : List (Int × Int × List (Int × Int))) (a1 : Int × Int × Int × Int × Int × Int) : Option (Int) := f28G n a0 a1 (fun v2 a1 => f28L5 n v2 a1 (n + 8))
/-! f10: sawmill/sawmilllaw20.WorthWood -/
def f10G (n : Nat) (a0 : List (Int × Int × List (Int × Int))) (a1 : Int × Int × Int × Int × Int × Int) (a2 : Int × Int) : Option (Bool) :=
  let v1 : Option (Bool) := f14 n (a0, [], ByteArray.empty, 0, 0, 0, 0, [], [], 0)
  chk (v1.isSome) <|
  let v2 : Bool := v1.getD false
  bif (!v2) then
    some true
  else
    let v3 : Option (Int) := f25 n a0
    chk (v3.isSome) <|
    let v4 : Int := v3.getD (0 : Int)
    bif (v4 != 0) then
      some true
    else
      let v5 : Option (Int) := f15 n a0 a1
      chk (v5.isSome) <|
      let v6 : Int := v5.getD (0 : Int)
      bif decide (v6 < 0) then
        some false
      else
        bif decide (v6 > 1000) then
          some false
        else
          bif decide (a1.1 < (-600)) then
            bif (v6 == 1000) then
              some true
            else
              some false
          else
            bif decide (a1.2.1 > 600) then
              bif (v6 == 1000) then
                some true
              else
                some false
            else
              bif decide (a1.2.2.1 < (-600)) then
                bif (v6 == 1000) then
                  some true
                else
                  some false
              else
                bif decide (a1.2.2.2.1 > 600) then
                  bif (v6 == 1000) then
                    some true
                  else
                    some false
                else
                  bif decide (a1.2.2.2.2.1 < 0) then
                    bif (v6 == 1000) then
                      some true
                    else
                      some false
                  else
                    let v7 : Option (Int) := f27 n a0
                    chk (v7.isSome) <|
                    let v8 : Int := v7.getD (0 : Int)
                    bif decide (a1.2.2.2.2.2 > v8) then
                      bif (v6 == 1000) then
                        some true
                      else
                        some false
                    else
                      bif decide (a1.1 ≥ a1.2.1) then
                        bif (v6 == 1000) then
                          some true
                        else
                          some false
                      else
                        bif decide (a1.2.2.1 ≥ a1.2.2.2.1) then
                          bif (v6 == 1000) then
                            some true
                          else
                            some false
                        else
                          bif decide (a1.2.2.2.2.1 ≥ a1.2.2.2.2.2) then
                            bif (v6 == 1000) then
                              some true
                            else
                              some false
                          else
                            let v9 : Int := IntKind.i64.wrap (a1.2.1 - a1.1)
                            let v10 : Int := IntKind.i64.wrap (a1.2.2.2.1 - a1.2.2.1)
                            let v11 : Int := IntKind.i64.wrap (v9 * v10)
                            let v12 : Int := IntKind.i64.wrap (a1.2.2.2.2.2 - a1.2.2.2.2.1)
                            let v13 : Int := IntKind.i64.wrap (v11 * v12)
                            let v14 : Option (Int) := f28 n a0 a1
                            chk (v14.isSome) <|
                            let v15 : Int := v14.getD (0 : Int)
                            let v16 : Int := IntKind.i64.wrap (v13 - v15)
                            bif decide (v16 < 0) then
                              some false
                            else
                              bif (!((v6 == 0) == (v16 == 0))) then
                                some false
                              else
                                let v17 : Int := IntKind.i64.wrap ((1000 : Int) * v16)
                                let v18 : Int := IntKind.i64.wrap (v6 * v13)
                                bif decide (v17 > v18) then
                                  some false
                                else
                                  let v19 : Int := if a2.1 > a1.2.2.2.2.1 then a2.1 else a1.2.2.2.2.1
                                  let v20 : Int := if a2.2 < a1.2.2.2.2.2 then a2.2 else a1.2.2.2.2.2
                                  bif decide (v19 ≥ v20) then
                                    some true
                                  else
                                    let v21 : Option (Int) := f15 n a0 (a1.1, a1.2.1, a1.2.2.1, a1.2.2.2.1, v19, v20)
                                    chk (v21.isSome) <|
                                    let v22 : Int := v21.getD (0 : Int)
                                    bif decide (v22 ≤ v6) then
                                      some true
                                    else
                                      some false
def f10 (n : Nat) (a0 : List (Int × Int × List (Int × Int))) (a1 : Int × Int × Int × Int × Int × Int) (a2 : Int × Int) : Option (Bool) := f10G n a0 a1 a2
/-- What is left to show of WorthWanes. -/
def WorthWanesLaw : Prop := ∀ (a0 : List (Int × Int × List (Int × Int))) (a1 : Int × Int × Int × Int × Int × Int), ((a0.length ≤ maxLen ∧ ∀ x2 ∈ a0, (Lit.int .i64 x2.1).wf = true ∧ (Lit.int .i64 x2.2.1).wf = true ∧ (x2.2.2.length ≤ maxLen ∧ ∀ x7 ∈ x2.2.2, (Lit.int .i64 x7.1).wf = true ∧ (Lit.int .i64 x7.2).wf = true))) → ((Lit.int .i64 a1.1).wf = true ∧ (Lit.int .i64 a1.2.1).wf = true ∧ (Lit.int .i64 a1.2.2.1).wf = true ∧ (Lit.int .i64 a1.2.2.2.1).wf = true ∧ (Lit.int .i64 a1.2.2.2.2.1).wf = true ∧ (Lit.int .i64 a1.2.2.2.2.2).wf = true) → ∃ n, f4 n a0 a1 = some true
/-- What is left to show of WorthAccepts. -/
def WorthAcceptsLaw : Prop := ∀ (a0 : List (Int × Int × List (Int × Int)) × List (Int × Int × Int × Int × Int × Int × Int) × ByteArray × Int × Int × Int × Int × List Int × List Int × Int) (a1 : Int × Int × Int × Int × Int × Int), ((a0.1.length ≤ maxLen ∧ ∀ x4 ∈ a0.1, (Lit.int .i64 x4.1).wf = true ∧ (Lit.int .i64 x4.2.1).wf = true ∧ (x4.2.2.length ≤ maxLen ∧ ∀ x7 ∈ x4.2.2, (Lit.int .i64 x7.1).wf = true ∧ (Lit.int .i64 x7.2).wf = true)) ∧ (a0.2.1.length ≤ maxLen ∧ ∀ x6 ∈ a0.2.1, (Lit.int .i64 x6.1).wf = true ∧ (Lit.int .i64 x6.2.1).wf = true ∧ (Lit.int .i64 x6.2.2.1).wf = true ∧ (Lit.int .i64 x6.2.2.2.1).wf = true ∧ (Lit.int .i64 x6.2.2.2.2.1).wf = true ∧ (Lit.int .i64 x6.2.2.2.2.2.1).wf = true ∧ (Lit.int .i64 x6.2.2.2.2.2.2).wf = true) ∧ a0.2.2.1.size ≤ maxLen ∧ (Lit.int .i64 a0.2.2.2.1).wf = true ∧ (Lit.int .i64 a0.2.2.2.2.1).wf = true ∧ (Lit.int .i64 a0.2.2.2.2.2.1).wf = true ∧ (Lit.int .i64 a0.2.2.2.2.2.2.1).wf = true ∧ (a0.2.2.2.2.2.2.2.1.length ≤ maxLen ∧ ∀ x18 ∈ a0.2.2.2.2.2.2.2.1, (Lit.int .i64 x18).wf = true) ∧ (a0.2.2.2.2.2.2.2.2.1.length ≤ maxLen ∧ ∀ x20 ∈ a0.2.2.2.2.2.2.2.2.1, (Lit.int .i64 x20).wf = true) ∧ (Lit.int .i64 a0.2.2.2.2.2.2.2.2.2).wf = true) → ((Lit.int .i64 a1.1).wf = true ∧ (Lit.int .i64 a1.2.1).wf = true ∧ (Lit.int .i64 a1.2.2.1).wf = true ∧ (Lit.int .i64 a1.2.2.2.1).wf = true ∧ (Lit.int .i64 a1.2.2.2.2.1).wf = true ∧ (Lit.int .i64 a1.2.2.2.2.2).wf = true) → ∃ n, f5 n a0 a1 = some true
/-- What is left to show of WorthBests. -/
def WorthBestsLaw : Prop := ∀ (a0 : List (Int × Int × List (Int × Int)) × List (Int × Int × Int × Int × Int × Int × Int) × ByteArray × Int × Int × Int × Int × List Int × List Int × Int) (a1 : Int × Int × Int × Int) (a2 : Int), ((a0.1.length ≤ maxLen ∧ ∀ x4 ∈ a0.1, (Lit.int .i64 x4.1).wf = true ∧ (Lit.int .i64 x4.2.1).wf = true ∧ (x4.2.2.length ≤ maxLen ∧ ∀ x7 ∈ x4.2.2, (Lit.int .i64 x7.1).wf = true ∧ (Lit.int .i64 x7.2).wf = true)) ∧ (a0.2.1.length ≤ maxLen ∧ ∀ x6 ∈ a0.2.1, (Lit.int .i64 x6.1).wf = true ∧ (Lit.int .i64 x6.2.1).wf = true ∧ (Lit.int .i64 x6.2.2.1).wf = true ∧ (Lit.int .i64 x6.2.2.2.1).wf = true ∧ (Lit.int .i64 x6.2.2.2.2.1).wf = true ∧ (Lit.int .i64 x6.2.2.2.2.2.1).wf = true ∧ (Lit.int .i64 x6.2.2.2.2.2.2).wf = true) ∧ a0.2.2.1.size ≤ maxLen ∧ (Lit.int .i64 a0.2.2.2.1).wf = true ∧ (Lit.int .i64 a0.2.2.2.2.1).wf = true ∧ (Lit.int .i64 a0.2.2.2.2.2.1).wf = true ∧ (Lit.int .i64 a0.2.2.2.2.2.2.1).wf = true ∧ (a0.2.2.2.2.2.2.2.1.length ≤ maxLen ∧ ∀ x18 ∈ a0.2.2.2.2.2.2.2.1, (Lit.int .i64 x18).wf = true) ∧ (a0.2.2.2.2.2.2.2.2.1.length ≤ maxLen ∧ ∀ x20 ∈ a0.2.2.2.2.2.2.2.2.1, (Lit.int .i64 x20).wf = true) ∧ (Lit.int .i64 a0.2.2.2.2.2.2.2.2.2).wf = true) → ((Lit.int .i64 a1.1).wf = true ∧ (Lit.int .i64 a1.2.1).wf = true ∧ (Lit.int .i64 a1.2.2.1).wf = true ∧ (Lit.int .i64 a1.2.2.2).wf = true) → ((Lit.int .i64 a2).wf = true) → ∃ n, f6 n a0 a1 a2 = some true
/-- What is left to show of WorthBest. -/
def WorthBestLaw : Prop := ∀ (a0 : List (Int × Int × List (Int × Int)) × List (Int × Int × Int × Int × Int × Int × Int) × ByteArray × Int × Int × Int × Int × List Int × List Int × Int) (a1 : Int × Int × Int × Int) (a2 : Int × Int × Int), ((a0.1.length ≤ maxLen ∧ ∀ x4 ∈ a0.1, (Lit.int .i64 x4.1).wf = true ∧ (Lit.int .i64 x4.2.1).wf = true ∧ (x4.2.2.length ≤ maxLen ∧ ∀ x7 ∈ x4.2.2, (Lit.int .i64 x7.1).wf = true ∧ (Lit.int .i64 x7.2).wf = true)) ∧ (a0.2.1.length ≤ maxLen ∧ ∀ x6 ∈ a0.2.1, (Lit.int .i64 x6.1).wf = true ∧ (Lit.int .i64 x6.2.1).wf = true ∧ (Lit.int .i64 x6.2.2.1).wf = true ∧ (Lit.int .i64 x6.2.2.2.1).wf = true ∧ (Lit.int .i64 x6.2.2.2.2.1).wf = true ∧ (Lit.int .i64 x6.2.2.2.2.2.1).wf = true ∧ (Lit.int .i64 x6.2.2.2.2.2.2).wf = true) ∧ a0.2.2.1.size ≤ maxLen ∧ (Lit.int .i64 a0.2.2.2.1).wf = true ∧ (Lit.int .i64 a0.2.2.2.2.1).wf = true ∧ (Lit.int .i64 a0.2.2.2.2.2.1).wf = true ∧ (Lit.int .i64 a0.2.2.2.2.2.2.1).wf = true ∧ (a0.2.2.2.2.2.2.2.1.length ≤ maxLen ∧ ∀ x18 ∈ a0.2.2.2.2.2.2.2.1, (Lit.int .i64 x18).wf = true) ∧ (a0.2.2.2.2.2.2.2.2.1.length ≤ maxLen ∧ ∀ x20 ∈ a0.2.2.2.2.2.2.2.2.1, (Lit.int .i64 x20).wf = true) ∧ (Lit.int .i64 a0.2.2.2.2.2.2.2.2.2).wf = true) → ((Lit.int .i64 a1.1).wf = true ∧ (Lit.int .i64 a1.2.1).wf = true ∧ (Lit.int .i64 a1.2.2.1).wf = true ∧ (Lit.int .i64 a1.2.2.2).wf = true) → ((Lit.int .i64 a2.1).wf = true ∧ (Lit.int .i64 a2.2.1).wf = true ∧ (Lit.int .i64 a2.2.2).wf = true) → ∃ n, f7 n a0 a1 a2 = some true
/-- What is left to show of WorthDefects. -/
def WorthDefectsLaw : Prop := ∀ (a0 : List (Int × Int × List (Int × Int)) × List (Int × Int × Int × Int × Int × Int × Int) × ByteArray × Int × Int × Int × Int × List Int × List Int × Int) (a1 : Int × Int × Int × Int × Int × Int) (a2 : List (Int × Int × List (Int × Int)) × List (Int × Int × Int × Int × Int × Int × Int) × ByteArray × Int × Int × Int × Int × List Int × List Int × Int), ((a0.1.length ≤ maxLen ∧ ∀ x4 ∈ a0.1, (Lit.int .i64 x4.1).wf = true ∧ (Lit.int .i64 x4.2.1).wf = true ∧ (x4.2.2.length ≤ maxLen ∧ ∀ x7 ∈ x4.2.2, (Lit.int .i64 x7.1).wf = true ∧ (Lit.int .i64 x7.2).wf = true)) ∧ (a0.2.1.length ≤ maxLen ∧ ∀ x6 ∈ a0.2.1, (Lit.int .i64 x6.1).wf = true ∧ (Lit.int .i64 x6.2.1).wf = true ∧ (Lit.int .i64 x6.2.2.1).wf = true ∧ (Lit.int .i64 x6.2.2.2.1).wf = true ∧ (Lit.int .i64 x6.2.2.2.2.1).wf = true ∧ (Lit.int .i64 x6.2.2.2.2.2.1).wf = true ∧ (Lit.int .i64 x6.2.2.2.2.2.2).wf = true) ∧ a0.2.2.1.size ≤ maxLen ∧ (Lit.int .i64 a0.2.2.2.1).wf = true ∧ (Lit.int .i64 a0.2.2.2.2.1).wf = true ∧ (Lit.int .i64 a0.2.2.2.2.2.1).wf = true ∧ (Lit.int .i64 a0.2.2.2.2.2.2.1).wf = true ∧ (a0.2.2.2.2.2.2.2.1.length ≤ maxLen ∧ ∀ x18 ∈ a0.2.2.2.2.2.2.2.1, (Lit.int .i64 x18).wf = true) ∧ (a0.2.2.2.2.2.2.2.2.1.length ≤ maxLen ∧ ∀ x20 ∈ a0.2.2.2.2.2.2.2.2.1, (Lit.int .i64 x20).wf = true) ∧ (Lit.int .i64 a0.2.2.2.2.2.2.2.2.2).wf = true) → ((Lit.int .i64 a1.1).wf = true ∧ (Lit.int .i64 a1.2.1).wf = true ∧ (Lit.int .i64 a1.2.2.1).wf = true ∧ (Lit.int .i64 a1.2.2.2.1).wf = true ∧ (Lit.int .i64 a1.2.2.2.2.1).wf = true ∧ (Lit.int .i64 a1.2.2.2.2.2).wf = true) → ((a2.1.length ≤ maxLen ∧ ∀ x4 ∈ a2.1, (Lit.int .i64 x4.1).wf = true ∧ (Lit.int .i64 x4.2.1).wf = true ∧ (x4.2.2.length ≤ maxLen ∧ ∀ x7 ∈ x4.2.2, (Lit.int .i64 x7.1).wf = true ∧ (Lit.int .i64 x7.2).wf = true)) ∧ (a2.2.1.length ≤ maxLen ∧ ∀ x6 ∈ a2.2.1, (Lit.int .i64 x6.1).wf = true ∧ (Lit.int .i64 x6.2.1).wf = true ∧ (Lit.int .i64 x6.2.2.1).wf = true ∧ (Lit.int .i64 x6.2.2.2.1).wf = true ∧ (Lit.int .i64 x6.2.2.2.2.1).wf = true ∧ (Lit.int .i64 x6.2.2.2.2.2.1).wf = true ∧ (Lit.int .i64 x6.2.2.2.2.2.2).wf = true) ∧ a2.2.2.1.size ≤ maxLen ∧ (Lit.int .i64 a2.2.2.2.1).wf = true ∧ (Lit.int .i64 a2.2.2.2.2.1).wf = true ∧ (Lit.int .i64 a2.2.2.2.2.2.1).wf = true ∧ (Lit.int .i64 a2.2.2.2.2.2.2.1).wf = true ∧ (a2.2.2.2.2.2.2.2.1.length ≤ maxLen ∧ ∀ x18 ∈ a2.2.2.2.2.2.2.2.1, (Lit.int .i64 x18).wf = true) ∧ (a2.2.2.2.2.2.2.2.2.1.length ≤ maxLen ∧ ∀ x20 ∈ a2.2.2.2.2.2.2.2.2.1, (Lit.int .i64 x20).wf = true) ∧ (Lit.int .i64 a2.2.2.2.2.2.2.2.2.2).wf = true) → ∃ n, f8 n a0 a1 a2 = some true
/-- What is left to show of WorthOrder. -/
def WorthOrderLaw : Prop := ∀ (a0 : List (Int × Int × List (Int × Int)) × List (Int × Int × Int × Int × Int × Int × Int) × ByteArray × Int × Int × Int × Int × List Int × List Int × Int) (a1 : Int × Int × Int × Int × Int × Int) (a2 : Int), ((a0.1.length ≤ maxLen ∧ ∀ x4 ∈ a0.1, (Lit.int .i64 x4.1).wf = true ∧ (Lit.int .i64 x4.2.1).wf = true ∧ (x4.2.2.length ≤ maxLen ∧ ∀ x7 ∈ x4.2.2, (Lit.int .i64 x7.1).wf = true ∧ (Lit.int .i64 x7.2).wf = true)) ∧ (a0.2.1.length ≤ maxLen ∧ ∀ x6 ∈ a0.2.1, (Lit.int .i64 x6.1).wf = true ∧ (Lit.int .i64 x6.2.1).wf = true ∧ (Lit.int .i64 x6.2.2.1).wf = true ∧ (Lit.int .i64 x6.2.2.2.1).wf = true ∧ (Lit.int .i64 x6.2.2.2.2.1).wf = true ∧ (Lit.int .i64 x6.2.2.2.2.2.1).wf = true ∧ (Lit.int .i64 x6.2.2.2.2.2.2).wf = true) ∧ a0.2.2.1.size ≤ maxLen ∧ (Lit.int .i64 a0.2.2.2.1).wf = true ∧ (Lit.int .i64 a0.2.2.2.2.1).wf = true ∧ (Lit.int .i64 a0.2.2.2.2.2.1).wf = true ∧ (Lit.int .i64 a0.2.2.2.2.2.2.1).wf = true ∧ (a0.2.2.2.2.2.2.2.1.length ≤ maxLen ∧ ∀ x18 ∈ a0.2.2.2.2.2.2.2.1, (Lit.int .i64 x18).wf = true) ∧ (a0.2.2.2.2.2.2.2.2.1.length ≤ maxLen ∧ ∀ x20 ∈ a0.2.2.2.2.2.2.2.2.1, (Lit.int .i64 x20).wf = true) ∧ (Lit.int .i64 a0.2.2.2.2.2.2.2.2.2).wf = true) → ((Lit.int .i64 a1.1).wf = true ∧ (Lit.int .i64 a1.2.1).wf = true ∧ (Lit.int .i64 a1.2.2.1).wf = true ∧ (Lit.int .i64 a1.2.2.2.1).wf = true ∧ (Lit.int .i64 a1.2.2.2.2.1).wf = true ∧ (Lit.int .i64 a1.2.2.2.2.2).wf = true) → ((Lit.int .i64 a2).wf = true) → ∃ n, f9 n a0 a1 a2 = some true
/-- What is left to show of WorthWood. -/
def WorthWoodLaw : Prop := ∀ (a0 : List (Int × Int × List (Int × Int))) (a1 : Int × Int × Int × Int × Int × Int) (a2 : Int × Int), ((a0.length ≤ maxLen ∧ ∀ x2 ∈ a0, (Lit.int .i64 x2.1).wf = true ∧ (Lit.int .i64 x2.2.1).wf = true ∧ (x2.2.2.length ≤ maxLen ∧ ∀ x7 ∈ x2.2.2, (Lit.int .i64 x7.1).wf = true ∧ (Lit.int .i64 x7.2).wf = true))) → ((Lit.int .i64 a1.1).wf = true ∧ (Lit.int .i64 a1.2.1).wf = true ∧ (Lit.int .i64 a1.2.2.1).wf = true ∧ (Lit.int .i64 a1.2.2.2.1).wf = true ∧ (Lit.int .i64 a1.2.2.2.2.1).wf = true ∧ (Lit.int .i64 a1.2.2.2.2.2).wf = true) → ((Lit.int .i64 a2.1).wf = true ∧ (Lit.int .i64 a2.2).wf = true) → ∃ n, f10 n a0 a1 a2 = some true
end Go.Proofs.Ytdhgbgbdnifonaa.Ev
