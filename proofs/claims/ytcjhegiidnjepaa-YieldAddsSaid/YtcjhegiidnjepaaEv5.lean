/- What the evaluator does of one operation, as one effect: its continuation gets nothing else. -/
import Derived.Test.YtcjhegiidnjepaaEv4
namespace Go.Proofs.Ytcjhegiidnjepaa.Ev
open Go.RowKit
set_option linter.unusedVariables false
set_option linter.unusedSimpArgs false

structure Frc.Law (F : Frc) : Prop where
  i : ∀ {β : Type} (n : Int) (k : Int → Option β), F.i n k = k n
  b : ∀ {β : Type} (n : Bool) (k : Bool → Option β), F.b n k = k n
  l : ∀ {α β : Type} (n : List α) (k : List α → Option β), F.l n k = k n
theorem frcN_eq {β : Type} (n : Nat) (k : Nat → Option β) : frcN n k = k n := by cases n <;> rfl
theorem frcI_eq {β : Type} (n : Int) (k : Int → Option β) : frcI n k = k n := by cases n <;> simp only [frcI, frcN_eq]
theorem frcB_eq {β : Type} (n : Bool) (k : Bool → Option β) : frcB n k = k n := by cases n <;> rfl
theorem frcL_eq {α β : Type} (n : List α) (k : List α → Option β) : frcL n k = k n := by
  induction n generalizing k with
  | nil => rfl
  | cons x r ih => simp only [frcL, ih]
theorem Frc.law_closed : Frc.closed.Law := ⟨frcI_eq, frcB_eq, frcL_eq⟩
theorem Frc.law_open : Frc.open.Law := ⟨fun _ _ => rfl, fun _ _ => rfl, fun _ _ => rfl⟩

section
variable {β : Type} {V : Vw} {K : KE β}
theorem kInt_eq (hF : V.F.Law) {γ : Type} {K : KE γ} (k : IntKind) (n : Int) : kInt V.F K k n = K ⟨.int k n, [], []⟩ := hF.i _ _
theorem kBool_eq (hF : V.F.Law) {γ : Type} {K : KE γ} (b : Bool) : kBool V.F K b = K ⟨.bool b, [], []⟩ := hF.b _ _
theorem forceCells_eq (hF : V.F.Law) {γ : Type} : ∀ (cs : List AV) (K : List AV → Option γ), forceCells V.F cs K = K cs
  | [], K => rfl
  | c :: cs, K => by cases c <;> simp only [forceCells, hF.i, hF.b, forceCells_eq hF cs]
theorem kRead_eff (hF : V.F.Law) (v : AV) : kRead V.F K v = (kRead V.F some v).bind K := by
  unfold kRead val
  split <;> simp [kInt_eq hF, kBool_eq hF]
theorem arith_eff (hF : V.F.Law) (op : BinOp) (k : IntKind) (a b : Int) : arith V.F op k a b K = (arith V.F op k a b some).bind K := by
  unfold arith chk
  cases op <;> simp only [kInt_eq hF, kBool_eq hF, Option.bind_some, Option.bind_none] <;> first | rfl | (split <;> rfl) | (cases (!decide (b = 0)) <;> rfl)
theorem chk_eff (hF : V.F.Law) {c : Bool} {x : Option Eff} {y : Option β} (h : y = x.bind K) : chk c y = (chk c x).bind K := by cases c <;> simp [chk, h]
theorem binInt_eff (hF : V.F.Law) (op : BinOp) (k j : IntKind) (a b : Int) : binInt V.F op k j a b K = (binInt V.F op k j a b some).bind K := by
  unfold binInt
  split
  · exact chk_eff hF (by rw [kInt_eq hF, kInt_eq hF]; rfl)
  · exact chk_eff hF (by rw [kInt_eq hF, kInt_eq hF]; rfl)
  · exact chk_eff hF (arith_eff hF op k a b)
theorem eqv_eff (hF : V.F.Law) (op : BinOp) (r : Option Bool) : eqv V.F op r K = (eqv V.F op r some).bind K := by
  unfold eqv
  split <;> simp [kBool_eq hF]
theorem binStr_eff (hF : V.F.Law) (op : BinOp) (a b : ByteArray) : binStr V.F op a b K = (binStr V.F op a b some).bind K := by
  unfold binStr
  split <;> simp [kBool_eq hF]
theorem bin_eff (hF : V.F.Law) (op : BinOp) (t : Nat) (x y : AV) : bin V op t x y K = (bin V op t x y some).bind K := by
  unfold bin
  split
  · exact binInt_eff hF ..
  · exact binStr_eff hF ..
  · exact eqv_eff hF ..
  · exact eqv_eff hF ..
theorem un_eff (hF : V.F.Law) (op : UnOp) (x : AV) : un V.F op x K = (un V.F op x some).bind K := by
  unfold un
  split <;> simp [kInt_eq hF, kBool_eq hF]
theorem fit_eff (hF : V.F.Law) (t : Nat) (cs : List AV) (off : Nat) : fit V t cs off (kRead V.F K) = (fit V t cs off (kRead V.F some)).bind K := by
  unfold fit
  split
  · refine chk_eff hF ?_
    cases isAgg _
    · simp only [cond_false]
      split
      · exact kRead_eff hF _
      · rfl
    · simp only [cond_true, forceCells_eq hF]
      exact kRead_eff hF _
  · rfl
theorem oMove_eff (hF : V.F.Law) (x : Operand) : oMove V x K = (oMove V x some).bind K := by
  unfold oMove val
  split <;> rfl
theorem oPick_eff (hF : V.F.Law) (c a b : Operand) : oPick V c a b K = (oPick V c a b some).bind K := by
  unfold oPick
  split
  · rename_i x _
    cases x
    · exact oMove_eff hF _
    · exact oMove_eff hF _
  · rfl
theorem oAlloc_eff (hF : V.F.Law) (t : Nat) : oAlloc V t K = (oAlloc V t some).bind K := by
  unfold oAlloc
  split <;> rfl
theorem oBox_eff (hF : V.F.Law) (x : Operand) : oBox V x K = (oBox V x some).bind K := by
  unfold oBox
  split <;> rfl
theorem oBuild_eff (hF : V.F.Law) (t : Nat) (ps : List (Nat × Operand)) : oBuild V t ps K = (oBuild V t ps some).bind K := by
  unfold oBuild val
  split
  · split
    · simp only [forceCells_eq hF]; rfl
    · rfl
  · rfl
theorem oBuildSlice_eff (hF : V.F.Law) (t len : Nat) (ps : List (Nat × Operand)) : oBuildSlice V t len ps K = (oBuildSlice V t len ps some).bind K := by
  unfold oBuildSlice oBuildSlice2
  split
  · split
    · split
      · simp only [forceCells_eq hF, hF.l]
        refine chk_eff hF ?_
        split
        · split <;> rfl
        · rfl
      · rfl
    · rfl
  · rfl
theorem oLoad_eff (hF : V.F.Law) (t : Nat) (x : Operand) : oLoad V t x K = (oLoad V t x some).bind K := by
  unfold oLoad
  split
  · split
    · exact fit_eff hF ..
    · rfl
  · exact fit_eff hF ..
  · split
    · exact chk_eff hF (fit_eff hF ..)
    · rfl
  · rfl
theorem oStore_eff (hF : V.F.Law) (t : Nat) (x y : Operand) : oStore V t x y K = (oStore V t x y some).bind K := by
  unfold oStore storeTo
  split
  · refine chk_eff hF ?_
    split
    · split
      · exact chk_eff hF (by simp only [forceCells_eq hF]; rfl)
      · rfl
    · refine chk_eff hF ?_
      split
      · refine chk_eff hF ?_
        unfold storeRow
        refine chk_eff hF ?_
        split
        · split
          · simp only [hF.l]; rfl
          · rfl
        · rfl
      · rfl
    · rfl
  · rfl
theorem oNilCheck_eff (hF : V.F.Law) (x : Operand) : oNilCheck V x K = (oNilCheck V x some).bind K := by
  unfold oNilCheck val
  split <;> rfl
theorem oConvert_eff (hF : V.F.Law) (s d : Nat) (x : Operand) : oConvert V s d x K = (oConvert V s d x some).bind K := by
  unfold oConvert val
  split
  · split <;> simp [kInt_eq hF]
  · rfl
theorem oExtract_eff (hF : V.F.Law) (x : Operand) (i : Nat) : oExtract V x i K = (oExtract V x i some).bind K := by
  unfold oExtract val
  split
  · split
    · exact chk_eff hF rfl
    · rfl
  · rfl
theorem moveOff_eff (hF : V.F.Law) (p : AV) (fo : Nat) : moveOff p fo K = (moveOff p fo some).bind K := by
  unfold moveOff val
  split <;> first | (simp only [frcN_eq]; rfl) | rfl
theorem oFieldAddr_eff (hF : V.F.Law) (s : Nat) (x : Operand) (f : Nat) : oFieldAddr V s x f K = (oFieldAddr V s x f some).bind K := by
  unfold oFieldAddr
  split
  · split
    · exact chk_eff hF (moveOff_eff hF ..)
    · rfl
  · rfl
theorem oField_eff (hF : V.F.Law) (s : Nat) (x : Operand) (f : Nat) : oField V s x f K = (oField V s x f some).bind K := by
  unfold oField
  split
  · exact fit_eff hF ..
  · rfl
theorem idxSlice_eff (hF : V.F.Law) (ee : TyE) (x : AV) (n : Int) : idxSlice V ee x n K = (idxSlice V ee x n some).bind K := by
  unfold idxSlice val
  split
  · exact chk_eff hF (chk_eff hF (chk_eff hF rfl))
  · split
    · exact chk_eff hF (chk_eff hF (chk_eff hF rfl))
    · rfl
  · rfl
theorem idxArr_eff (hF : V.F.Law) (m sz : Nat) (x : AV) (n : Int) : idxArr m sz x n K = (idxArr m sz x n some).bind K := by
  unfold idxArr val
  split
  · exact chk_eff hF (chk_eff hF (by simp only [frcN_eq]; rfl))
  · rfl
theorem oIndexAddr_eff (hF : V.F.Law) (t : Nat) (x i : Operand) : oIndexAddr V t x i K = (oIndexAddr V t x i some).bind K := by
  unfold oIndexAddr
  split
  · split
    · split
      · exact idxSlice_eff hF ..
      · rfl
    · split
      · exact idxArr_eff hF ..
      · rfl
    · rfl
  · rfl
theorem oIndex_eff (hF : V.F.Law) (t : Nat) (x i : Operand) : oIndex V t x i K = (oIndex V t x i some).bind K := by
  unfold oIndex
  split
  · split
    · split
      · exact chk_eff hF (chk_eff hF (by simp only [frcN_eq]; exact fit_eff hF ..))
      · rfl
    · exact chk_eff hF (chk_eff hF (by rw [kInt_eq hF, kInt_eq hF]; rfl))
    · rfl
  · rfl
theorem cutSlice_eff (hF : V.F.Law) (sz : Nat) (x : AV) (l0 : Int) (hi : Option Operand) : cutSlice V sz x l0 hi K = (cutSlice V sz x l0 hi some).bind K := by
  unfold cutSlice
  split
  · split
    · exact chk_eff hF (chk_eff hF (chk_eff hF (chk_eff hF (by simp only [hF.l]; rfl))))
    · rfl
  · rfl
theorem popS_eff (hF : V.F.Law) (sz : Nat) (x : AV) (hi : Option Operand) : popS V sz x hi K = (popS V sz x hi some).bind K := by
  unfold popS
  split
  · split
    · split
      · exact chk_eff hF (chk_eff hF (chk_eff hF (chk_eff hF (by simp only [hF.l]; rfl))))
      · rfl
    · rfl
  · rfl
theorem oSlice_eff (hF : V.F.Law) (t : Nat) (x : Operand) (lo hi mx : Option Operand) : oSlice V t x lo hi mx K = (oSlice V t x lo hi mx some).bind K := by
  unfold oSlice
  split
  · split
    · split
      · cases popT V x lo
        · exact cutSlice_eff hF ..
        · exact popS_eff hF ..
      · rfl
    · unfold cutStr val
      split
      · split
        · exact chk_eff hF (chk_eff hF (chk_eff hF rfl))
        · rfl
      · rfl
    · rfl
  · rfl
theorem oMakeFunc_eff (hF : V.F.Law) (fn : Fn) (first caps : List Operand) : oMakeFunc V fn first caps K = (oMakeFunc V fn first caps some).bind K := by
  unfold oMakeFunc val
  split
  · exact chk_eff hF rfl
  · rfl
theorem oCallVal_eff (hF : V.F.Law) (f : FuncId) (args : List AV) : oCallVal V f args K = (oCallVal V f args some).bind K := by
  unfold oCallVal
  split
  · rename_i args' _
    cases (namesL2 args').isEmpty
    · refine chk_eff hF ?_
      rw [Option.bind_assoc]
      rfl
    · refine chk_eff hF ?_
      rw [Option.bind_assoc]
      congr 1
      funext r
      exact chk_eff hF (chk_eff hF rfl)
  · rfl
theorem oRead_eff (hF : V.F.Law) (r : Row) (f : FuncId) (args : List AV) : oRead V r f args K = (oRead V r f args some).bind K := by
  unfold oRead
  split
  · split
    · split
      · refine chk_eff hF ?_
        rw [Option.bind_assoc]
        congr 1
        funext q
        exact chk_eff hF (chk_eff hF (chk_eff hF rfl))
      · rfl
    · rfl
  · rfl
theorem oYield_eff (hF : V.F.Law) (y : Nat) (args : List AV) : oYield V y args K = (oYield V y args some).bind K := by
  unfold oYield
  split
  · refine chk_eff hF ?_
    rw [Option.bind_assoc]
    rfl
  · rfl
theorem oLen_eff (hF : V.F.Law) (d : TyD) (x : AV) : oLen V d x K = (oLen V d x some).bind K := by
  unfold oLen
  split
  · exact chk_eff hF (by rw [kInt_eq hF, kInt_eq hF]; rfl)
  · exact chk_eff hF (by rw [kInt_eq hF, kInt_eq hF]; rfl)
  · exact chk_eff hF (by rw [kInt_eq hF, kInt_eq hF]; rfl)
  · split
    · exact chk_eff hF (by rw [kInt_eq hF, kInt_eq hF]; rfl)
    · rfl
  · rfl
theorem oMax_eff (hF : V.F.Law) (k : IntKind) : ∀ (l : List AV) (a : Int), oMax V k a l K = (oMax V k a l some).bind K
  | [], a => rfl
  | c :: l, a => by
    cases c <;> simp only [oMax, hF.i, Option.bind_none]
    exact oMax_eff hF k l _
theorem oMin_eff (hF : V.F.Law) (k : IntKind) : ∀ (l : List AV) (a : Int), oMin V k a l K = (oMin V k a l some).bind K
  | [], a => rfl
  | c :: l, a => by
    cases c <;> simp only [oMin, hF.i, Option.bind_none]
    exact oMin_eff hF k l _
theorem oAppend_eff (hF : V.F.Law) (r : Row) (s x : AV) : oAppend V r s x K = (oAppend V r s x some).bind K := by
  unfold oAppend
  split
  · exact chk_eff hF rfl
  · split
    · exact chk_eff hF (chk_eff hF (by simp only [hF.l]; rfl))
    · rfl
  · rfl
theorem oCall_eff (hF : V.F.Law) (c : Call) : oCall V c K = (oCall V c some).bind K := by
  unfold oCall
  split
  · split
    · refine chk_eff hF ?_
      split
      · exact oRead_eff hF ..
      · exact oCallVal_eff hF ..
    · exact oYield_eff hF ..
    · rfl
  · split
    · split
      · exact oLen_eff hF ..
      · rfl
    · rfl
  · split
    · exact oMax_eff hF ..
    · rfl
  · split
    · exact oMin_eff hF ..
    · rfl
  · split
    · refine chk_eff hF ?_
      split
      · split
        · exact chk_eff hF (oAppend_eff hF ..)
        · rfl
      · rfl
    · rfl
  · rfl
theorem opK_eff (hF : V.F.Law) (o : Op) : opK V o K = (opK V o some).bind K := by
  unfold opK
  split
  · exact oMove_eff hF ..
  · exact oMove_eff hF ..
  · exact oPick_eff hF ..
  · exact oAlloc_eff hF ..
  · exact oBox_eff hF ..
  · exact oBuild_eff hF ..
  · exact oBuildSlice_eff hF ..
  · exact oLoad_eff hF ..
  · exact oStore_eff hF ..
  · exact oNilCheck_eff hF ..
  · exact bin_eff hF ..
  · exact un_eff hF ..
  · exact oConvert_eff hF ..
  · exact oExtract_eff hF ..
  · exact oFieldAddr_eff hF ..
  · exact oField_eff hF ..
  · exact oIndexAddr_eff hF ..
  · exact oIndex_eff hF ..
  · exact oSlice_eff hF ..
  · exact oMakeFunc_eff hF ..
  · exact oCall_eff hF ..
  · rfl
end
end Go.Proofs.Ytcjhegiidnjepaa.Ev
