/- An evaluator for the fragment of Go code that the claims reach: values are numbers, bools, strings, structs, read slices told by their lists, and names of blocks that the code itself has made. Definitions alone. -/
import GoSem.Claim
namespace Go.Proofs.Ytcjhegiidnjepaa.Ev

/-! ### Types of elements -/
mutual
inductive Leaf where
  | int (k : IntKind)
  | bool
  | str
  | sl (r : Row)
inductive Row where
  | one (l : Leaf)
  | cons (l : Leaf) (r : Row)
end

mutual
def Leaf.beq : Leaf → Leaf → Bool
  | .int k, .int j => decide (k = j)
  | .bool, .bool => true
  | .str, .str => true
  | .sl r, .sl s => Row.beq r s
  | _, _ => false
def Row.beq : Row → Row → Bool
  | .one l, .one m => Leaf.beq l m
  | .cons l r, .cons m s => Leaf.beq l m && Row.beq r s
  | _, _ => false
end
mutual
theorem Leaf.eq_of_beq : ∀ {l m : Leaf}, Leaf.beq l m = true → l = m
  | .int k, .int j, h => by simp only [Leaf.beq, decide_eq_true_eq] at h; rw [h]
  | .bool, .bool, _ => rfl
  | .str, .str, _ => rfl
  | .sl r, .sl s, h => by simp only [Leaf.beq] at h; rw [Row.eq_of_beq h]
theorem Row.eq_of_beq : ∀ {r s : Row}, Row.beq r s = true → r = s
  | .one l, .one m, h => by simp only [Row.beq] at h; rw [Leaf.eq_of_beq h]
  | .cons l r, .cons m s, h => by
    simp only [Row.beq, Bool.and_eq_true] at h
    rw [Leaf.eq_of_beq h.1, Row.eq_of_beq h.2]
end

mutual
def Leaf.T : Leaf → Type
  | .int _ => Int
  | .bool => Bool
  | .str => ByteArray
  | .sl r => List (Row.T r)
def Row.T : Row → Type
  | .one l => Leaf.T l
  | .cons l r => Leaf.T l × Row.T r
end
mutual
def Leaf.dflt : (l : Leaf) → Leaf.T l
  | .int _ => (0 : Int)
  | .bool => false
  | .str => ByteArray.empty
  | .sl r => ([] : List (Row.T r))
def Row.dflt : (r : Row) → Row.T r
  | .one l => Leaf.dflt l
  | .cons l r => (Leaf.dflt l, Row.dflt r)
end
def Row.size : Row → Nat
  | .one _ => 1
  | .cons _ r => Row.size r + 1

/-! ### Values -/
inductive AV where
  | undef
  | void
  | int (k : IntKind) (n : Int)
  | bool (b : Bool)
  | str (s : ByteArray)
  | nils
  | nilp
  | nilf
  | nili
  | imm (r : Row) (l : List (Row.T r))
  | own (b : Nat)
  | ptr (b off : Nat)
  | eimm (r : Row) (l : List (Row.T r)) (i off : Nat)
  | eown (b sz i off : Nat)
  | yld (b : Nat)
  | fn (f : FuncId) (caps : List AV)
  | agg (cs : List AV)
  | tup (vs : List AV)

inductive Blk where
  | box (cs : List AV)
  | row (r : Row) (l : List (Row.T r))

def Leaf.enc : (l : Leaf) → Leaf.T l → AV
  | .int k, n => .int k n
  | .bool, b => .bool b
  | .str, s => .str s
  | .sl r, l => .imm r l
def Row.enc : (r : Row) → Row.T r → List AV
  | .one l, x => [Leaf.enc l x]
  | .cons l r, x => Leaf.enc l x.1 :: Row.enc r x.2
/-- A value as a list over the row r, if it is one. -/
def castRow {r s : Row} (l : List (Row.T r)) : Option (List (Row.T s)) :=
  if h : Row.beq r s = true then some (Row.eq_of_beq h ▸ l) else none
def decInt (k : IntKind) (v : AV) : Option Int := match v with
  | .int j n => if k = j then some n else none
  | _ => none
def decBool (v : AV) : Option Bool := match v with
  | .bool b => some b
  | _ => none
def decStr (v : AV) : Option ByteArray := match v with
  | .str s => some s
  | _ => none
def decSl (r : Row) (v : AV) : Option (List (Row.T r)) := match v with
  | .nils => some []
  | .imm _ l => castRow l
  | _ => none
def Leaf.dec (l : Leaf) (v : AV) : Option (Leaf.T l) := match l with
  | .int k => decInt k v
  | .bool => decBool v
  | .str => decStr v
  | .sl r => decSl r v
def pairO {α β : Type} (x : Option α) (y : Option β) : Option (α × β) := match x, y with
  | some a, some b => some (a, b)
  | _, _ => none
def one1 {α : Type} (f : AV → Option α) (cs : List AV) : Option α := match cs with
  | [v] => f v
  | _ => none
def cons1 {α β : Type} (f : AV → Option α) (g : List AV → Option β) (cs : List AV) : Option (α × β) := match cs with
  | v :: vs => pairO (f v) (g vs)
  | [] => none
def Row.dec : (r : Row) → List AV → Option (Row.T r)
  | .one l => one1 (Leaf.dec l)
  | .cons l r => cons1 (Leaf.dec l) (Row.dec r)

/-! ### Types' table -/
inductive TyD where
  | int (k : IntKind)
  | bool
  | str
  | struct (fs : List (Nat × Nat))     -- offset, type
  | arr (n e : Nat)
  | slice (e : Nat)
  | ptr (e : Nat)
  | func
  | other
structure TyE where
  d : TyD
  size : Nat
  bytes : Nat
  zero : List AV
  row : Option Row
  eq : Bool
abbrev Tab := List (Nat × TyE)
def get {α : Type} : List (Nat × α) → Nat → Option α
  | [], _ => none
  | (k, v) :: r, n => bif Nat.beq k n then some v else get r n
def isAgg : TyD → Bool
  | .struct _ => true
  | .arr _ _ => true
  | _ => false

/-! ### Forcing: for closed runs, whole numbers and lists are brought to their values at once; else they stay as they are. -/
structure Frc where
  i : {β : Type} → Int → (Int → Option β) → Option β
  b : {β : Type} → Bool → (Bool → Option β) → Option β
  l : {α β : Type} → List α → (List α → Option β) → Option β
def frcN {β : Type} (n : Nat) (k : Nat → Option β) : Option β := match n with
  | 0 => k 0
  | m + 1 => k (m + 1)
def frcI {β : Type} (n : Int) (k : Int → Option β) : Option β := match n with
  | .ofNat m => frcN m fun m => k (.ofNat m)
  | .negSucc m => frcN m fun m => k (.negSucc m)
def frcB {β : Type} (b : Bool) (k : Bool → Option β) : Option β := match b with
  | true => k true
  | false => k false
def frcL {α β : Type} : List α → (List α → Option β) → Option β
  | [], k => k []
  | x :: r, k => frcL r fun r => k (x :: r)
def Frc.closed : Frc := ⟨frcI, frcB, frcL⟩
def Frc.open : Frc := ⟨fun n k => k n, fun b k => k b, fun l k => k l⟩

/-! ### States -/
inductive Tr where
  | nil
  | node (v : AV) (l r : Tr)
def Tr.get : Nat → Tr → Nat → AV
  | 0, _, _ => .undef
  | _ + 1, .nil, _ => .undef
  | f + 1, .node v l r, n => bif Nat.beq n 0 then v else bif Nat.beq (n % 2) 1 then Tr.get f l (n / 2) else Tr.get f r (n / 2 - 1)
def Tr.set : Nat → Tr → Nat → AV → Tr
  | 0, t, _, _ => t
  | f + 1, .nil, n, x => bif Nat.beq n 0 then .node x .nil .nil else bif Nat.beq (n % 2) 1 then .node .undef (Tr.set f .nil (n / 2) x) .nil else .node .undef .nil (Tr.set f .nil (n / 2 - 1) x)
  | f + 1, .node v l r, n, x => bif Nat.beq n 0 then .node x l r else bif Nat.beq (n % 2) 1 then .node v (Tr.set f l (n / 2) x) r else .node v l (Tr.set f r (n / 2 - 1) x)
def look (tm : Tr) (t : Nat) : AV := Tr.get 12 tm t
def putT (tm : Tr) (t : Nat) (v : AV) : Tr := Tr.set 12 tm t v
def ofConst : Value → AV
  | .int k n => .int k n
  | .bool b => .bool b
  | .string s => .str s
  | .slice none 0 0 => .nils
  | .pointer none => .nilp
  | .nilFunc => .nilf
  | .nilIface => .nili
  | _ => .undef
def opnd (tm : Tr) : Operand → AV
  | .tmp t => look tm t
  | .const v => ofConst v
  | .func f => .fn f []
  | .global _ => .undef
def opnds (tm : Tr) : List Operand → List AV
  | [] => []
  | x :: r => opnd tm x :: opnds tm r
def partsOf (tm : Tr) : List (Nat × Operand) → List (Nat × AV)
  | [] => []
  | x :: r => (x.1, opnd tm x.2) :: partsOf tm r

/-- What an operation does: its value; blocks that get another content (none: the name is used up); names that may no longer be stored into. -/
structure Eff where
  val : AV
  wr : List (Nat × Option Blk)
  fz : List Nat

/-- Equality, by the type. -/
def eq1 (d : TyD) (xs ys : List AV) : Option Bool := match d, xs, ys with
  | .int _, [.int k a], [.int j b] => if k = j then some (a == b) else none
  | .bool, [.bool a], [.bool b] => some (a == b)
  | .str, [.str a], [.str b] => some (a.toList == b.toList)
  | .ptr _, [.nilp], [.nilp] => some true
  | .ptr _, [.nilp], [.ptr _ _] => some false
  | .ptr _, [.ptr _ _], [.nilp] => some false
  | _, _, _ => none
def dropN {α : Type} : Nat → List α → List α
  | 0, l => l
  | _ + 1, [] => []
  | n + 1, _ :: r => dropN n r
def takeN {α : Type} : Nat → List α → List α
  | 0, _ => []
  | _ + 1, [] => []
  | n + 1, x :: r => x :: takeN n r
def andO (a b : Option Bool) : Option Bool := match a, b with
  | some x, some y => some (x && y)
  | _, _ => none
def eqFs (T : Tab) (R : Nat → List AV → List AV → Option Bool) : List (Nat × Nat) → List AV → List AV → Option Bool
  | [], _, _ => some true
  | f :: r, xs, ys => match get T f.2 with
    | some fe => andO (R f.2 (takeN fe.size (dropN f.1 xs)) (takeN fe.size (dropN f.1 ys))) (eqFs T R r xs ys)
    | none => none
def eqIs (R : List AV → List AV → Option Bool) (sz : Nat) : Nat → List AV → List AV → Option Bool
  | 0, _, _ => some true
  | n + 1, xs, ys => andO (R (takeN sz xs) (takeN sz ys)) (eqIs R sz n (dropN sz xs) (dropN sz ys))
def eqT (T : Tab) : Nat → Nat → List AV → List AV → Option Bool
  | 0, _, _, _ => none
  | n + 1, t, xs, ys => match get T t with
    | some e => match e.d with
      | .struct fs => bif e.eq then eqFs T (eqT T n) fs xs ys else none
      | .arr m el => match get T el with
        | some ee => bif e.eq then eqIs (eqT T n el) ee.size m xs ys else none
        | none => none
      | d => eq1 d xs ys
    | none => none
def cellsOf : AV → List AV
  | .agg cs => cs
  | v => [v]
def told : AV → Bool
  | .undef => false
  | .void => false
  | _ => true
def known : AV → Bool
  | .undef => false
  | .void => false
  | .tup _ => false
  | _ => true
def plain1 : AV → Bool
  | .undef => false
  | .void => false
  | .tup _ => false
  | .agg _ => false
  | _ => true
def splice (cs : List AV) (off : Nat) (xs : List AV) : List AV := match off, cs with
  | 0, cs => xs ++ cs.drop xs.length
  | n + 1, c :: cs => c :: splice cs n xs
  | _ + 1, [] => []
def nthOff : List (Nat × Nat) → Nat → Option (Nat × Nat)
  | [], _ => none
  | x :: _, 0 => some x
  | _ :: r, n + 1 => nthOff r n
def fillParts (offs : Nat → Option (Nat × Nat)) (cs : List AV) : List (Nat × AV) → Option (List AV)
  | [] => some cs
  | p :: r => match offs p.1 with
    | some q => bif (cellsOf p.2).all plain1 && Nat.beq (cellsOf p.2).length q.2 && Nat.ble (q.1 + q.2) cs.length then fillParts offs (splice cs q.1 (cellsOf p.2)) r else none
    | none => none
def placesOf (T : Tab) : List (Nat × Nat) → Option (List (Nat × Nat))
  | [] => some []
  | f :: r => match get T f.2, placesOf T r with
    | some fe, some l => some ((f.1, fe.size) :: l)
    | _, _ => none
/-- A slice's list over the row r. -/
def listOf (rd : Nat → Option Blk) (r : Row) : AV → Option (List (Row.T r))
  | .nils => some []
  | .imm _ l => castRow l
  | .own b => match rd b with
    | some (.row _ l) => castRow l
    | _ => none
  | _ => none
/-- Own slices as they are told to those that only read them. -/
def snap1 (rd : Nat → Option Blk) : AV → Option AV
  | .own b => match rd b with
    | some (.row r l) => some (.imm r l)
    | _ => none
  | v => some v
def snapL (rd : Nat → Option Blk) : List AV → Option (List AV)
  | [] => some []
  | v :: r => match snap1 rd v, snapL rd r with
    | some x, some y => some (x :: y)
    | _, _ => none
def snap (rd : Nat → Option Blk) : AV → Option AV
  | .agg cs => match snapL rd cs with | some l => some (.agg l) | none => none
  | v => snap1 rd v
def snaps (rd : Nat → Option Blk) : List AV → Option (List AV)
  | [] => some []
  | v :: r => match snap rd v, snaps rd r with
    | some x, some y => some (x :: y)
    | _, _ => none
def names0 : AV → List Nat
  | .own b => [b]
  | .ptr b _ => [b]
  | .eown b _ _ _ => [b]
  | .yld b => [b]
  | _ => []
def names0L : List AV → List Nat
  | [] => []
  | v :: r => names0 v ++ names0L r
def names1 : AV → List Nat
  | .fn _ caps => names0L caps
  | v => names0 v
def namesL : List AV → List Nat
  | [] => []
  | v :: r => names1 v ++ namesL r
def names2 : AV → List Nat
  | .agg cs => namesL cs
  | v => names1 v
def namesL2 : List AV → List Nat
  | [] => []
  | v :: r => names2 v ++ namesL2 r
def names : AV → List Nat
  | .tup vs => namesL2 vs
  | v => names2 v
/-- New names for the blocks that a call hands back. -/
def ren0 (f : Nat → Nat) : AV → AV
  | .own b => .own (f b)
  | .ptr b o => .ptr (f b) o
  | .eown b z i o => .eown (f b) z i o
  | .yld b => .yld (f b)
  | v => v
def ren0L (f : Nat → Nat) : List AV → List AV
  | [] => []
  | v :: r => ren0 f v :: ren0L f r
def ren1 (f : Nat → Nat) : AV → AV
  | .fn g caps => .fn g (ren0L f caps)
  | v => ren0 f v
def renL (f : Nat → Nat) : List AV → List AV
  | [] => []
  | v :: r => ren1 f v :: renL f r
def ren2 (f : Nat → Nat) : AV → AV
  | .agg cs => .agg (renL f cs)
  | v => ren1 f v
def renL2 (f : Nat → Nat) : List AV → List AV
  | [] => []
  | v :: r => ren2 f v :: renL2 f r
def ren (f : Nat → Nat) : AV → AV
  | .tup vs => .tup (renL2 f vs)
  | v => ren2 f v
def decRows (r : Row) (n : Nat) : Nat → List AV → Option (List (Row.T r))
  | 0, _ => some []
  | m + 1, cs => match Row.dec r (takeN n cs), decRows r n m (dropN n cs) with
    | some x, some y => some (x :: y)
    | _, _ => none
def rep {α : Type} : Nat → List α → List α
  | 0, _ => []
  | n + 1, l => l ++ rep n l
/-- A call of a function: its arguments (what it may only read), and what it hands back: whether it is known to answer so, and a value that names blocks 0, 1, .. of those that it has made. -/
abbrev Ans := Bool × AV × List Blk
abbrev CallF := FuncId → List AV → Option Ans
def blkRen (f : Nat → Nat) : Blk → Blk
  | .box cs => .box (renL f cs)
  | .row r l => .row r l
def newNames (nm : Nat) : List Blk → List Nat
  | [] => []
  | _ :: r => nm :: newNames (nm + 1) r
def newBlks (f : Nat → Nat) (nm : Nat) : List Blk → List (Nat × Option Blk)
  | [] => []
  | b :: r => (nm, some (blkRen f b)) :: newBlks f (nm + 1) r
/-- What an operation sees. -/
structure Vw where
  T : Tab
  F : Frc
  call : CallF
  callS : FuncId → List AV → List Nat → Option Eff
  callY : Nat → List AV → List Nat → Option Eff
  tm : Tr
  rd : Nat → Option Blk
  isFz : Nat → Bool
  nm : Nat
  rdr : FuncId → Option Row
  pop : Nat → Bool

section
variable {β : Type}
abbrev KE (β : Type) := Eff → Option β
def chk (c : Bool) (k : Option β) : Option β := bif c then k else none
def val (K : KE β) (v : AV) : Option β := K ⟨v, [], []⟩
def kInt (F : Frc) (K : KE β) (k : IntKind) (n : Int) : Option β := F.i n fun n => K ⟨.int k n, [], []⟩
def kBool (F : Frc) (K : KE β) (b : Bool) : Option β := F.b b fun b => K ⟨.bool b, [], []⟩
/-- A value that was read. -/
def kRead (F : Frc) (K : KE β) (v : AV) : Option β := match v with
  | .int k n => kInt F K k n
  | .bool b => kBool F K b
  | .undef => none
  | .void => none
  | v => val K v
def forceCells (F : Frc) : List AV → (List AV → Option β) → Option β
  | [], K => K []
  | .int k n :: r, K => F.i n fun n => forceCells F r fun r => K (.int k n :: r)
  | .bool b :: r, K => F.b b fun b => forceCells F r fun r => K (.bool b :: r)
  | v :: r, K => forceCells F r fun r => K (v :: r)
def arith (F : Frc) (op : BinOp) (k : IntKind) (a b : Int) (K : KE β) : Option β :=
  match op with
  | .add => kInt F K k (k.wrap (a + b))
  | .sub => kInt F K k (k.wrap (a - b))
  | .mul => kInt F K k (k.wrap (a * b))
  | .quo => chk (!decide (b = 0)) (kInt F K k (k.wrap (a.tdiv b)))
  | .rem => chk (!decide (b = 0)) (kInt F K k (a.tmod b))
  | .and => kInt F K k (k.wrap (BitVec.ofInt k.bits a &&& BitVec.ofInt k.bits b).toNat)
  | .or => kInt F K k (k.wrap (BitVec.ofInt k.bits a ||| BitVec.ofInt k.bits b).toNat)
  | .xor => kInt F K k (k.wrap (BitVec.ofInt k.bits a ^^^ BitVec.ofInt k.bits b).toNat)
  | .andNot => kInt F K k (k.wrap (BitVec.ofInt k.bits a &&& ~~~ BitVec.ofInt k.bits b).toNat)
  | .eql => kBool F K (a == b)
  | .neq => kBool F K (a != b)
  | .lss => kBool F K (decide (a < b))
  | .leq => kBool F K (decide (a ≤ b))
  | .gtr => kBool F K (decide (a > b))
  | .geq => kBool F K (decide (a ≥ b))
  | _ => none
def binInt (F : Frc) (op : BinOp) (k j : IntKind) (a b : Int) (K : KE β) : Option β := match op with
  | .shl => chk (decide (0 ≤ b)) (kInt F K k (k.wrap (a * 2 ^ min b.toNat k.bits)))
  | .shr => chk (decide (0 ≤ b)) (kInt F K k (a.fdiv (2 ^ min b.toNat k.bits)))
  | _ => chk (decide (k = j)) (arith F op k a b K)
def eqv (F : Frc) (op : BinOp) (r : Option Bool) (K : KE β) : Option β := match op, r with
  | .eql, some b => kBool F K b
  | .neq, some b => kBool F K (!b)
  | _, _ => none
def binStr (F : Frc) (op : BinOp) (a b : ByteArray) (K : KE β) : Option β := match op with
  | .eql => kBool F K (a.toList == b.toList)
  | .neq => kBool F K (!(a.toList == b.toList))
  | .lss => kBool F K (Op.bytesLess a.toList b.toList)
  | _ => none
def eqA (T : Tab) (t : Nat) (xs ys : List AV) : Option Bool := match get T t with
  | some e => bif isAgg e.d && e.eq then eqT T 8 t xs ys else none
  | none => none
def eqB (T : Tab) (t : Nat) (x y : AV) : Option Bool := match get T t with
  | some e => bif isAgg e.d then none else eq1 e.d [x] [y]
  | none => none
def bin (V : Vw) (op : BinOp) (t : Nat) (x y : AV) (K : KE β) : Option β :=
  match x, y with
  | .int k a, .int j b => binInt V.F op k j a b K
  | .str a, .str b => binStr V.F op a b K
  | .agg xs, .agg ys => eqv V.F op (eqA V.T t xs ys) K
  | x, y => eqv V.F op (eqB V.T t x y) K
def un (F : Frc) (op : UnOp) (x : AV) (K : KE β) : Option β :=
  match op, x with
  | .neg, .int k n => kInt F K k (k.wrap (0 - n))
  | .xor, .int k n => kInt F K k (k.wrap (BitVec.ofInt k.bits (if k.signed then -1 else k.max) ^^^ BitVec.ofInt k.bits n).toNat)
  | .not, .bool b => kBool F K (!b)
  | _, _ => none
/-- Cells from off on, as a value of the type. -/
def fit (V : Vw) (t : Nat) (cs : List AV) (off : Nat) (K : AV → Option β) : Option β :=
  match get V.T t with
  | some e => chk (Nat.ble (off + e.size) cs.length) (bif isAgg e.d then forceCells V.F (takeN e.size (dropN off cs)) fun cs => K (.agg cs) else match dropN off cs with | v :: _ => K v | [] => none)
  | none => none
def oMove (V : Vw) (x : Operand) (K : KE β) : Option β := match opnd V.tm x with
  | .undef => none
  | .void => none
  | v => val K v
def oPick (V : Vw) (c a b : Operand) (K : KE β) : Option β := match opnd V.tm c with
  | .bool x => bif x then oMove V a K else oMove V b K
  | _ => none
def oAlloc (V : Vw) (t : Nat) (K : KE β) : Option β := match get V.T t with
  | some e => K ⟨.ptr V.nm 0, [(V.nm, some (.box e.zero))], []⟩
  | none => none
def oBox (V : Vw) (x : Operand) (K : KE β) : Option β := match opnd V.tm x with
  | .undef => none
  | .void => none
  | .tup _ => none
  | v => K ⟨.ptr V.nm 0, [(V.nm, some (.box (cellsOf v)))], []⟩
def buildCells (V : Vw) (e : TyE) (parts : List (Nat × AV)) : Option (List AV) := match e.d with
  | .struct fs => match placesOf V.T fs with
    | some pl => fillParts (nthOff pl) e.zero parts
    | none => none
  | .arr _ el => match get V.T el with
    | some ee => fillParts (fun i => some (i * ee.size, ee.size)) e.zero parts
    | none => none
  | _ => none
def oBuild (V : Vw) (t : Nat) (parts : List (Nat × Operand)) (K : KE β) : Option β := match get V.T t with
  | some e => match buildCells V e (partsOf V.tm parts) with
    | some cs => forceCells V.F cs fun cs => val K (.agg cs)
    | none => none
  | none => none
def elemOf (V : Vw) (t : Nat) : Option TyE := match get V.T t with
  | some e => match e.d with
    | .slice el => get V.T el
    | _ => none
  | none => none
def oBuildSlice2 (V : Vw) (ee : TyE) (r : Row) (len : Nat) (cs : List AV) (K : KE β) : Option β := match snapL V.rd cs with
  | some cs' => match decRows r ee.size len cs' with
    | some l => V.F.l l fun l => K ⟨.own V.nm, [(V.nm, some (.row r l))], namesL cs⟩
    | none => none
  | none => none
def oBuildSlice (V : Vw) (t len : Nat) (parts : List (Nat × Operand)) (K : KE β) : Option β := match elemOf V t with
  | some ee => match ee.row with
    | some r => match fillParts (fun i => some (i * ee.size, ee.size)) (rep len ee.zero) (partsOf V.tm parts) with
      | some cs => chk (Nat.ble (len * ee.size) 16777216) (forceCells V.F cs fun cs => oBuildSlice2 V ee r len cs K)
      | none => none
    | none => none
  | none => none
def oLoad (V : Vw) (t : Nat) (x : Operand) (K : KE β) : Option β := match opnd V.tm x with
  | .ptr b off => match V.rd b with
    | some (.box cs) => fit V t cs off (kRead V.F K)
    | _ => none
  | .eimm r l i off => fit V t (Row.enc r (l.getD i (Row.dflt r))) off (kRead V.F K)
  | .eown b sz i off => match V.rd b with
    | some (.row r l) => chk (Nat.beq sz (Row.size r)) (fit V t (Row.enc r (l.getD i (Row.dflt r))) off (kRead V.F K))
    | _ => none
  | _ => none
def memB : List Nat → Nat → Bool
  | [], _ => false
  | a :: r, n => bif Nat.beq a n then true else memB r n
def storeRow (V : Vw) (b i off : Nat) (r : Row) (l : List (Row.T r)) (ys : List AV) (K : KE β) : Option β := chk (!memB (namesL ys) b) <| match snapL V.rd ys with
  | some ys' => match Row.dec r (splice (Row.enc r (l.getD i (Row.dflt r))) off ys') with
    | some x => V.F.l (l.set i x) fun l' => K ⟨.undef, [(b, some (.row r l'))], namesL ys⟩
    | none => none
  | none => none
def storeTo (V : Vw) (sz : Nat) (p : AV) (ys : List AV) (K : KE β) : Option β := match p with
  | .ptr b off => match V.rd b with
    | some (.box cs) => chk (Nat.ble (off + sz) cs.length) (forceCells V.F (splice cs off ys) fun cs' => K ⟨.undef, [(b, some (.box cs'))], []⟩)
    | _ => none
  | .eown b z i off => chk (!V.isFz b) (match V.rd b with
    | some (.row r l) => chk (Nat.beq z (Row.size r) && Nat.ble (off + sz) (Row.size r)) (storeRow V b i off r l ys K)
    | _ => none)
  | _ => none
def oStore (V : Vw) (t : Nat) (x y : Operand) (K : KE β) : Option β := match get V.T t with
  | some e => chk ((cellsOf (opnd V.tm y)).all plain1 && Nat.beq (cellsOf (opnd V.tm y)).length e.size) (storeTo V e.size (opnd V.tm x) (cellsOf (opnd V.tm y)) K)
  | none => none
def oNilCheck (V : Vw) (x : Operand) (K : KE β) : Option β := match opnd V.tm x with
  | .ptr b off => val K (.ptr b off)
  | .fn f c => val K (.fn f c)
  | .eimm r l i off => val K (.eimm r l i off)
  | _ => none
def oConvert (V : Vw) (s d : Nat) (x : Operand) (K : KE β) : Option β := match get V.T s, get V.T d with
  | some _, some e => match e.d, opnd V.tm x with
    | .int k, .int _ n => kInt V.F K k (k.wrap n)
    | .str, .str s => val K (.str s)
    | _, _ => none
  | _, _ => none
def oExtract (V : Vw) (x : Operand) (i : Nat) (K : KE β) : Option β := match opnd V.tm x with
  | .tup vs => match dropN i vs with
    | v :: _ => chk (known v) (val K v)
    | [] => none
  | _ => none
def moveOff (p : AV) (fo : Nat) (K : KE β) : Option β := match p with
  | .ptr b off => frcN (off + fo) fun o => val K (.ptr b o)
  | .eimm r l i off => frcN (off + fo) fun o => val K (.eimm r l i o)
  | .eown b z i off => frcN (off + fo) fun o => val K (.eown b z i o)
  | _ => none
def fieldOff (V : Vw) (s f : Nat) : Option (Nat × Nat) := match get V.T s with
  | some e => match e.d with
    | .struct fs => nthOff fs f
    | _ => none
  | none => none
def oFieldAddr (V : Vw) (s : Nat) (x : Operand) (f : Nat) (K : KE β) : Option β := match fieldOff V s f with
  | some fo => match get V.T fo.2 with
    | some fe => chk (!Nat.beq fe.size 0) (moveOff (opnd V.tm x) fo.1 K)
    | none => none
  | none => none
def oField (V : Vw) (s : Nat) (x : Operand) (f : Nat) (K : KE β) : Option β := match fieldOff V s f, opnd V.tm x with
  | some fo, .agg cs => fit V fo.2 cs fo.1 (kRead V.F K)
  | _, _ => none
def idxSlice (V : Vw) (ee : TyE) (x : AV) (n : Int) (K : KE β) : Option β := match x with
  | .imm r l => chk (Nat.beq ee.size (Row.size r)) (chk (decide (0 ≤ n)) (chk (decide (n < (l.length : Int))) (val K (.eimm r l n.toNat 0))))
  | .own b => match V.rd b with
    | some (.row r l) => chk (Nat.beq ee.size (Row.size r)) (chk (decide (0 ≤ n)) (chk (decide (n < (l.length : Int))) (val K (.eown b ee.size n.toNat 0))))
    | _ => none
  | _ => none
def idxArr (m sz : Nat) (x : AV) (n : Int) (K : KE β) : Option β := match x with
  | .ptr b off => chk (decide (0 ≤ n)) (chk (decide (n < (m : Int))) (frcN (off + n.toNat * sz) fun o => val K (.ptr b o)))
  | _ => none
def oIndexAddr (V : Vw) (t : Nat) (x i : Operand) (K : KE β) : Option β := match get V.T t, opnd V.tm i with
  | some e, .int _ n => match e.d with
    | .slice el => match get V.T el with
      | some ee => idxSlice V ee (opnd V.tm x) n K
      | none => none
    | .arr m el => match get V.T el with
      | some ee => idxArr m ee.size (opnd V.tm x) n K
      | none => none
    | _ => none
  | _, _ => none
def oIndex (V : Vw) (t : Nat) (x i : Operand) (K : KE β) : Option β := match get V.T t, opnd V.tm i with
  | some e, .int _ n => match e.d, opnd V.tm x with
    | .arr m el, .agg cs => match get V.T el with
      | some ee => chk (decide (0 ≤ n)) (chk (decide (n < (m : Int))) (frcN (n.toNat * ee.size) fun o => fit V el cs o (kRead V.F K)))
      | none => none
    | .str, .str s => chk (decide (0 ≤ n)) (chk (decide (n < (s.size : Int))) (kInt V.F K .u8 ((s.data.getD n.toNat 0).toNat : Int)))
    | _, _ => none
  | _, _ => none
def bnd (V : Vw) (y : Option Operand) (d : Int) : Option Int := match y with
  | none => some d
  | some y => match opnd V.tm y with
    | .int _ n => some n
    | _ => none
def cutSlice (V : Vw) (sz : Nat) (x : AV) (l0 : Int) (hi : Option Operand) (K : KE β) : Option β := match snap1 V.rd x with
  | some (.imm r l) => match bnd V hi (l.length : Int) with
    | some h0 => chk (Nat.beq sz (Row.size r)) <| chk (decide (0 ≤ l0)) (chk (decide (l0 ≤ h0)) (chk (decide (h0 ≤ (l.length : Int))) (V.F.l ((l.take h0.toNat).drop l0.toNat) fun l' => K ⟨.imm r l', [], names1 x⟩)))
    | none => none
  | _ => none
/-- The front of a slice of ours, in its place: the slice's old name is used up. -/
def popS (V : Vw) (sz : Nat) (x : AV) (hi : Option Operand) (K : KE β) : Option β := match x with
  | .own b => match V.rd b with
    | some (.row r l) => match bnd V hi (l.length : Int) with
      | some h0 => chk (Nat.beq sz (Row.size r)) <| chk (decide (0 ≤ h0)) (chk (decide (h0 ≤ (l.length : Int))) (chk (!V.isFz b) (V.F.l (l.take h0.toNat) fun l' => K ⟨.own V.nm, [(b, none), (V.nm, some (.row r l'))], []⟩)))
      | none => none
    | _ => none
  | _ => none
def popT (V : Vw) (x : Operand) (lo : Option Operand) : Bool := match x, lo with
  | .tmp t, none => V.pop t
  | _, _ => false
def cutStr (V : Vw) (x : AV) (l0 : Int) (hi : Option Operand) (K : KE β) : Option β := match x with
  | .str s => match bnd V hi (s.size : Int) with
    | some h0 => chk (decide (0 ≤ l0)) (chk (decide (l0 ≤ h0)) (chk (decide (h0 ≤ (s.size : Int))) (val K (.str (s.extract l0.toNat h0.toNat)))))
    | none => none
  | _ => none
def oSlice (V : Vw) (t : Nat) (x : Operand) (lo hi mx : Option Operand) (K : KE β) : Option β := match get V.T t, mx, bnd V lo 0 with
  | some e, none, some l0 => match e.d with
    | .slice el => match get V.T el with
      | some ee => bif popT V x lo then popS V ee.size (opnd V.tm x) hi K else cutSlice V ee.size (opnd V.tm x) l0 hi K
      | none => none
    | .str => cutStr V (opnd V.tm x) l0 hi K
    | _ => none
  | _, _, _ => none
def capOk : AV → Bool
  | .undef => false
  | .void => false
  | .tup _ => false
  | .agg _ => false
  | .fn _ [] => true
  | .fn _ _ => false
  | _ => true
def oMakeFunc (V : Vw) (fn : Fn) (first caps : List Operand) (K : KE β) : Option β := match fn, first with
  | .func f, [] => chk ((opnds V.tm caps).all capOk) (val K (.fn f (opnds V.tm caps)))
  | _, _ => none
def hasImm1 : AV → Bool
  | .imm _ _ => true
  | .eimm _ _ _ _ => true
  | .fn _ _ => true
  | _ => false
def hasImm2 : AV → Bool
  | .agg cs => cs.any hasImm1
  | v => hasImm1 v
def hasImm : AV → Bool
  | .tup vs => vs.any hasImm2
  | v => hasImm2 v
def Leaf.deep : Leaf → Bool
  | .sl _ => true
  | _ => false
def Row.deep : Row → Bool
  | .one l => Leaf.deep l
  | .cons l r => Leaf.deep l || Row.deep r
def blkImm : Blk → Bool
  | .box cs => cs.any hasImm1
  | .row r _ => Row.deep r
def oCallVal (V : Vw) (f : FuncId) (args : List AV) (K : KE β) : Option β := match snaps V.rd args with
  | some args' => bif (namesL2 args').isEmpty then chk (args'.all known) ((V.call f args').bind fun q => chk q.1 (chk (Nat.ble q.2.2.length 8) (K ⟨ren (fun i => V.nm + i) q.2.1, newBlks (fun i => V.nm + i) V.nm q.2.2, bif hasImm q.2.1 || q.2.2.any blkImm then newNames V.nm q.2.2 ++ namesL2 args else []⟩))) else chk (args'.all known) ((V.callS f args' (namesL2 args)).bind fun e => K ⟨e.val, e.wr, e.fz ++ namesL2 args⟩)
  | none => none
/-- A call of a function that only reads what its first argument points at: that is told as data. -/
def oRead (V : Vw) (r : Row) (f : FuncId) (args : List AV) (K : KE β) : Option β := match args with
  | .ptr b off :: rest => match V.rd b, snaps V.rd rest with
    | some (.box cs), some rest' => match Row.dec r cs with
      | some x => chk ((namesL cs).isEmpty && (rest'.all known && (namesL2 rest').isEmpty)) ((V.call f (.eimm r [x] 0 off :: rest')).bind fun q => chk q.1 (chk (Nat.ble q.2.2.length 8) (chk (!(hasImm q.2.1 || q.2.2.any blkImm)) (K ⟨ren (fun i => V.nm + i) q.2.1, newBlks (fun i => V.nm + i) V.nm q.2.2, []⟩))))
      | none => none
    | _, _ => none
  | _ => none
/-- A round of a range over a function. -/
def oYield (V : Vw) (y : Nat) (args : List AV) (K : KE β) : Option β := match snaps V.rd args with
  | some args' => chk (args'.all known && (namesL2 args').isEmpty) ((V.callY y args' (namesL2 args)).bind fun e => K ⟨e.val, e.wr, e.fz ++ namesL2 args⟩)
  | none => none
def isSl : TyD → Bool
  | .slice _ => true
  | _ => false
def isStr : TyD → Bool
  | .str => true
  | _ => false
def oLen (V : Vw) (d : TyD) (x : AV) (K : KE β) : Option β := match x with
  | .str s => chk (isStr d) (kInt V.F K .i64 (s.size : Int))
  | .nils => chk (isSl d) (kInt V.F K .i64 0)
  | .imm _ l => chk (isSl d) (kInt V.F K .i64 (l.length : Int))
  | .own b => match V.rd b with
    | some (.row _ l) => chk (isSl d) (kInt V.F K .i64 (l.length : Int))
    | _ => none
  | _ => none
def oMax (V : Vw) (k : IntKind) (a : Int) : List AV → KE β → Option β
  | [], K => val K (.int k a)
  | .int _ y :: r, K => V.F.i (if y > a then y else a) fun m => oMax V k m r K
  | _, _ => none
def oMin (V : Vw) (k : IntKind) (a : Int) : List AV → KE β → Option β
  | [], K => val K (.int k a)
  | .int _ y :: r, K => V.F.i (if y < a then y else a) fun m => oMin V k m r K
  | _, _ => none
def most : Nat := 68719476736
def oAppend (V : Vw) (r : Row) (s x : AV) (K : KE β) : Option β := match s, listOf V.rd r x with
  | .nils, some l => chk (decide (l.length < most)) (K ⟨.own V.nm, [(V.nm, some (.row r l))], []⟩)
  | .own b, some l => match listOf V.rd r (.own b) with
    | some l0 => chk (decide (l0.length < most)) (chk (decide (l.length < most)) (V.F.l (l0 ++ l) fun l' => K ⟨.own V.nm, [(b, none), (V.nm, some (.row r l'))], bif V.isFz b then [V.nm] else []⟩))
    | none => none
  | _, _ => none
def oCall (V : Vw) (c : Call) (K : KE β) : Option β := match c.callee with
  | .value g => match opnd V.tm g with
    | .fn f caps => chk (caps.all capOk) (match V.rdr f with
      | some r => oRead V r f (opnds V.tm c.args.toList ++ caps) K
      | none => oCallVal V f (opnds V.tm c.args.toList ++ caps) K)
    | .yld y => oYield V y (opnds V.tm c.args.toList) K
    | _ => none
  | .builtin .len => match opnds V.tm c.args.toList, c.argTypes.toList with
    | [x], [t] => match get V.T t with
      | some e => oLen V e.d x K
      | none => none
    | _, _ => none
  | .builtin .max => match opnds V.tm c.args.toList with
    | .int k a :: r => oMax V k a r K
    | _ => none
  | .builtin .min => match opnds V.tm c.args.toList with
    | .int k a :: r => oMin V k a r K
    | _ => none
  | .builtin .append => match c.argTypes.toList, opnds V.tm c.args.toList with
    | [sT, xT], [s, x] => chk (Nat.beq sT xT) <| match elemOf V sT with
      | some ee => match ee.row with
        | some r => chk (Nat.ble ee.bytes 1024) (oAppend V r s x K)
        | none => none
      | none => none
    | _, _ => none
  | _ => none
def opK (V : Vw) (o : Op) (K : KE β) : Option β :=
  match o with
  | .move x => oMove V x K
  | .assign x => oMove V x K
  | .pick c a b => oPick V c a b K
  | .alloc t => oAlloc V t K
  | .box _ x => oBox V x K
  | .build t parts => oBuild V t parts.toList K
  | .buildSlice t len parts => oBuildSlice V t len parts.toList K
  | .load t x => oLoad V t x K
  | .store t x y => oStore V t x y K
  | .nilCheck x => oNilCheck V x K
  | .binOp op t x y _ => bin V op t (opnd V.tm x) (opnd V.tm y) K
  | .unOp op _ x => un V.F op (opnd V.tm x) K
  | .convert s d x => oConvert V s d x K
  | .extract x i => oExtract V x i K
  | .fieldAddr s x f => oFieldAddr V s x f K
  | .field s x f => oField V s x f K
  | .indexAddr t x i => oIndexAddr V t x i K
  | .index t x i => oIndex V t x i K
  | .slice t x lo hi mx => oSlice V t x lo hi mx K
  | .makeFunc fn first caps => oMakeFunc V fn first.toList caps.toList K
  | .call c => oCall V c K
  | _ => none
end
end Go.Proofs.Ytcjhegiidnjepaa.Ev
