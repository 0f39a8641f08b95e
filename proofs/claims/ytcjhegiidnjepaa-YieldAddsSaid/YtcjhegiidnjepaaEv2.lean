/- The evaluator's second half: regions, code, loops, functions. Definitions alone. -/
import Derived.Test.YtcjhegiidnjepaaEv1
namespace Go.Proofs.Ytcjhegiidnjepaa.Ev

/-- What is kept at a loop's head: a temporary as it is; one that holds an own slice over the row (told as not to be stored into, or not); a variable in memory, some cells of which hold such slices. -/
inductive Keep where
  | asis (t : Nat)
  | row (t : Nat) (r : Row) (fz : Bool)
  | box (t : Nat) (cells : List (Nat × Row × Bool))
  | dat (t : Nat) (agg : Bool) (r : Row)
  | datb (t : Nat) (r : Row)

section
variable {β : Type}
abbrev Bls := List (Nat × Blk)
def setB (bl : Bls) (b : Nat) (x : Blk) : Bls := match bl with
  | [] => [(b, x)]
  | (c, y) :: r => bif Nat.beq c b then (c, x) :: r else (c, y) :: setB r b x
def delB (bl : Bls) (b : Nat) : Bls := match bl with
  | [] => []
  | (c, y) :: r => bif Nat.beq c b then delB r b else (c, y) :: delB r b
def putB (bl : Bls) : List (Nat × Option Blk) → Bls
  | [] => bl
  | (b, some x) :: r => putB (setB bl b x) r
  | (b, none) :: r => putB (delB bl b) r
def memN : List Nat → Nat → Bool
  | [], _ => false
  | a :: r, n => bif Nat.beq a n then true else memN r n
def blkNames : Blk → List Nat
  | .box cs => namesL cs
  | .row _ _ => []
/-- All blocks that are reached, in the order in which they are met. -/
def reach (bl : Bls) : Nat → List Nat → List Nat → List Nat
  | 0, _, seen => seen
  | _ + 1, [], seen => seen
  | n + 1, b :: q, seen => bif memN seen b then reach bl n q seen else match get bl b with
    | some x => reach bl n (q ++ blkNames x) (seen ++ [b])
    | none => reach bl n q seen
def idx (l : List Nat) (n : Nat) : Nat := match l with
  | [] => 0
  | a :: r => bif Nat.beq a n then 0 else idx r n + 1
def pick1 (bl : Bls) (f : Nat → Nat) : List Nat → Bls
  | [] => []
  | b :: r => match get bl b with
    | some x => (f b, blkRen f x) :: pick1 bl f r
    | none => pick1 bl f r
structure Sx where
  tm : Tr
  bl : Bls
  fz : List Nat
  nx : Nat
/-- Lists, brought to their values. -/
def seqL {α : Type} : List α → (List α → Option β) → Option β
  | [], k => k []
  | x :: r, k => seqL r fun r => k (x :: r)
def seqN : List Nat → (List Nat → Option β) → Option β
  | [], k => k []
  | n :: r, k => frcN n fun n => seqN r fun r => k (n :: r)
def seqB : Bls → (Bls → Option β) → Option β
  | [], k => k []
  | (n, .box cs) :: r, k => frcN n fun n => seqL cs fun cs => seqB r fun r => k ((n, .box cs) :: r)
  | (n, .row q l) :: r, k => frcN n fun n => seqB r fun r => k ((n, .row q l) :: r)
def seqT : Nat → Tr → (Tr → Option β) → Option β
  | 0, t, k => k t
  | _ + 1, .nil, k => k .nil
  | f + 1, .node v l r, k => seqT f l fun l => seqT f r fun r => k (.node v l r)
def seqS (s : Sx) (k : Sx → Option β) : Option β := match s with
  | ⟨tm, bl, fz, nx⟩ => k ⟨tm, bl, fz, nx⟩

def asRow (r : Row) (fz : Bool) (v : AV) (s : Sx) : Option (AV × Sx) := match v with
  | .nils => some (.own s.nx, { s with bl := setB s.bl s.nx (.row r []), nx := s.nx + 1, fz := bif fz then s.nx :: s.fz else s.fz })
  | .own b => bif fz then some (.own b, { s with fz := b :: s.fz }) else bif memN s.fz b then none else some (.own b, s)
  | _ => none
def setCell (cs : List AV) (i : Nat) (v : AV) : List AV := match cs, i with
  | [], _ => []
  | _ :: r, 0 => v :: r
  | x :: r, n + 1 => x :: setCell r n v
def cellAt (cs : List AV) (i : Nat) : AV := match cs, i with
  | [], _ => .undef
  | x :: _, 0 => x
  | _ :: r, n + 1 => cellAt r n
def asRows (b : Nat) : List (Nat × Row × Bool) → Sx → Option Sx
  | [], s => some s
  | (i, r, fz) :: q, s => match get s.bl b with
    | some (.box cs) => match asRow r fz (cellAt cs i) s with
      | some (v, s') => asRows b q { s' with bl := setB s'.bl b (.box (setCell cs i v)) }
      | none => none
    | _ => none
def mkAgg (agg : Bool) (cs : List AV) : AV := match agg, cs with
  | true, cs => .agg cs
  | false, [v] => v
  | false, _ => .undef
def isAggV : AV → Bool
  | .agg _ => true
  | _ => false
def decS (rd : Nat → Option Blk) (r : Row) (cs : List AV) : Option (Row.T r) := match snapL rd cs with
  | some cs => Row.dec r cs
  | none => none
/-- A value of plain data, told by its row. -/
def datV (rd : Nat → Option Blk) (agg : Bool) (r : Row) (v : AV) : Option AV := chk (bif agg then isAggV v else plain1 v) <| match snapL rd (cellsOf v) with
  | some cs => match Row.dec r cs with
    | some x => some (mkAgg agg (Row.enc r x))
    | none => none
  | none => none
def keepAll : List Keep → Sx → List (Nat × AV) → Option (List (Nat × AV) × Sx)
  | [], s, acc => some (acc.reverse, s)
  | .asis t :: q, s, acc => bif known (look s.tm t) then keepAll q s ((t, look s.tm t) :: acc) else none
  | .row t r fz :: q, s, acc => match asRow r fz (look s.tm t) s with
    | some (v, s') => keepAll q s' ((t, v) :: acc)
    | none => none
  | .dat t agg r :: q, s, acc => match datV (get s.bl) agg r (look s.tm t) with
    | some v => keepAll q ⟨s.tm, s.bl, names2 (look s.tm t) ++ s.fz, s.nx⟩ ((t, v) :: acc)
    | none => none
  | .datb t r :: q, s, acc => match look s.tm t with
    | .ptr b off => match get s.bl b with
      | some (.box cs) => match decS (get s.bl) r cs with
        | some x => keepAll q ⟨s.tm, setB s.bl b (.box (Row.enc r x)), namesL cs ++ s.fz, s.nx⟩ ((t, .ptr b off) :: acc)
        | none => none
      | _ => none
    | _ => none
  | .box t cells :: q, s, acc => match look s.tm t with
    | .ptr b off => match asRows b cells s with
      | some s' => keepAll q s' ((t, .ptr b off) :: acc)
      | none => none
    | _ => none
def mkT (f : Nat → Nat) : List (Nat × AV) → Tr → Tr
  | [], t => t
  | (n, v) :: r, t => mkT f r (putT t n (ren f v))
def namesT : List (Nat × AV) → List Nat
  | [] => []
  | (_, v) :: r => names v ++ namesT r
def normal2 (tm : List (Nat × AV)) (s : Sx) (ns : List Nat) : Sx :=
  { tm := mkT (idx ns) tm .nil, bl := pick1 s.bl (idx ns) ns, fz := (ns.filter (memN s.fz)).map (idx ns), nx := ns.length }
/-- No name is left that has no block, and what is reached is closed. -/
def closed1 (bl : Bls) (ns : List Nat) : List Nat → Bool
  | [] => true
  | b :: r => match get bl b with
    | some x => (blkNames x).all (memN ns) && closed1 bl ns r
    | none => false
def distinct : List Nat → Bool
  | [] => true
  | a :: r => !memN r a && distinct r
def normal (ks : List Keep) (s : Sx) (K : Sx → Option β) : Option β := match keepAll ks s [] with
  | some r => seqN (reach r.2.bl 60 (namesT r.1) []) fun ns => chk ((namesT r.1).all (memN ns) && closed1 r.2.bl ns ns && distinct ns) (seqS (normal2 r.1 r.2 ns) K)
  | none => none

/-- One operation's trace: its place, what it reads, what it writes. -/
abbrev Log := List (Nat × List Nat × List Nat)
def opNames (tm : Tr) (o : Op) : List Nat := namesL2 (opnds tm o.operands.toList)
def putD (tm : Tr) (d : Option Nat) (v : AV) : Tr := match d with
  | some t => putT tm t v
  | none => tm
def after (e : Eff) (d : Option Nat) (s : Sx) : Sx := ⟨putD s.tm d e.val, putB s.bl e.wr, e.fz ++ s.fz, s.nx⟩
def dstOf (ops : List Oper) (j : Nat) : Option Nat := match ops, j with
  | [], _ => none
  | o :: _, 0 => o.dst
  | _ :: r, n + 1 => dstOf r n
/-- A call of a function that is handed names: what it does to the state, from which new names are nm, nm + 1, .. -/
abbrev Rnd := Nat → List AV → Sx → Nat → Option Eff
def noY : Rnd := fun _ _ _ _ => none
abbrev CallS := FuncId → List AV → Sx → Nat → Option Rnd → Option Eff
def rndOf : Option Rnd → Rnd
  | some r => r
  | none => noY
def isY : Option Rnd → Bool
  | some _ => true
  | none => false
def noS : CallS := fun _ _ _ _ _ => none
structure Cx where
  T : Tab
  F : Frc
  call : CallF
  callS : CallS
  callY : Rnd
  hasY : Bool
  rdr : FuncId → Option Row
  pop : Nat → Bool
def Cx.vw (C : Cx) (s : Sx) (nm : Nat) : Vw := ⟨C.T, C.F, C.call, fun f args zs => C.callS f args ⟨s.tm, s.bl, zs ++ s.fz, s.nx⟩ nm none, fun y args zs => C.callY y args ⟨s.tm, s.bl, zs ++ s.fz, s.nx⟩ nm, s.tm, get s.bl, memN s.fz, nm, C.rdr, C.pop⟩
def Cx.setY (C : Cx) (rnd : Option Rnd) : Cx := ⟨C.T, C.F, C.call, C.callS, rndOf rnd, isY rnd, C.rdr, C.pop⟩
def Cx.setP (C : Cx) (p : Nat → Bool) : Cx := ⟨C.T, C.F, C.call, C.callS, C.callY, C.hasY, C.rdr, p⟩
/-- Which operations surely come ahead of each one. -/
def addN (a : Nat) (l : List Nat) : List Nat := bif memN l a then l else a :: l
def unionN : List Nat → List Nat → List Nat
  | [], l => l
  | a :: r, l => addN a (unionN r l)
def befOf (acc : List (List Nat)) : List Edge → List Nat
  | [] => []
  | e :: r => match e.ground with
    | .textOnly _ => befOf acc r
    | .gcOnly _ => befOf acc r
    | _ => addN e.on (unionN ((dropN e.on acc).headD []) (befOf acc r))
def befores (acc : List (List Nat)) : List Oper → List (List Nat)
  | [] => acc
  | o :: r => befores (acc ++ [befOf acc o.after.toList]) r
/-- An operation that is ordered with all others. -/
def pivot (ops : List Oper) (i : Nat) : Bool := (List.range ops.length).all fun j => Nat.beq j i || memN ((dropN i (befores [] ops)).headD []) j || memN ((dropN j (befores [] ops)).headD []) i
/-- In a region that draws its order only such an operation is handed names. -/
def Cx.at_ (C : Cx) (draw : Bool) (ops : List Oper) (i : Nat) : Cx := ⟨C.T, C.F, C.call, bif draw then (fun f args s nm rnd => chk (pivot ops i) (C.callS f args s nm rnd)) else C.callS, bif draw then (fun y args s nm => chk (pivot ops i) (C.callY y args s nm)) else C.callY, C.hasY, C.rdr, C.pop⟩
def wrNames (wr : List (Nat × Option Blk)) : List Nat := wr.map (·.1)
def logOf (draw : Bool) (i : Nat) (tm : Tr) (o : Op) (e : Eff) (lg : Log) : Log := bif draw then (i, e.fz ++ opNames tm o, wrNames e.wr) :: lg else lg
def goOp (C : Cx) (o : Oper) (nm : Nat) (s : Sx) (K : Eff → Sx → Option β) : Option β := opK (C.vw s nm) o.op fun e => seqS (after e o.dst s) fun s' => K e s'
def skipOp (o : Oper) (s : Sx) (K : Sx → Option β) : Option β := seqS ⟨putD s.tm o.dst .void, s.bl, s.fz, s.nx⟩ K
def setBool (s : Sx) (t : Nat) (b : Bool) : Sx := ⟨putT s.tm t (.bool b), s.bl, s.fz, s.nx⟩
/-- Is the operation carried out? -/
def guarded (all : List Oper) (o : Oper) (s : Sx) (go skip : Sx → Option β) : Option β := match o.guard with
  | none => go s
  | some g => match dstOf all g.1 with
    | some t => match look s.tm t with
      | .bool b => bif b then (bif g.2 then go (setBool s t true) else skip (setBool s t true)) else (bif g.2 then skip (setBool s t false) else go (setBool s t false))
      | .void => skip s
      | _ => none
    | none => none
def regK (C : Cx) (all : List Oper) (draw : Bool) (nm : Nat) : List Oper → Nat → Sx → Log → (Sx → Log → Option β) → Option β
  | [], _, s, lg, K => K s lg
  | o :: r, i, s, lg, K => guarded all o s
      (fun s => goOp (C.at_ draw all i) o (nm + 8 * i) s fun e s' => regK C all draw nm r (i + 1) s' (logOf draw i s.tm o.op e lg) K)
      (fun s => skipOp o s fun s' => regK C all draw nm r (i + 1) s' lg K)
def disj (a b : List Nat) : Bool := a.all fun x => !memN b x
def apart2 (bf : List (List Nat)) (x y : Nat × List Nat × List Nat) : Bool :=
  (disj x.2.2 y.2.1 && disj x.2.2 y.2.2 && disj y.2.2 x.2.1) || memN ((dropN y.1 bf).headD []) x.1 || memN ((dropN x.1 bf).headD []) y.1
def logOk (bf : List (List Nat)) : Log → Bool
  | [] => true
  | x :: r => r.all (apart2 bf x) && logOk bf r
structure Kont (β : Type) where
  n : Sx → Option β
  x : Nat → Sx → Option β
  r : Sx → Option β
def firstRegion : Code → Nat
  | .region i _ _ => i
  | .seq a _ => firstRegion a
  | .block _ b => firstRegion b
  | .loop b => firstRegion b
  | _ => 0
def nrm (H : Option (List Keep)) (s : Sx) (K : Sx → Option β) : Option β := match H with
  | some ks => normal ks s K
  | none => K s
def loopN (H : Option (List Keep)) (body : Sx → Kont β → Option β) : Nat → Sx → Kont β → Option β
  | 0, _, _ => none
  | n + 1, s, k => body s ⟨fun s' => nrm H s' fun s'' => loopN H body n s'' k, k.x, k.r⟩
def endReg (draw : Bool) (ops : List Oper) (s : Sx) (lg : Log) (k : Sx → Option β) : Option β :=
  frcN (s.nx + 8 * ops.length) fun nx => bif draw then chk (logOk (befores [] ops) lg) (k ⟨s.tm, s.bl, s.fz, nx⟩) else k ⟨s.tm, s.bl, s.fz, nx⟩
def condK (v : AV) (a b : Option β) : Option β := match v with
  | .bool x => bif x then a else b
  | _ => none
/-- What follows, by name: so that two such places are compared part by part. -/
def seqK (e : Sx → Kont β → Option β) (k : Kont β) : Kont β := ⟨fun s => e s k, k.x, k.r⟩
def blockK (H : Option (List Keep)) (i : Nat) (k : Kont β) : Kont β := ⟨fun s => nrm H s k.n, fun j s => bif Nat.beq j i then k.n s else k.x j s, k.r⟩
/-! ### Functions that are handed names: they work on the caller's blocks. -/
def keysB : Bls → List Nat
  | [] => []
  | (b, _) :: r => b :: keysB r
def fN (nm : Nat) (ns : List Nat) (b : Nat) : Nat := bif Nat.blt b nm then b else nm + idx ns b
def okN (nm : Nat) (ns : List Nat) (b : Nat) : Bool := Nat.blt b nm || memN ns b
def clS (bl : Bls) (nm : Nat) (ns : List Nat) : List Nat → Bool
  | [] => true
  | b :: r => (match get bl b with
    | some x => (blkNames x).all (okN nm ns)
    | none => Nat.blt b nm) && clS bl nm ns r
def wrS (bl : Bls) (f : Nat → Nat) : List Nat → List (Nat × Option Blk)
  | [] => []
  | b :: r => (f b, match get bl b with | some x => some (blkRen f x) | none => none) :: wrS bl f r
def seqW (F : Frc) : List (Nat × Option Blk) → (List (Nat × Option Blk) → Option β) → Option β
  | [], k => k []
  | (n, none) :: r, k => frcN n fun n => seqW F r fun r => k ((n, none) :: r)
  | (n, some (.box cs)) :: r, k => frcN n fun n => forceCells F cs fun cs => seqW F r fun r => k ((n, some (.box cs)) :: r)
  | (n, some (.row q l)) :: r, k => frcN n fun n => seqW F r fun r => k ((n, some (.row q l)) :: r)
def closeS3 (F : Frc) (nm : Nat) (L : List Nat) (s : Sx) (v : AV) (ns : List Nat) : Option Eff :=
  chk (Nat.ble ns.length 8 && (names v).all (okN nm ns) && (clS s.bl nm ns L && clS s.bl nm ns ns) && (ns.all (Nat.ble nm) && distinct ns))
    (seqW F (wrS s.bl (fN nm ns) (L ++ ns)) fun wr => seqN ((s.fz.filter (okN nm ns)).map (fN nm ns)) fun fz => some ⟨ren (fN nm ns) v, wr, fz⟩)
def closeS2 (F : Frc) (nm : Nat) (bl0 : Bls) (s : Sx) (v : AV) : Option Eff :=
  seqN ((keysB bl0 ++ keysB s.bl).filter fun b => Nat.blt b nm) fun L => seqN ((reach s.bl 1000 (names v ++ L) []).filter (Nat.ble nm)) fun ns => closeS3 F nm L s v ns
def putPs : List Nat → List AV → Tr → Tr
  | t :: ts, v :: vs, tm => putPs ts vs (putT tm t v)
  | _, _, tm => tm
def rangeK (C : Cx) (f : FuncId) (caps : List AV) (s : Sx) (rnd : Rnd) (K : Sx → Option β) : Option β := match C.callS f (.yld s.nx :: caps) s (s.nx + 1) (some rnd) with
  | some e => frcN (s.nx + 9) fun nx => seqS ⟨s.tm, putB s.bl e.wr, e.fz ++ s.fz, nx⟩ K
  | none => none
abbrev RF (β : Type) := Operand → Array Tmp → Code → Code → Sx → (Sx → Option β) → Option β
def noR : RF β := fun _ _ _ _ _ _ => none
def evCodeG (R : RF β) (C : Cx) (H : List (Nat × List Keep)) (n : Nat) : Code → Sx → Kont β → Option β
  | .skip, s, k => k.n s
  | .region _ ops draw, s, k => regK C ops.toList draw s.nx ops.toList 0 s [] fun s' lg => endReg draw ops.toList s' lg k.n
  | .seq a b, s, k => evCodeG R C H n a s (seqK (evCodeG R C H n b) k)
  | .cond c a b, s, k => condK (opnd s.tm c) (evCodeG R C H n a s k) (evCodeG R C H n b s k)
  | .block i b, s, k => evCodeG R C H n b s (blockK (get H (3 * i + 1)) i k)
  | .loop b, s, k => nrm (get H (3 * firstRegion b)) s fun s' => loopN (get H (3 * firstRegion b)) (evCodeG R C H n b) n s' k
  | .exit i, s, k => nrm (get H (3 * i + 1)) s fun s' => k.x i s'
  | .ret, s, k => nrm (get H 2) s k.r
  | .rangeFunc g ps asg bd, s, k => R g ps asg bd s k.n
  | _, _, _ => none
end
/-- A round: the loop's variables are set, the body is run on the state that the iterating function has left; it answers true. -/
def roundK (C : Cx) (n : Nat) (tm : Tr) (y0 : Nat) (ps : List Nat) (asg bd : Code) : Rnd := fun y args s nm => chk (Nat.beq y y0 && Nat.beq args.length ps.length)
  (evCodeG noR C [] n asg ⟨putPs ps args tm, s.bl, s.fz, nm⟩ ⟨fun s1 => evCodeG noR C [] n bd s1 ⟨fun s2 => closeS2 C.F nm s.bl s2 (.bool true), fun _ _ => none, fun _ => none⟩, fun _ _ => none, fun _ => none⟩)
section
variable {β : Type}
def rfH (C : Cx) (n : Nat) : RF β := fun g ps asg bd s K => chk (!C.hasY) (match opnd s.tm g with
  | .fn f caps => chk (caps.all capOk) (rangeK C f caps s (roundK C n s.tm s.nx ps.toList asg bd) K)
  | _ => none)
def evCode (C : Cx) (H : List (Nat × List Keep)) (n : Nat) : Code → Sx → Kont β → Option β := evCodeG (rfH C n) C H n
end
def resOf (C : Cx) (s : Sx) : ResultVar → Option AV
  | .tmp t => bif known (look s.tm t) then some (look s.tm t) else none
  | .cell a t => match look s.tm a with
    | .ptr b off => match get s.bl b with
      | some (.box cs) => fit (C.vw s 0) t cs off fun v => bif known v then some v else none
      | _ => none
    | _ => none
def ress (C : Cx) (s : Sx) : List ResultVar → Option (List AV)
  | [] => some []
  | x :: r => match resOf C s x, ress C s r with
    | some v, some l => some (v :: l)
    | _, _ => none
def oneOf : List AV → AV
  | [v] => v
  | vs => .tup vs
def closeN (s : Sx) (v : AV) (ns : List Nat) : Option Ans := chk ((names v).all (memN ns) && closed1 s.bl ns ns && distinct ns) (some (true, ren (idx ns) v, (pick1 s.bl (idx ns) ns).map (·.2)))
/-- What a function hands back. -/
def close (C : Cx) (rs : List ResultVar) (s : Sx) : Option Ans := match ress C s rs with
  | some vs => closeN s (oneOf vs) (reach s.bl 60 (names (oneOf vs)) [])
  | none => none
def args0 : Nat → List AV → Tr → Tr
  | _, [], t => t
  | n, v :: r, t => args0 (n + 1) r (putT t n v)
def evBody (C : Cx) (H : List (Nat × List Keep)) (n : Nat) (fn : Func) (args : List AV) : Option Ans := match fn.body with
  | some c => chk (Nat.ble args.length fn.ntmps) (seqS ⟨args0 0 args .nil, [], [], 0⟩ fun s => evCode C H n c s ⟨close C fn.results.toList, fun _ _ => none, close C fn.results.toList⟩)
  | none => none
def closeS (C : Cx) (rs : List ResultVar) (nm : Nat) (bl0 : Bls) (s : Sx) : Option Eff := match ress C s rs with
  | some vs => closeS2 C.F nm bl0 s (oneOf vs)
  | none => none
def evBodyS (C : Cx) (n : Nat) (fn : Func) (args : List AV) (s : Sx) (nm : Nat) : Option Eff := match fn.body with
  | some c => chk (Nat.ble args.length fn.ntmps) (seqS ⟨args0 0 args .nil, s.bl, s.fz, nm⟩ fun s1 => evCode C [] n c s1 ⟨closeS C fn.results.toList nm s.bl, fun _ _ => none, closeS C fn.results.toList nm s.bl⟩)
  | none => none
structure Env where
  T : Tab
  F : List (Nat × Func)
  H : List (Nat × List (Nat × List Keep))
  R : List (Nat × Row)
def hintsOf (H : List (Nat × List (Nat × List Keep))) (f : Nat) : List (Nat × List Keep) := match get H f with
  | some l => l
  | none => []
/-- Slices of which only the front is kept. -/
def popOf (H : List (Nat × List Keep)) (t : Nat) : Bool := match get H 999999 with
  | some ks => ks.any fun | .asis u => Nat.beq u t | _ => false
  | none => false
def Env.next (G : Env) (F : Frc) (C : Cx) (n : Nat) : Cx := ⟨G.T, F,
  fun f args => match get G.F f with
    | some fn => evBody (C.setP (popOf (hintsOf G.H f))) (hintsOf G.H f) n fn args
    | none => none,
  fun f args s nm rnd => match get G.F f with
    | some fn => evBodyS ((C.setY rnd).setP (popOf (hintsOf G.H f))) n fn args s nm
    | none => none, noY, false, get G.R, fun _ => false⟩
def Env.cx (G : Env) (F : Frc) : Nat → Cx
  | 0 => ⟨G.T, F, fun _ _ => none, noS, noY, false, get G.R, fun _ => false⟩
  | n + 1 => Env.next G F (Env.cx G F n) n
def Env.ev (G : Env) (F : Frc) (n : Nat) : CallF := (Env.cx G F n).call
end Go.Proofs.Ytcjhegiidnjepaa.Ev
