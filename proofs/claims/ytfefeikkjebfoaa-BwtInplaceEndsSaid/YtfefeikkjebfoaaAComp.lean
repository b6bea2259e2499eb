/-
  FROM THE PROGRAM'S FORM TO THE ABSTRACT MACHINE'S: a function that translates the code of a function, with what the types say put in. Conditions: none.
-/
import Derived.Test.YtfefeikkjebfoaaAMach
import Derived.Orders
namespace Go.Proofs.Ytfefeikkjebfoaa
namespace AM
open Go

section
variable (P : Program)

/-- No reference lies in a value of the type. -/
def plainTy : Nat → TypeId → Bool
  | 0, _ => false
  | d + 1, t => match P.underlying t with
    | some .bool => true
    | some (.int _) => true
    | some .string => true
    | some (.struct fs) => fs.toList.all fun f => plainTy d f.type
    | some (.array _ e) => plainTy d e
    | _ => false
def aggTy (t : TypeId) : Option Bool :=
  match P.underlying t with
  | some (.struct _) => some true
  | some (.array _ _) => some true
  | some _ => some false
  | none => none
def sizeTy (t : TypeId) : Option Nat := (P.info? t).map (·.size)
/-- How many cells a read takes: one, or an aggregate's. -/
def spanTy (t : TypeId) : Option (Option Nat) :=
  match aggTy P t with
  | some true => (sizeTy P t).map some
  | some false => if sizeTy P t = some 1 then some none else none
  | none => none
def zeroTy (t : TypeId) : Option (List Value) :=
  match P.info? t with
  | some i => match i.zero with
    | some z => if z.cells.size = i.size && z.cells.toList.all sc then some z.cells.toList else none
    | none => none
  | none => none
/-- Equality on a type is equality of the cells: their shapes. -/
def shFs (f : TypeId → Option (List Sh)) : List Field → Nat → Option (List Sh)
  | [], _ => some []
  | fd :: l, n => if fd.offset = n && fd.name != "_" then (f fd.type).bind fun s => if sizeTy P fd.type = some s.length then (shFs f l (n + s.length)).map (s ++ ·) else none else none
def shTy : Nat → TypeId → Option (List Sh)
  | 0, _ => none
  | d + 1, t => match P.underlying t with
    | some .bool => some [.bo]
    | some (.int _) => some [.nu]
    | some .string => some [.st]
    | some (.struct fs) => if P.stoodInHeld t then none else shFs P (shTy d) fs.toList 0
    | some (.array n e) => (shTy d e).bind fun s => if sizeTy P e = some s.length then some (List.replicate n s).flatten else none
    | _ => none
def constOk : Operand → Bool
  | .const (.agg cs) => cs.toList.all sc
  | .const v => sc v
  | .global _ => false
  | _ => true
def placesTy (t : TypeId) : Option (Nat → Option (Nat × Nat)) :=
  match P.underlying t with
  | some (.struct fs) => if fs.toList.all (fun f => (sizeTy P f.type).isSome) then some fun i => (fs[i]?).bind fun f => (sizeTy P f.type).map fun s => (f.offset, s) else none
  | some (.array _ e) => (sizeTy P e).map fun s i => some (i * s, s)
  | _ => none
def compPs (pl : Nat → Option (Nat × Nat)) : List (Nat × Operand) → Option (List (Nat × Nat × Operand))
  | [] => some []
  | (i, x) :: l => (pl i).bind fun q => (compPs pl l).map fun r => (q.1, q.2, x) :: r
def eqOk (t : TypeId) : Option EqK :=
  match P.underlying t with
  | some .bool => some .bool
  | some (.pointer _) => some .ptr
  | some (.slice _) => some .slice
  | some (.map _ _) => some .map
  | some (.func _ _ _) => some .func
  | some (.struct _) => if P.eqGuardType P.depth t then none else (shTy P 8 t).map .agg
  | some (.array _ _) => if P.eqGuardType P.depth t then none else (shTy P 8 t).map .agg
  | _ => none
def elemTy (t : TypeId) : Option TypeId :=
  match P.underlying t with
  | some (.slice e) => some e
  | _ => none
def isBytes (e : TypeId) : Bool := match P.underlying e with | some (.int .u8) => sizeTy P e = some 1 | _ => false
/-- The zeros of so many elements. -/
def bytesTy (t : TypeId) : Option Nat := (P.info? t).map (·.bytes)
def smallBytes (e : TypeId) : Bool := match bytesTy P e with | some b => b ≤ 4194304 | none => false

def compOp (o : Op) : Option AOp :=
  match o with
  | .move x => some (.mv x)
  | .assign x => some (.mv x)
  | .pick c a b => some (.pick c a b)
  | .alloc e => (zeroTy P e).map fun zs => .alloc (plainTy P 8 e) zs
  | .box e x => some (.box (plainTy P 8 e) x)
  | .build t ps => (zeroTy P t).bind fun zs => (placesTy P t).bind fun pl => (compPs pl ps.toList).map fun ps => .build zs ps
  | .buildSlice t n ps => (elemTy P t).bind fun e => (sizeTy P e).bind fun s => (zeroTy P e).bind fun zs =>
      if 0 < s && n * s ≤ 1048576 then (compPs (fun i => some (i * s, s)) ps.toList).map fun ps => .bslice (plainTy P 8 e) s n (List.replicate n zs).flatten ps else none
  | .load t a => (spanTy P t).map fun n => .load n a
  | .store t a x => (sizeTy P t).map fun n => .store n a x
  | .nilCheck x => some (.nilck x)
  | .binOp op t x y _ => match P.underlying t with
    | some (.int _) => some (.bin op x y)
    | some .string => some (.bin op x y)
    | _ => match op with
      | .eql => (eqOk P t).map fun sh => .eqs false sh x y
      | .neq => (eqOk P t).map fun sh => .eqs true sh x y
      | _ => none
  | .unOp op _ x => some (.un op x)
  | .convert s d x => match P.underlying s, P.underlying d with
    | some (.int _), some (.int k) => some (.conv k x)
    | some .string, some (.slice e) => if isBytes P e then some (.strb x) else none
    | some (.slice e), some .string => if isBytes P e then some (.bstr x) else none
    | some (.slice _), some (.slice e) => if isBytes P e && s == d then some (.mark x) else none
    | _, _ => none
  | .makeFunc (.func f) fi ca => some (.mkfn f fi.toList ca.toList)
  | .makeSlice t l c => (elemTy P t).bind fun e => (sizeTy P e).bind fun s => (zeroTy P e).bind fun zs => if 0 < s && smallBytes P e then some (.mkslice (plainTy P 8 e) s zs l c) else none
  | .slice t x lo hi mx => match P.underlying t with
    | some (.slice e) => (sizeTy P e).bind fun s => if 0 < s then some (.slice s x lo hi mx) else none
    | some .string => if mx.isNone then some (.slices x lo hi) else none
    | some (.array n e) => (sizeTy P e).bind fun s => if 0 < s && n ≤ 1048576 then some (.slicea s n x lo hi mx) else none
    | _ => none
  | .fieldAddr t x f => match P.underlying t with
    | some (.struct fs) => (fs[f]?).bind fun f => (sizeTy P f.type).bind fun s => if 0 < s then some (.faddr f.offset x) else none
    | _ => none
  | .field t x f => match P.underlying t with
    | some (.struct fs) => (fs[f]?).bind fun f => (spanTy P f.type).map fun n => .field f.offset n x
    | _ => none
  | .indexAddr t x i => match P.underlying t with
    | some (.slice e) => (sizeTy P e).bind fun s => if 0 < s then some (.iaddr s x i) else none
    | some (.array n e) => (sizeTy P e).bind fun s => if 0 < s && 1 < n then some (.iaddra s n x i) else none
    | _ => none
  | .index t x i => match P.underlying t with
    | some (.array n e) => (sizeTy P e).bind fun s => (spanTy P e).map fun m => .idx s n m x i
    | some .string => some (.idxs x i)
    | _ => none
  | .extract x i => some (.ext x i)
  | .call c => match c.callee with
    | .value (.func f) => some (.call f c.args.toList)
    | .value x => if constOk x then some (.callv x c.args.toList) else none
    | .builtin .append => match c.args.toList, c.argTypes.toList with
      | [x, y], [tx, ty] => (elemTy P tx).bind fun e => (sizeTy P e).bind fun s => (zeroTy P e).bind fun _ => match P.underlying ty with
        | some (.slice _) => if 0 < s && smallBytes P e then some (.append (plainTy P 8 e) s x y) else none
        | some .string => if 0 < s && smallBytes P e then some (.append (plainTy P 8 e) s x y) else none
        | _ => none
      | _, _ => none
    | .builtin .copy => match c.args.toList, c.argTypes.toList with
      | [x, y], [tx, _] => (elemTy P tx).bind fun e => (sizeTy P e).bind fun s => if 0 < s then some (.copy s x y) else none
      | _, _ => none
    | .builtin .clear => match c.args.toList, c.argTypes.toList with
      | [x], [tx] => (elemTy P tx).bind fun e => (sizeTy P e).bind fun s => (zeroTy P e).bind fun zs => if 0 < s && zs.all cellv then some (.clear s zs x) else none
      | _, _ => none
    | .builtin .len => match c.args.toList, c.argTypes.toList with
      | [x], [tx] => match P.underlying tx with
        | some (.slice _) => some (.len x)
        | some .string => some (.lens x)
        | some (.array n _) => some (.lena n)
        | _ => none
      | _, _ => none
    | .builtin .cap => match c.args.toList, c.argTypes.toList with
      | [x], [tx] => match P.underlying tx with
        | some (.slice _) => some (.cap x)
        | _ => none
      | _, _ => none
    | .builtin .min => some (.mm false c.args.toList)
    | .builtin .max => some (.mm true c.args.toList)
    | _ => none
  | _ => none

end

def opnds : AOp → List Operand
  | .mv x | .box _ x | .load _ x | .nilck x | .un _ x | .conv _ x | .strb x | .bstr x | .mark x | .faddr _ x | .field _ _ x | .ext x _ | .len x | .lens x | .cap x | .clear _ _ x => [x]
  | .native _ => []
  | .pick c a b => [c, a, b]
  | .alloc _ _ | .lena _ => []
  | .build _ ps | .bslice _ _ _ _ ps => ps.map (·.2.2)
  | .store _ a x | .bin _ a x | .eqs _ _ a x | .mkslice _ _ _ a x | .iaddr _ a x | .iaddra _ _ a x | .idx _ _ _ a x | .idxs a x | .append _ _ a x | .copy _ a x => [a, x]
  | .mkfn _ a b => a ++ b
  | .slice _ x l h m | .slicea _ _ x l h m => x :: (l.toList ++ h.toList ++ m.toList)
  | .slices x l h => x :: (l.toList ++ h.toList)
  | .call _ xs | .mm _ xs => xs
  | .callv x xs => x :: xs
def addT (l : List Nat) (t : Nat) : List Nat := if l.contains t then l else t :: l
def addO (l : List Nat) : Operand → List Nat
  | .tmp t => addT l t
  | _ => l
def joinT (a : List Nat) (b : List Nat) : List Nat := b.foldl addT a
/-- Which slots must be known before the operations, if 'out' must be known behind them. -/
def liveOps : List AOper → List Nat → List Nat
  | [], out => out
  | o :: l, out =>
    let k := (liveOps l out).filter fun t => o.dst != some t
    let k := (opnds o.op).foldl addO k
    match o.guard with
    | none => k
    | some (g, _) => addT k g

/-- Does the operation read, write or hand over memory? (New memory alone does not count.) -/
def memOp : AOp → Bool
  | .load _ _ | .store _ _ _ | .bstr _ | .mark _ | .call _ _ | .callv _ _ | .append _ _ _ _ | .copy _ _ _ | .clear _ _ _ | .native _ => true
  | _ => false
def newOp : AOp → Bool
  | .alloc _ _ | .box _ _ | .bslice _ _ _ _ _ | .strb _ | .mkslice _ _ _ _ _ => true
  | _ => false

section
variable (P : Program)
def dstOk (ntmps : Nat) : Option Tmp → Bool
  | some d => decide (d < ntmps)
  | none => true
def compOper (ops : Array Oper) (ntmps : Nat) (o : Oper) : Option AOper :=
  if o.op.operands.toList.all constOk && dstOk ntmps o.dst then
    (compOp P o.op).bind fun a => match o.guard with
      | none => some ⟨o.dst, none, 0, true, a⟩
      | some (g, b) => match (ops[g]?).bind (·.dst) with
        | some s => some ⟨o.dst, some (s, b), 0, true, a⟩
        | none => none
  else none
def compOpers (ops : Array Oper) (ntmps : Nat) : List Oper → Option (List AOper)
  | [] => some []
  | o :: l => (compOper P ops ntmps o).bind fun a => (compOpers ops ntmps l).map (a :: ·)
end
/-- Of each operation: the set of those that every order does before it. -/
def befs : List Oper → List Nat → List Nat
  | [], acc => acc
  | o :: l, acc => befs l (acc ++ [o.after.toList.foldl (fun s e => if Region.binds .any e then s ||| (2 ^ e.on ||| acc.getD e.on 0) else s) 0])
/-- Is the operation number j bound to every other one that touches memory? -/
def bound (as : List AOper) (bs : List Nat) (j : Nat) : Bool :=
  (List.range as.length).all fun i => i == j || (match as[i]? with | some a => !memOp a.op | none => true) || (bs.getD j 0).testBit i || (bs.getD i 0).testBit j
def marked (as : List AOper) (bs : List Nat) : List AOper :=
  as.zipIdx.map fun (a, j) => { a with bef := bs.getD j 0, wr := memOp a.op && bound as bs j }

def movOp : AOp → Bool
  | .mv _ | .load _ _ | .store _ _ _ => true
  | _ => false
/-- A region that only moves values, with a store that is not bound to all of the others. -/
def movB (as : List AOper) : Bool := (as.all fun o => movOp o.op && o.guard.isNone) && as.any fun o => match o.op with
  | .store _ _ _ => !o.wr
  | _ => false
/-- Each slot has one writer; an operation and the writer of what it looks at are bound by an edge; edges go back; no select. -/
def statB (ops : Array Oper) : Bool :=
  (List.range ops.size).all fun j => match ops[j]? with
    | none => false
    | some o => (match o.op with | .select _ _ => false | _ => true) &&
        (o.after.toList.all fun e => !Region.binds .any e || decide (e.on < j)) &&
        ((List.range ops.size).all fun k => match ops[k]? with
          | none => false
          | some o' => j == k || (match o'.dst with
            | none => true
            | some d => (o.dst != some d) && (!(o.looksAt ops).contains d || (o.after.toList.any fun e => Region.binds .any e && e.on == k) || (o'.after.toList.any fun e => Region.binds .any e && e.on == j))))

section
variable (P : Program) (ntmps : Nat)
def comp (exits : List (Nat × List Nat)) (fin : List Nat) : Code → List Nat → Option (ACode × List Nat)
  | .skip, out => some (.skip, out)
  | .ret, _ => some (.ret, fin)
  | .exit id, _ => match exits.find? (·.1 == id) with
    | some (_, o) => some (.exit id, o)
    | none => none
  | .region _ ops draw, out => (compOpers P ops ntmps ops.toList).bind fun as =>
      if draw then (if statB ops then (if movB (marked as (befs ops.toList [])) then some (.moves as, liveOps as out) else some (.drawn (marked as (befs ops.toList [])), liveOps as out)) else none) else some (.region as, liveOps as out)
  | .seq a b, out => (comp exits fin b out).bind fun q => (comp exits fin a q.2).map fun p => (.seq p.1 q.1, p.2)
  | .cond c a b, out => if constOk c then (comp exits fin a out).bind fun p => (comp exits fin b out).map fun q => (.cond c p.1 q.1, addO (joinT p.2 q.2) c) else none
  | .block id b, out => (comp ((id, out) :: exits) fin b out).map fun p => (.block id p.1, p.2)
  | .loop b, _ => (comp exits fin b []).bind fun p => (comp exits fin b p.2).bind fun q => (comp exits fin b q.2).map fun r => (.loop q.2 r.1, q.2)
  | _, _ => none
def compRes : List ResultVar → Option (List ARes)
  | [] => some []
  | .tmp t :: l => (compRes l).map (.tmp t :: ·)
  | .cell a t :: l => (spanTy P t).bind fun n => (compRes l).map (.cell a n :: ·)
def resTmps : List ARes → List Nat
  | [] => []
  | .tmp t :: l => addT (resTmps l) t
  | .cell a _ :: l => addT (resTmps l) a
end
def compFn (P : Program) (f : Func) : Option AFn :=
  (compRes P f.results.toList).bind fun rs => f.body.bind fun c => (comp P f.ntmps [] (resTmps rs) c (resTmps rs)).map fun p => ⟨p.1, rs⟩

end AM
end Go.Proofs.Ytfefeikkjebfoaa
