/-
  AN ABSTRACT MACHINE: the program's functions, run on a small memory of lists of cells, in the order of the text, with the order's and the capacities' choices left out.
  Definitions: the memory, the operations, the forms of code, their run. Conditions: none.
  FROM THE PROGRAM'S FORM TO THE ABSTRACT MACHINE'S: a function that translates the code of a function, with what the types say put in. Conditions: none.
  THE ABSTRACT MACHINE's STATES AND THE PROGRAM's WORLDS: what it means that the one stands for the other; how it is carried along. Conditions: none.
-/
import Derived.Below
import Derived.WalkKit
import Derived.Orders
import Derived.Test.YtpjjkmfidghkjaaMem
set_option linter.all false
section
namespace Go.Proofs.Ytpjjkmfidghkjaa
namespace AM
open Go

/-- A block: cells (its stamp turns when an append makes it longer; plain: no references in it), or a map. -/
inductive Blk where
  | cells (gen : Nat) (plain : Bool) (cs : List Value)
  | map (es : List (Value × Value))
  deriving Inhabited

structure St where
  heap : List Blk
  lock : Nat
  hid : List Nat
  dirty : List Nat

/-- A value without a reference, one cell. -/
def sc : Value → Bool
  | .bool _ => true
  | .int _ _ => true
  | .string _ => true
  | .pointer none => true
  | .slice none 0 0 => true
  | .map none => true
  | .func (.func _) fi ca => fi.isEmpty && ca.isEmpty
  | .nilFunc => true
  | .nilIface => true
  | _ => false
/-- A value of one cell. -/
def cellv : Value → Bool
  | .pointer (some _) => true
  | .slice (some _) _ _ => true
  | .map (some _) => true
  | v => sc v

def refsC : Value → List Nat
  | .pointer (some a) => [a.block]
  | .slice (some a) _ _ => [a.block]
  | .map (some r) => [r]
  | _ => []
def refsF : Value → List Nat
  | .agg cs => cs.toList.flatMap refsC
  | .func _ fi ca => fi.toList.flatMap refsC ++ ca.toList.flatMap refsC
  | v => refsC v
def refs : Value → List Nat
  | .tuple vs => vs.toList.flatMap refsF
  | v => refsF v
def renC (f : Nat → Nat) : Value → Value
  | .pointer (some a) => .pointer (some { a with block := f a.block })
  | .slice (some a) n e => .slice (some { a with block := f a.block }) n e
  | .map (some r) => .map (some (f r))
  | v => v
def renF (f : Nat → Nat) : Value → Value
  | .agg cs => .agg (cs.toList.map (renC f)).toArray
  | .func g fi ca => .func g (fi.toList.map (renC f)).toArray (ca.toList.map (renC f)).toArray
  | v => renC f v
def ren (f : Nat → Nat) : Value → Value
  | .tuple vs => .tuple (vs.toList.map (renF f)).toArray
  | v => renF f v

def refsB : Blk → List Nat
  | .cells _ true _ => []
  | .cells _ false cs => cs.flatMap refsC
  | .map _ => []
def renB (f : Nat → Nat) : Blk → Blk
  | .cells g true cs => .cells g true cs
  | .cells g false cs => .cells g false (cs.map (renC f))
  | .map es => .map es
def refsAt (h : List Blk) (r : Nat) : List Nat :=
  match h[r]? with
  | some b => refsB b
  | none => []

abbrev Fr := List (Nat × Value)
def Fr.get : Fr → Nat → Option Value
  | [], _ => none
  | (k, v) :: l, t => if k = t then some v else Fr.get l t
def Fr.put (fr : Fr) (d : Option Nat) (v : Value) : Fr :=
  match d with
  | some d => (d, v) :: fr
  | none => fr
def Fr.keep (fr : Fr) : List Nat → Fr
  | [] => []
  | t :: l => match fr.get t with
    | some v => (t, v) :: fr.keep l
    | none => fr.keep l

def ev (fr : Fr) : Operand → Option Value
  | .tmp t => fr.get t
  | .const v => some v
  | .func f => some (.func (.func f) #[] #[])
  | .global _ => none
def evo (fr : Fr) : Option Operand → Option (Option Value)
  | none => some none
  | some x => (ev fr x).map some
def evs (fr : Fr) : List Operand → Option (List Value)
  | [] => some []
  | x :: l => (ev fr x).bind fun v => (evs fr l).map (v :: ·)

/-- The shape of a cell that '==' compares. -/
inductive Sh where
  | bo
  | nu
  | st
/-- What '==' compares. -/
inductive EqK where
  | bool
  | ptr
  | slice
  | map
  | func
  | agg (s : List Sh)
inductive AOp where
  | mv (x : Operand)
  | pick (c a b : Operand)
  | alloc (pl : Bool) (zs : List Value)
  | box (pl : Bool) (x : Operand)
  | build (zs : List Value) (ps : List (Nat × Nat × Operand))
  | bslice (pl : Bool) (esz n : Nat) (zs : List Value) (ps : List (Nat × Nat × Operand))
  | load (n : Option Nat) (a : Operand)
  | store (n : Nat) (a x : Operand)
  | nilck (x : Operand)
  | bin (op : BinOp) (x y : Operand)
  | eqs (neg : Bool) (sh : EqK) (x y : Operand)
  | un (op : UnOp) (x : Operand)
  | conv (k : IntKind) (x : Operand)
  | strb (x : Operand)
  | bstr (x : Operand)
  | mark (x : Operand)
  | mkfn (f : FuncId) (first captured : List Operand)
  | mkslice (pl : Bool) (esz : Nat) (zs : List Value) (l c : Operand)
  | slice (esz : Nat) (x : Operand) (lo hi mx : Option Operand)
  | slicea (esz n : Nat) (x : Operand) (lo hi mx : Option Operand)
  | slices (x : Operand) (lo hi : Option Operand)
  | faddr (off : Nat) (x : Operand)
  | field (off : Nat) (n : Option Nat) (x : Operand)
  | iaddr (esz : Nat) (x i : Operand)
  | iaddra (esz n : Nat) (x i : Operand)
  | idx (esz n : Nat) (m : Option Nat) (x i : Operand)
  | idxs (x i : Operand)
  | ext (x : Operand) (i : Nat)
  | call (f : FuncId) (args : List Operand)
  | callv (x : Operand) (args : List Operand)
  | append (pl : Bool) (esz : Nat) (x y : Operand)
  | len (x : Operand)
  | lens (x : Operand)
  | lena (n : Nat)
  | cap (x : Operand)
  | copy (esz : Nat) (x y : Operand)
  | clear (esz : Nat) (zs : List Value) (x : Operand)
  | mm (mx : Bool) (xs : List Operand)
  | native (k : Fr → St → Option Value)
  | appendz (x n : Operand)

structure AOper where
  dst : Option Nat
  guard : Option (Nat × Bool)
  bef : Nat
  wr : Bool
  op : AOp

inductive ACode where
  | skip
  | ret
  | region (ops : List AOper)
  | drawn (ops : List AOper)
  | moves (xs : List Nat) (m : Bool) (ops : List AOper)
  | seq (a b : ACode)
  | cond (c : Operand) (a b : ACode)
  | block (id : Nat) (b : ACode)
  | loop (live : List Nat) (b : ACode)
  | exit (id : Nat)
  | each (x : Operand) (g : Nat) (gc : ACode) (ps : List Nat) (ba b : ACode)

inductive ARes where
  | tmp (t : Nat)
  | cell (a : Nat) (n : Option Nat)

structure AFn where
  code : ACode
  results : List ARes

/-! ### Cells -/
def St.blk (σ : St) (a : Addr) : Option (Bool × List Value) :=
  if σ.hid.contains a.block then none else
  match σ.heap[a.block]? with
  | some (.cells g pl cs) => if a.spot = some g then some (pl, cs) else none
  | _ => none
def putAt (cs : List Value) (off : Nat) : List Value → List Value
  | [] => cs
  | v :: vs => putAt (cs.set off v) (off + 1) vs
def cellsOf : Value → List Value
  | .agg cs => cs.toList
  | v => [v]
def rdCells (cs : List Value) (off : Nat) : Option Nat → Option Value
  | none => cs[off]?
  | some n => if off + n ≤ cs.length then some (.agg ((cs.drop off).take n).toArray) else none
def addDirty (σ : St) (b : Nat) (vs : List Value) : List Nat := if vs.all sc || σ.dirty.contains b then σ.dirty else b :: σ.dirty
/-- Cells written from an address on. -/
def St.write (σ : St) (a : Addr) (vs : List Value) : Option St :=
  if a.block < σ.lock then none else
  (σ.blk a).bind fun (pl, cs) =>
    if a.off + vs.length ≤ cs.length && vs.all cellv && (!pl || vs.all sc) then
      match σ.heap[a.block]? with
      | some (.cells g _ _) => some { σ with heap := σ.heap.set a.block (.cells g pl (putAt cs a.off vs)), dirty := addDirty σ a.block vs }
      | _ => none
    else none
def St.new (σ : St) (b : Blk) : Addr × St := (⟨σ.heap.length, 0, some 0⟩, { σ with heap := σ.heap ++ [b] })

def fill (cs : List Value) : List (Nat × Nat × Value) → Option (List Value)
  | [] => some cs
  | (off, size, v) :: rest => if (cellsOf v).length = size && off + size ≤ cs.length && (cellsOf v).all cellv then fill (putAt cs off (cellsOf v)) rest else none
def evps (fr : Fr) : List (Nat × Nat × Operand) → Option (List (Nat × Nat × Value))
  | [] => some []
  | (o, s, x) :: l => (ev fr x).bind fun v => (evps fr l).map ((o, s, v) :: ·)

/-! ### Pure operations -/
def pureOf {α : Type} : Sem α → Option α
  | .pure a => some a
  | _ => none
def bless : List UInt8 → List UInt8 → Bool
  | _, [] => false
  | [], _ :: _ => true
  | a :: x, b :: y => a < b || (a == b && bless x y)
def sbin (op : BinOp) (s t : ByteArray) : Option Value :=
  match op with
  | .add => if s.size + t.size ≤ 1099511627776 then some (.string ⟨s.data ++ t.data⟩) else none
  | .eql => some (.bool (s.data.toList == t.data.toList))
  | .neq => some (.bool (!(s.data.toList == t.data.toList)))
  | .lss => some (.bool (bless s.data.toList t.data.toList))
  | .leq => some (.bool (bless s.data.toList t.data.toList || s.data.toList == t.data.toList))
  | .gtr => some (.bool (!(bless s.data.toList t.data.toList || s.data.toList == t.data.toList)))
  | .geq => some (.bool (!bless s.data.toList t.data.toList))
  | _ => none
def abin (op : BinOp) (v w : Value) : Option Value :=
  match v, w with
  | .int k a, .int k' b => pureOf (binOp op 0 (.int k a) (.int k' b))
  | .string s, .string t => sbin op s t
  | _, _ => none
def sheq : Sh → Value → Value → Option Bool
  | .nu, .int k a, .int k' b => if k = k' then some (a == b) else none
  | .bo, .bool a, .bool b => some (a == b)
  | .st, .string a, .string b => some (a.data.toList == b.data.toList)
  | _, _, _ => none
def sheqs : List Sh → List Value → List Value → Option Bool
  | [], [], [] => some true
  | s :: r, v :: l, w :: m => (sheq s v w).bind fun b => (sheqs r l m).map fun c => b && c
  | _, _, _ => none
def aeq (sh : EqK) (v w : Value) : Option Bool :=
  match sh, v, w with
  | .agg sh, .agg xs, .agg ys => sheqs sh xs.toList ys.toList
  | .bool, .bool a, .bool b => some (a == b)
  | .ptr, .pointer none, .pointer b => some b.isNone
  | .ptr, .pointer (some _), .pointer none => some false
  | .slice, .slice none _ _, .slice b _ _ => some b.isNone
  | .slice, .slice (some _) _ _, .slice none _ _ => some false
  | .func, .nilFunc, .nilFunc => some true
  | .func, .nilFunc, .func _ _ _ => some false
  | .func, .func _ _ _, .nilFunc => some false
  | _, _, _ => none
def aun (op : UnOp) (v : Value) : Option Value :=
  match v with
  | .int k a => pureOf (Op.unary op (.int k a))
  | .bool a => pureOf (Op.unary op (.bool a))
  | _ => none
def intv : Value → Option Int
  | .int _ n => some n
  | _ => none
def boundv (y : Nat) : Option Value → Nat → Option Nat
  | none, d => some d
  | some (.int _ i), _ => if 0 ≤ i ∧ i ≤ y then some i.toNat else none
  | some _, _ => none
/-- The bounds of a cut: low, high, and whether a third was given. -/
def cuts (len : Nat) (lo hi mx : Option Value) : Option (Nat × Nat × Option Nat) :=
  match mx with
  | none => (boundv len hi len).bind fun h => (boundv h lo 0).map fun l => (l, h, none)
  | some m => (boundv len (some m) 0).bind fun m' => (match hi with | none => none | some h => boundv m' (some h) 0).bind fun h => (boundv h lo 0).map fun l => (l, h, some m')
def idxv (len : Nat) : Value → Option Nat
  | .int _ i => if 0 ≤ i ∧ i < len then some i.toNat else none
  | _ => none
def mm2 (mx : Bool) : Value → Value → Option Value
  | .int k x, .int k' y => if k = k' then some (.int k (if mx then (if y > x then y else x) else (if y < x then y else x))) else none
  | _, _ => none
def mmf (mx : Bool) : Value → List Value → Option Value
  | v, [] => some v
  | v, w :: l => (mm2 mx v w).bind fun u => mmf mx u l
def bytesv : List Value → Option (List UInt8)
  | [] => some []
  | .int .u8 n :: l => (bytesv l).map (UInt8.ofNat n.toNat :: ·)
  | _ => none
def strCells (s : ByteArray) : List Value := s.data.toList.map fun b => .int .u8 b.toNat

def pval (o : AOp) (fr : Fr) : Option Value :=
  match o with
  | .mv x => ev fr x
  | .pick c a b => match ev fr c with
    | some (.bool true) => ev fr a
    | some (.bool false) => ev fr b
    | _ => none
  | .build zs ps => (evps fr ps).bind fun ps => (fill zs ps).map fun cs => .agg cs.toArray
  | .nilck x => match ev fr x with
    | some (.pointer (some a)) => some (.pointer (some a))
    | some (.func (.func f) fi ca) => some (.func (.func f) fi ca)
    | _ => none
  | .bin op x y => (ev fr x).bind fun v => (ev fr y).bind fun w => abin op v w
  | .eqs neg sh x y => (ev fr x).bind fun v => (ev fr y).bind fun w => (aeq sh v w).map fun b => .bool (if neg then !b else b)
  | .un op x => (ev fr x).bind fun v => aun op v
  | .conv k x => match ev fr x with
    | some (.int _ n) => some (.int k (k.wrap n))
    | _ => none
  | .mkfn f fi ca => (evs fr fi).bind fun fi => (evs fr ca).bind fun ca => if fi.all cellv && ca.all cellv then some (.func (.func f) fi.toArray ca.toArray) else none
  | .slice esz x lo hi mx => (ev fr x).bind fun v => (evo fr lo).bind fun lo => (evo fr hi).bind fun hi => (evo fr mx).bind fun mx => match v with
    | .slice none 0 0 => (cuts 0 lo hi mx).map fun _ => .slice none 0 0
    | .slice (some a) n e => if e = 0 ∨ e = esz then (cuts n lo hi mx).map fun (l, h, m) => .slice (some { a with off := a.off + l * esz }) (h - l) (if m.isSome then 0 else e) else none
    | _ => none
  | .slicea esz n x lo hi mx => (ev fr x).bind fun v => (evo fr lo).bind fun lo => (evo fr hi).bind fun hi => (evo fr mx).bind fun mx => match v with
    | .pointer (some a) => (cuts n lo hi mx).map fun (l, h, _) => .slice (some { a with off := a.off + l * esz }) (h - l) 0
    | _ => none
  | .slices x lo hi => (ev fr x).bind fun v => (evo fr lo).bind fun lo => (evo fr hi).bind fun hi => match v with
    | .string s => (cuts s.size lo hi none).map fun (l, h, _) => .string ⟨((s.data.toList.drop l).take (h - l)).toArray⟩
    | _ => none
  | .faddr off x => match ev fr x with
    | some (.pointer (some a)) => some (.pointer (some { a with off := a.off + off }))
    | _ => none
  | .field off n x => match ev fr x with
    | some (.agg cs) => rdCells cs.toList off n
    | _ => none
  | .iaddr esz x i => (ev fr x).bind fun v => (ev fr i).bind fun i => match v with
    | .slice (some a) n _ => (idxv n i).map fun i => .pointer (some { a with off := a.off + i * esz })
    | _ => none
  | .iaddra esz n x i => (ev fr x).bind fun v => (ev fr i).bind fun i => match v with
    | .pointer (some a) => (idxv n i).map fun i => .pointer (some { a with off := a.off + i * esz })
    | _ => none
  | .idx esz n m x i => (ev fr x).bind fun v => (ev fr i).bind fun i => match v with
    | .agg cs => (idxv n i).bind fun i => rdCells cs.toList (i * esz) m
    | _ => none
  | .idxs x i => (ev fr x).bind fun v => (ev fr i).bind fun i => match v with
    | .string s => (idxv s.size i).bind fun i => (s.data.toList[i]?).map fun b => .int .u8 b.toNat
    | _ => none
  | .ext x i => match ev fr x with
    | some (.tuple vs) => vs.toList[i]?
    | _ => none
  | .len x => match ev fr x with
    | some (.slice _ n _) => some (.int .i64 n)
    | _ => none
  | .lens x => match ev fr x with
    | some (.string s) => some (.int .i64 s.size)
    | _ => none
  | .lena n => some (.int .i64 n)
  | .cap x => match ev fr x with
    | some (.slice none 0 0) => some (.int .i64 0)
    | _ => none
  | .mm mx xs => (evs fr xs).bind fun vs => match vs with
    | v :: l => mmf mx v l
    | [] => none
  | _ => none

/-! ### Memory -/
/-- What an append, a copy reads. -/
def St.news (σ : St) (esz : Nat) : Value → Option (Nat × List Value)
  | .slice none 0 0 => some (0, [])
  | .slice (some b) m _ => (σ.blk b).bind fun (_, cs) => if b.off + m * esz ≤ cs.length then some (m, (cs.drop b.off).take (m * esz)) else none
  | .string s => if esz = 1 then some (s.size, strCells s) else none
  | _ => none
def small (n : Nat) : Bool := n ≤ 1048576
/-- No cell lies there: the block has no room. -/
def St.bare (σ : St) (a : Addr) : Bool := match σ.blk a with
  | some (_, []) => true
  | _ => false
def St.append (σ : St) (pl : Bool) (esz : Nat) (x : Value) (m : Nat) (vs : List Value) : Option (Value × St) :=
  match x with
  | .slice none 0 0 =>
    if m = 0 then some (.slice none 0 0, σ)
    else if small (m * esz) && vs.all cellv && (!pl || vs.all sc) then some (.slice (some ⟨σ.heap.length, 0, some (m * esz)⟩) m esz, { σ with heap := σ.heap ++ [.cells (m * esz) pl vs] })
    else none
  | .slice (some a) n e =>
    if m = 0 then some (.slice (some a) n e, σ)
    else if a.block < σ.lock || e ≠ esz then
      if σ.bare a && e = esz then
        if small (m * esz) && vs.all cellv && (!pl || vs.all sc) then some (.slice (some ⟨σ.heap.length, 0, some (m * esz)⟩) m esz, { σ with heap := σ.heap ++ [.cells (m * esz) pl vs] })
        else none
      else none
    else (σ.blk a).bind fun (pl', cs) =>
      if vs.all cellv && (!pl' || vs.all sc) then
        if a.off + n * esz = cs.length then
          if a.off = 0 && small ((n + m) * esz) then
            some (.slice (some ⟨a.block, 0, some ((n + m) * esz)⟩) (n + m) esz, { σ with heap := σ.heap.set a.block (.cells ((n + m) * esz) pl' (cs ++ vs)), dirty := addDirty σ a.block vs })
          else none
        else if a.off + (n + m) * esz ≤ cs.length && (0 < n || a.off = 0) then
          (σ.write { a with off := a.off + n * esz } vs).map fun σ' => (.slice (some a) (n + m) e, σ')
        else none
      else none
  | _ => none

/-- Zero bytes appended to nil. -/
def zerosF (σ : St) : Value → Value → Option (Value × St)
  | .slice none 0 0, .int .i64 k => if k = 0 then some (.slice none 0 0, σ) else if 0 < k ∧ k ≤ 1048576 then
      some (.slice (some ⟨σ.heap.length, 0, some k.toNat⟩) k.toNat 1, { σ with heap := σ.heap ++ [.cells k.toNat true (List.replicate k.toNat (.int .u8 0))] }) else none
  | _, _ => none
abbrev CallF := Fn → List Value → St → Option (Value × St)
def yieldy : Fn → Bool
  | .yield _ => true
  | _ => false
/-- The calls, with another answer for the calls of yield. -/
def withYield (callf : CallF) (y : List Value → St → Option (Value × St)) : CallF := fun f args σ => match f with
  | .func h => callf (.func h) args σ
  | .yield _ => y args σ
  | _ => none
/-- The calls, without those of yield. -/
def noYield (callf : CallF) : CallF := withYield callf fun _ _ => none

def aop (callf : CallF) (o : AOp) (fr : Fr) (σ : St) : Option (Value × St) :=
  match o with
  | .alloc pl zs => some (.pointer (some (σ.new (.cells 0 pl zs)).1), (σ.new (.cells 0 pl zs)).2)
  | .box pl x => (ev fr x).bind fun v =>
      if (cellsOf v).all cellv && (!pl || (cellsOf v).all sc) then some (.pointer (some (σ.new (.cells 0 pl (cellsOf v))).1), (σ.new (.cells 0 pl (cellsOf v))).2) else none
  | .bslice pl esz n zs ps => (evps fr ps).bind fun ps => (fill zs ps).bind fun cs =>
      if cs.length = n * esz && small (n * esz) && (!pl || cs.all sc) then some (.slice (some (σ.new (.cells 0 pl cs)).1) n esz, (σ.new (.cells 0 pl cs)).2) else none
  | .load n a => match ev fr a with
    | some (.pointer (some a)) => (σ.blk a).bind fun (_, cs) => (rdCells cs a.off n).map fun v => (v, σ)
    | _ => none
  | .store n a x => (ev fr x).bind fun v => match ev fr a with
    | some (.pointer (some a)) => if (cellsOf v).length = n then (σ.write a (cellsOf v)).map fun σ' => (.tuple #[], σ') else none
    | _ => none
  | .strb x => match ev fr x with
    | some (.string s) => if small s.size && 0 < s.size then some (.slice (some (σ.new (.cells 0 true (strCells s))).1) s.size 1, (σ.new (.cells 0 true (strCells s))).2) else none
    | _ => none
  | .bstr x => match ev fr x with
    | some (.slice none 0 0) => some (.string ⟨#[]⟩, σ)
    | some (.slice (some a) n _) => (σ.blk a).bind fun (_, cs) => if a.off + n ≤ cs.length then (bytesv ((cs.drop a.off).take n)).map fun l => (.string ⟨l.toArray⟩, σ) else none
    | _ => none
  | .mark x => match ev fr x with
    | some (.slice (some a) n e) => if a.block < σ.lock || n = 0 then none else (σ.blk a).map fun _ => (.slice (some a) n e, σ)
    | _ => none
  | .mkslice pl esz zs l c => (ev fr l).bind fun l => (ev fr c).bind fun c => (intv l).bind fun l => (intv c).bind fun c =>
      if 0 ≤ l && l ≤ c && c ≤ 1048576 && esz * c.toNat ≤ 1048576 && zs.length = esz && (l ≠ 0 || c = 0) then
        let cs := (List.replicate l.toNat zs).flatten
        some (.slice (some (σ.new (.cells 0 pl cs)).1) l.toNat esz, (σ.new (.cells 0 pl cs)).2)
      else none
  | .call f args => (evs fr args).bind fun vs => callf (.func f) vs σ
  | .callv x args => (ev fr x).bind fun v => (evs fr args).bind fun vs => match v with
    | .func g fi ca => if yieldy g && !ca.isEmpty then none else callf g (fi.toList ++ vs ++ ca.toList) σ
    | _ => none
  | .append pl esz x y => (ev fr x).bind fun x => (ev fr y).bind fun y => (σ.news esz y).bind fun (m, vs) => σ.append pl esz x m vs
  | .copy esz x y => (ev fr x).bind fun x => (ev fr y).bind fun y => (σ.news esz y).bind fun (m, vs) => match x with
    | .slice none 0 0 => some (.int .i64 0, σ)
    | .slice (some a) n _ =>
      if min m n = 0 then some (.int .i64 0, σ)
      else (σ.write a (vs.take (min m n * esz))).map fun σ' => (.int .i64 (min m n : Nat), σ')
    | _ => none
  | .clear _ zs x => match ev fr x with
    | some (.slice none 0 0) => some (.tuple #[], σ)
    | some (.slice (some a) n _) => if n = 0 then some (.tuple #[], σ) else (σ.write a (List.replicate n zs).flatten).map fun σ' => (.tuple #[], σ')
    | _ => none
  | .native k => (k fr σ).map fun v => (v, σ)
  | .appendz x n => (ev fr x).bind fun x => (ev fr n).bind fun n => zerosF σ x n
  | o => (pval o fr).map fun v => (v, σ)

/-! ### Collecting what nobody can see any more -/
def reach (h : List Blk) (base : Nat) : Nat → List Nat → List Nat → List Nat
  | 0, _, acc => acc
  | _ + 1, [], acc => acc
  | f + 1, r :: ws, acc => if r < base || acc.contains r then reach h base f ws acc else reach h base f (refsAt h r ++ ws) (acc ++ [r])
def renAll (f : Nat → Nat) : List Nat → List Blk → List Blk
  | [], h => h
  | t :: l, h => renAll f l (h.modify t (renB f))
def nodupB : List Nat → Bool
  | [] => true
  | r :: l => !l.contains r && nodupB l
def gcKeep (base : Nat) (vs : List Value) (σ : St) (keep : List Nat) : Option (List Value × St) :=
  let olds := σ.dirty.filter (· < base)
  let ok := fun r => r < base || keep.contains r
  if nodupB keep && nodupB olds && (vs.all fun v => (refs v).all ok) && (olds.all fun t => (refsAt σ.heap t).all ok) && (keep.all fun r => base ≤ r && r < σ.heap.length && (refsAt σ.heap r).all ok) then
    let f := fun id => if id < base then id else base + keep.idxOf id
    some (vs.map (ren f), { σ with heap := renAll f olds (σ.heap.take base) ++ keep.map fun r => renB f (σ.heap.getD r default), dirty := olds })
  else none
def gc (base : Nat) (vs : List Value) (σ : St) : Option (List Value × St) :=
  if σ.heap.length ≤ base then some (vs, σ) else
  let roots := (vs.flatMap refs ++ (σ.dirty.filter (· < base)).flatMap (refsAt σ.heap)).filter (base ≤ ·)
  match roots with
  | [] => some (vs, { σ with heap := σ.heap.take base, dirty := σ.dirty.filter (· < base) })
  | r :: rs => gcKeep base vs σ (reach σ.heap base 4096 (r :: rs) [])

def joinDirty (a : List Nat) : List Nat → List Nat
  | [] => a
  | d :: l => if a.contains d then joinDirty a l else joinDirty (d :: a) l

/-! ### Code -/
inductive Ex where
  | normal
  | exit (id : Nat)
  | ret
  deriving DecidableEq

def want (o : AOper) (fr : Fr) : Option Bool :=
  match o.guard with
  | none => some true
  | some (g, b) => match fr.get g with
    | some (.bool c) => some (c == b)
    | some (.tuple _) => some false
    | _ => none
def undefv : Value := .tuple #[]

def aops (callf : CallF) : List AOper → Fr → St → Option (Fr × St)
  | [], fr, σ => some (fr, σ)
  | o :: l, fr, σ => (want o fr).bind fun b =>
    if b then (aop callf o.op fr σ).bind fun r => aops callf l (fr.put o.dst r.1) r.2
    else aops callf l (fr.put o.dst undefv) σ

/-- The blocks that an operation may not see: made by operations that need not be done before it. -/
def hiddenBy (bef : Nat) : List (Nat × Nat × Nat) → List Nat
  | [] => []
  | (i, lo, hi) :: l => if bef.testBit i then hiddenBy bef l else List.range' lo (hi - lo) ++ hiddenBy bef l
/-- The first block made in this region. -/
def baseOf : List (Nat × Nat × Nat) → Nat → Nat
  | [], n => n
  | (_, lo, _) :: l, _ => baseOf l lo
def lockO (L base n : Nat) : Nat := if L ≤ base ∧ base ≤ n then base else n
/-- Does the operation write only to blocks made in this region? -/
def ownO (o : AOper) : Bool := o.bef.testBit 255
/-- The blocks below are not to be written: by an operation that is not bound to the others, all; by one that writes to the region's own blocks, those from before. -/
def lockD (wr own : Bool) (born : List (Nat × Nat × Nat)) (L n : Nat) : Nat := if wr then (if own then lockO L (baseOf born n) n else L) else n
theorem lockD_le {wr own : Bool} {born : List (Nat × Nat × Nat)} {L n : Nat} (h : L ≤ n) : L ≤ lockD wr own born L n ∧ lockD wr own born L n ≤ n := by
  unfold lockD lockO
  repeat' split
  all_goals omega
def dops (callf : CallF) (born : List (Nat × Nat × Nat)) (j : Nat) : List AOper → Fr → St → Option (Fr × St)
  | [], fr, σ => some (fr, σ)
  | o :: l, fr, σ => (want o fr).bind fun b =>
    if b then
      (aop callf o.op fr { σ with lock := lockD o.wr (ownO o) born σ.lock σ.heap.length, hid := hiddenBy o.bef born ++ σ.hid }).bind fun r =>
        dops callf (if σ.heap.length < r.2.heap.length then (j, σ.heap.length, r.2.heap.length) :: born else born) (j + 1) l (fr.put o.dst r.1) { r.2 with lock := σ.lock, hid := σ.hid }
    else dops callf born (j + 1) l (fr.put o.dst undefv) σ

/-- What the machine does not follow: a branch with it is never taken. -/
def failK : Fr → St → Option Value := fun _ _ => none
/-- Operations that see only their operands. -/
def freeOp : AOp → Bool
  | .mv _ | .pick _ _ _ | .build _ _ | .nilck _ | .bin _ _ _ | .eqs _ _ _ _ | .un _ _ | .conv _ _ | .mkfn _ _ _ | .slice _ _ _ _ _ | .slicea _ _ _ _ _ _ | .slices _ _ _ | .faddr _ _ | .field _ _ _ | .iaddr _ _ _ | .iaddra _ _ _ _ | .idx _ _ _ _ _ | .idxs _ _ | .ext _ _ | .len _ | .lens _ | .lena _ | .cap _ | .mm _ _ => true
  | _ => false
/-- What a free operation touches: (does it write?, block). -/
def tgt (fr : Fr) : AOp → Option (List (Bool × Nat))
  | .load _ x => match ev fr x with
    | some (.pointer (some a)) => some [(false, a.block)]
    | _ => none
  | .store _ x _ => match ev fr x with
    | some (.pointer (some a)) => some [(true, a.block)]
    | _ => none
  | o => if freeOp o then some [] else none
def apart (tg seen : List (Bool × Nat)) : Bool := tg.all fun p => seen.all fun q => (!p.1 && !q.1) || p.2 != q.2
def noCall : CallF := fun _ _ _ => none
/-- The blocks of the boxes in some slots. -/
def boxes (fr : Fr) : List Nat → Option (List Nat)
  | [] => some []
  | x :: l => match fr.get x with
    | some (.pointer (some a)) => (boxes fr l).map (a.block :: ·)
    | some (.slice (some a) _ _) => (boxes fr l).map (a.block :: ·)
    | _ => none
/-- Free operations, and (if m) others that are bound to each other, and that do not see the blocks B; the free loads and stores are of blocks in B that nobody else in the region writes. -/
def mops (callf : CallF) (m : Bool) (B : List Nat) : List (Bool × Nat) → List AOper → Fr → St → Option (Fr × St)
  | _, [], fr, σ => some (fr, σ)
  | seen, o :: l, fr, σ => (want o fr).bind fun b =>
    if b then
      if o.wr then
        if m then (aop callf o.op fr { σ with hid := B ++ σ.hid }).bind fun r => mops callf m B seen l (fr.put o.dst r.1) { r.2 with hid := σ.hid } else none
      else (tgt fr o.op).bind fun tg =>
        if apart tg seen && (!m || tg.all fun p => B.contains p.2) then (aop noCall o.op fr σ).bind fun r => mops callf m B (tg ++ seen) l (fr.put o.dst r.1) r.2 else none
    else mops callf m B seen l (fr.put o.dst undefv) σ

def gcFr (base : Nat) (fr : Fr) (σ : St) : Option (Fr × St) :=
  (gc base (fr.map (·.2)) σ).map fun r => ((fr.map (·.1)).zip r.1, r.2)

def iter (body : Fr → St → Option (Ex × Fr × St)) (live : List Nat) (base : Nat) : Nat → Fr → St → Option (Ex × Fr × St)
  | 0, _, _ => none
  | n + 1, fr, σ => (body fr σ).bind fun r => match r.1 with
    | .normal => (gcFr base (r.2.1.keep live) r.2.2).bind fun q => iter body live base n q.1 q.2
    | e => some (e, r.2.1, r.2.2)

def argFr : Nat → List Value → Fr
  | _, [] => []
  | i, v :: l => (i, v) :: argFr (i + 1) l

/-- A round: yield's arguments in the loop's parameters, the assignments, the body. -/
def plainArg : Value → Bool
  | .func _ _ _ => false
  | .tuple _ => false
  | _ => true
def roundF (ba b : Fr → St → Option (Ex × Fr × St)) (ps : List Nat) (fr : Fr) (args : List Value) (σ : St) : Option (Value × St) :=
  if args.length = ps.length && args.all plainArg then
    (ba (ps.zip args ++ fr) { σ with dirty := [] }).bind fun r => match r.1 with
      | .normal => (b r.2.1 r.2.2).bind fun q => match q.1 with
        | .normal => (gc σ.heap.length [] q.2.2).map fun z => (.bool true, { z.2 with dirty := joinDirty σ.dirty z.2.dirty })
        | _ => none
      | _ => none
  else none
def yieldv : Value := .func (.yield 0) #[] #[]
def eachEnd (fr : Fr) (σ : St) (r : Ex × Fr × St) : Option (Ex × Fr × St) := match r.1 with
  | .exit _ => none
  | _ => (gc σ.heap.length [] r.2.2).map fun z => (.normal, fr, { z.2 with dirty := joinDirty σ.dirty z.2.dirty })

def exec : CallF → Nat → ACode → Fr → St → Option (Ex × Fr × St)
  | _, _, .skip, fr, σ => some (.normal, fr, σ)
  | _, _, .ret, fr, σ => some (.ret, fr, σ)
  | _, _, .exit id, fr, σ => some (.exit id, fr, σ)
  | callf, _, .region ops, fr, σ => (aops callf ops fr σ).map fun r => (.normal, r.1, r.2)
  | callf, _, .drawn ops, fr, σ => (dops (noYield callf) [] 0 ops fr σ).map fun r => (.normal, r.1, r.2)
  | callf, _, .moves xs m ops, fr, σ => (boxes fr xs).bind fun B => (mops (noYield callf) m B [] ops fr σ).map fun r => (.normal, r.1, r.2)
  | callf, n, .seq a b, fr, σ => (exec callf n a fr σ).bind fun r => match r.1 with
    | .normal => exec callf n b r.2.1 r.2.2
    | e => some (e, r.2.1, r.2.2)
  | callf, n, .cond c a b, fr, σ => match ev fr c with
    | some (.bool true) => exec callf n a fr σ
    | some (.bool false) => exec callf n b fr σ
    | _ => none
  | callf, n, .block id b, fr, σ => (exec callf n b fr σ).map fun r => match r.1 with
    | .exit i => if i = id then (.normal, r.2.1, r.2.2) else (.exit i, r.2.1, r.2.2)
    | e => (e, r.2.1, r.2.2)
  | callf, n, .loop live b, fr, σ => (iter (exec callf n b) live σ.heap.length n (fr.keep live) { σ with dirty := [] }).map fun r => (r.1, r.2.1, { r.2.2 with dirty := joinDirty σ.dirty r.2.2.dirty })
  | callf, n, .each x g gc ps ba b, fr, σ => match ev fr x with
    | some (.func (.func h) fi ca) =>
      if h == g && fi.isEmpty then
        (exec (withYield callf (roundF (exec callf n ba) (exec callf n b) ps fr)) n gc (argFr 0 (yieldv :: ca.toList)) { σ with dirty := [] }).bind (eachEnd fr σ)
      else none
    | _ => none

def resv (fr : Fr) (σ : St) : ARes → Option Value
  | .tmp t => fr.get t
  | .cell a n => match fr.get a with
    | some (.pointer (some a)) => (σ.blk a).bind fun r => rdCells r.2 a.off n
    | _ => none
def resvs (fr : Fr) (σ : St) : List ARes → Option (List Value)
  | [] => some []
  | r :: l => (resv fr σ r).bind fun v => (resvs fr σ l).map (v :: ·)
def flatv : Value → Bool
  | .tuple _ => false
  | _ => true
def resOf : List Value → Option Value
  | [v] => some v
  | vs => if vs.all flatv then some (.tuple vs.toArray) else none
def lookFn : List (Nat × AFn) → Nat → Option AFn
  | [], _ => none
  | (i, f) :: l, k => if i = k then some f else lookFn l k
/-- The functions; and, while a function is ranged over, what its yield does. -/
inductive Env where
  | base (l : List (Nat × AFn))
  | yl (e : Env) (ps : List Nat) (ba b : ACode) (fr : Fr)
def Env.fn : Env → Nat → Option AFn
  | .base l, k => lookFn l k
  | .yl _ _ _ _ _, _ => none

/-- A function's body, on arguments. -/
def body (callf : CallF) (n : Nat) (fn : AFn) (args : List Value) (σ : St) : Option (Value × St) :=
  (exec callf n fn.code (argFr 0 args) { σ with dirty := [] }).bind fun r => match r.1 with
    | .exit _ => none
    | _ => (resvs r.2.1 r.2.2 fn.results).bind fun vs => (resOf vs).bind fun u => (gc σ.heap.length [u] r.2.2).bind fun q => match q.1 with
      | [v] => some (v, { q.2 with dirty := joinDirty σ.dirty q.2.dirty })
      | _ => none

def runB (l : List (Nat × AFn)) : Nat → CallF
  | 0, _, _, _ => none
  | n + 1, .func f, args, σ => (lookFn l f).bind fun fn => body (runB l n) n fn args σ
  | _ + 1, _, _, _ => none
def run : Env → Nat → CallF
  | .base l => runB l
  | .yl e ps ba b fr => fun n => withYield (run e n) (roundF (exec (run e n) n ba) (exec (run e n) n b) ps fr)

end AM
end Go.Proofs.Ytpjjkmfidghkjaa
end
section
namespace Go.Proofs.Ytpjjkmfidghkjaa
namespace AM
open Go

section
variable (P : Program)

/-- No reference lies in a value of the type. -/
def plainTy : Nat → TypeId → Bool
  | 0, _ => false
  | d + 1, t => match P.underlying t with
    | some .bool => true
    | some (.int _) => true
    | some .string => true
    | some (.struct fs) => fs.toList.all fun f => plainTy d f.type
    | some (.array _ e) => plainTy d e
    | _ => false
def aggTy (t : TypeId) : Option Bool :=
  match P.underlying t with
  | some (.struct _) => some true
  | some (.array _ _) => some true
  | some _ => some false
  | none => none
def sizeTy (t : TypeId) : Option Nat := (P.info? t).map (·.size)
/-- How many cells a read takes: one, or an aggregate's. -/
def spanTy (t : TypeId) : Option (Option Nat) :=
  match aggTy P t with
  | some true => (sizeTy P t).map some
  | some false => if sizeTy P t = some 1 then some none else none
  | none => none
def zeroTy (t : TypeId) : Option (List Value) :=
  match P.info? t with
  | some i => match i.zero with
    | some z => if z.cells.size = i.size && z.cells.toList.all sc then some z.cells.toList else none
    | none => none
  | none => none
/-- Equality on a type is equality of the cells: their shapes. -/
def shFs (f : TypeId → Option (List Sh)) : List Field → Nat → Option (List Sh)
  | [], _ => some []
  | fd :: l, n => if fd.offset = n && fd.name != "_" then (f fd.type).bind fun s => if sizeTy P fd.type = some s.length then (shFs f l (n + s.length)).map (s ++ ·) else none else none
def shTy : Nat → TypeId → Option (List Sh)
  | 0, _ => none
  | d + 1, t => match P.underlying t with
    | some .bool => some [.bo]
    | some (.int _) => some [.nu]
    | some .string => some [.st]
    | some (.struct fs) => if P.stoodInHeld t then none else shFs P (shTy d) fs.toList 0
    | some (.array n e) => (shTy d e).bind fun s => if sizeTy P e = some s.length then some (List.replicate n s).flatten else none
    | _ => none
def constOk : Operand → Bool
  | .const (.agg cs) => cs.toList.all sc
  | .const v => sc v
  | .global _ => false
  | _ => true
def placesTy (t : TypeId) : Option (Nat → Option (Nat × Nat)) :=
  match P.underlying t with
  | some (.struct fs) => if fs.toList.all (fun f => (sizeTy P f.type).isSome) then some fun i => (fs[i]?).bind fun f => (sizeTy P f.type).map fun s => (f.offset, s) else none
  | some (.array _ e) => (sizeTy P e).map fun s i => some (i * s, s)
  | _ => none
def compPs (pl : Nat → Option (Nat × Nat)) : List (Nat × Operand) → Option (List (Nat × Nat × Operand))
  | [] => some []
  | (i, x) :: l => (pl i).bind fun q => (compPs pl l).map fun r => (q.1, q.2, x) :: r
def eqOk (t : TypeId) : Option EqK :=
  match P.underlying t with
  | some .bool => some .bool
  | some (.pointer _) => some .ptr
  | some (.slice _) => some .slice
  | some (.map _ _) => some .map
  | some (.func _ _ _) => some .func
  | some (.struct _) => if P.eqGuardType P.depth t then none else (shTy P 8 t).map .agg
  | some (.array _ _) => if P.eqGuardType P.depth t then none else (shTy P 8 t).map .agg
  | _ => none
def elemTy (t : TypeId) : Option TypeId :=
  match P.underlying t with
  | some (.slice e) => some e
  | _ => none
def isBytes (e : TypeId) : Bool := match P.underlying e with | some (.int .u8) => sizeTy P e = some 1 | _ => false
/-- The zeros of so many elements. -/
def bytesTy (t : TypeId) : Option Nat := (P.info? t).map (·.bytes)
def smallBytes (e : TypeId) : Bool := match bytesTy P e with | some b => b ≤ 4194304 | none => false

def compOp (o : Op) : Option AOp :=
  match o with
  | .makeInterface _ _ => some (.native failK)
  | .panic _ => some (.native failK)
  | .move x => some (.mv x)
  | .assign x => some (.mv x)
  | .pick c a b => some (.pick c a b)
  | .alloc e => (zeroTy P e).map fun zs => .alloc (plainTy P 8 e) zs
  | .box e x => some (.box (plainTy P 8 e) x)
  | .build t ps => (zeroTy P t).bind fun zs => (placesTy P t).bind fun pl => (compPs pl ps.toList).map fun ps => .build zs ps
  | .buildSlice t n ps => (elemTy P t).bind fun e => (sizeTy P e).bind fun s => (zeroTy P e).bind fun zs =>
      if 0 < s && n * s ≤ 1048576 then (compPs (fun i => some (i * s, s)) ps.toList).map fun ps => .bslice (plainTy P 8 e) s n (List.replicate n zs).flatten ps else none
  | .load t a => (spanTy P t).map fun n => .load n a
  | .store t a x => (sizeTy P t).map fun n => .store n a x
  | .nilCheck x => some (.nilck x)
  | .binOp op t x y _ => match P.underlying t with
    | some (.int _) => some (.bin op x y)
    | some .string => some (.bin op x y)
    | _ => match op with
      | .eql => (eqOk P t).map fun sh => .eqs false sh x y
      | .neq => (eqOk P t).map fun sh => .eqs true sh x y
      | _ => none
  | .unOp op _ x => some (.un op x)
  | .convert s d x => match P.underlying s, P.underlying d with
    | some (.int _), some (.int k) => some (.conv k x)
    | some .string, some (.slice e) => if isBytes P e then some (.strb x) else none
    | some (.slice e), some .string => if isBytes P e then some (.bstr x) else none
    | some (.slice _), some (.slice e) => if isBytes P e && s == d then some (.mark x) else none
    | _, _ => none
  | .makeFunc (.func f) fi ca => some (.mkfn f fi.toList ca.toList)
  | .makeSlice t l c => (elemTy P t).bind fun e => (sizeTy P e).bind fun s => (zeroTy P e).bind fun zs => if 0 < s && smallBytes P e then some (.mkslice (plainTy P 8 e) s zs l c) else none
  | .slice t x lo hi mx => match P.underlying t with
    | some (.slice e) => (sizeTy P e).bind fun s => if 0 < s then some (.slice s x lo hi mx) else none
    | some .string => if mx.isNone then some (.slices x lo hi) else none
    | some (.array n e) => (sizeTy P e).bind fun s => if 0 < s && n ≤ 1048576 then some (.slicea s n x lo hi mx) else none
    | _ => none
  | .fieldAddr t x f => match P.underlying t with
    | some (.struct fs) => (fs[f]?).bind fun f => (sizeTy P f.type).bind fun s => if 0 < s then some (.faddr f.offset x) else none
    | _ => none
  | .field t x f => match P.underlying t with
    | some (.struct fs) => (fs[f]?).bind fun f => (spanTy P f.type).map fun n => .field f.offset n x
    | _ => none
  | .indexAddr t x i => match P.underlying t with
    | some (.slice e) => (sizeTy P e).bind fun s => if 0 < s then some (.iaddr s x i) else none
    | some (.array n e) => (sizeTy P e).bind fun s => if 0 < s && 1 < n then some (.iaddra s n x i) else none
    | _ => none
  | .index t x i => match P.underlying t with
    | some (.array n e) => (sizeTy P e).bind fun s => (spanTy P e).map fun m => .idx s n m x i
    | some .string => some (.idxs x i)
    | _ => none
  | .extract x i => some (.ext x i)
  | .call c => match c.callee with
    | .value (.func f) => some (.call f c.args.toList)
    | .value x => if constOk x then some (.callv x c.args.toList) else none
    | .builtin .append => match c.args.toList, c.argTypes.toList with
      | [x, y], [tx, ty] => (elemTy P tx).bind fun e => (sizeTy P e).bind fun s => (zeroTy P e).bind fun zs => match P.underlying ty with
        | some (.slice _) => if 0 < s && smallBytes P e then some (.append (plainTy P 8 e) s x y) else none
        | some .string => if 0 < s && smallBytes P e then some (.append (plainTy P 8 e) s x y) else none
        | some (.int .i64) => if isBytes P e && smallBytes P e then (match zs with | [.int .u8 0] => some (.appendz x y) | _ => none) else none
        | _ => none
      | _, _ => none
    | .builtin .copy => match c.args.toList, c.argTypes.toList with
      | [x, y], [tx, _] => (elemTy P tx).bind fun e => (sizeTy P e).bind fun s => if 0 < s then some (.copy s x y) else none
      | _, _ => none
    | .builtin .clear => match c.args.toList, c.argTypes.toList with
      | [x], [tx] => (elemTy P tx).bind fun e => (sizeTy P e).bind fun s => (zeroTy P e).bind fun zs => if 0 < s && zs.all cellv then some (.clear s zs x) else none
      | _, _ => none
    | .builtin .len => match c.args.toList, c.argTypes.toList with
      | [x], [tx] => match P.underlying tx with
        | some (.slice _) => some (.len x)
        | some .string => some (.lens x)
        | some (.array n _) => some (.lena n)
        | _ => none
      | _, _ => none
    | .builtin .cap => match c.args.toList, c.argTypes.toList with
      | [x], [tx] => match P.underlying tx with
        | some (.slice _) => some (.cap x)
        | _ => none
      | _, _ => none
    | .builtin .min => some (.mm false c.args.toList)
    | .builtin .max => some (.mm true c.args.toList)
    | _ => none
  | _ => none

end

def opnds : AOp → List Operand
  | .mv x | .box _ x | .load _ x | .nilck x | .un _ x | .conv _ x | .strb x | .bstr x | .mark x | .faddr _ x | .field _ _ x | .ext x _ | .len x | .lens x | .cap x | .clear _ _ x => [x]
  | .native _ => []
  | .pick c a b => [c, a, b]
  | .alloc _ _ | .lena _ => []
  | .build _ ps | .bslice _ _ _ _ ps => ps.map (·.2.2)
  | .store _ a x | .bin _ a x | .eqs _ _ a x | .mkslice _ _ _ a x | .iaddr _ a x | .iaddra _ _ a x | .idx _ _ _ a x | .idxs a x | .append _ _ a x | .copy _ a x | .appendz a x => [a, x]
  | .mkfn _ a b => a ++ b
  | .slice _ x l h m | .slicea _ _ x l h m => x :: (l.toList ++ h.toList ++ m.toList)
  | .slices x l h => x :: (l.toList ++ h.toList)
  | .call _ xs | .mm _ xs => xs
  | .callv x xs => x :: xs
def addT (l : List Nat) (t : Nat) : List Nat := if l.contains t then l else t :: l
def addO (l : List Nat) : Operand → List Nat
  | .tmp t => addT l t
  | _ => l
def joinT (a : List Nat) (b : List Nat) : List Nat := b.foldl addT a
/-- Which slots must be known before the operations, if 'out' must be known behind them. -/
def liveOps : List AOper → List Nat → List Nat
  | [], out => out
  | o :: l, out =>
    let k := (liveOps l out).filter fun t => o.dst != some t
    let k := (opnds o.op).foldl addO k
    match o.guard with
    | none => k
    | some (g, _) => addT k g

/-- Does the operation read, write or hand over memory? (New memory alone does not count.) -/
def memOp : AOp → Bool
  | .load _ _ | .store _ _ _ | .bstr _ | .mark _ | .call _ _ | .callv _ _ | .append _ _ _ _ | .copy _ _ _ | .clear _ _ _ | .native _ | .appendz _ _ => true
  | _ => false
def newOp : AOp → Bool
  | .alloc _ _ | .box _ _ | .bslice _ _ _ _ _ | .strb _ | .mkslice _ _ _ _ _ => true
  | _ => false

section
variable (P : Program)
def dstOk (ntmps : Nat) : Option Tmp → Bool
  | some d => decide (d < ntmps)
  | none => true
def compOper (ops : Array Oper) (ntmps : Nat) (o : Oper) : Option AOper :=
  if o.op.operands.toList.all constOk && dstOk ntmps o.dst then
    (compOp P o.op).bind fun a => match o.guard with
      | none => some ⟨o.dst, none, 0, true, a⟩
      | some (g, b) => match (ops[g]?).bind (·.dst) with
        | some s => some ⟨o.dst, some (s, b), 0, true, a⟩
        | none => none
  else none
def compOpers (ops : Array Oper) (ntmps : Nat) : List Oper → Option (List AOper)
  | [] => some []
  | o :: l => (compOper P ops ntmps o).bind fun a => (compOpers ops ntmps l).map (a :: ·)
end
/-- Of each operation: the set of those that every order does before it. -/
def befs : List Oper → List Nat → List Nat
  | [], acc => acc
  | o :: l, acc => befs l (acc ++ [o.after.toList.foldl (fun s e => if Region.binds .any e then s ||| (2 ^ e.on ||| acc.getD e.on 0) else s) 0])
/-- Is the operation number j bound to every other one that touches memory? -/
def bound (as : List AOper) (bs : List Nat) (j : Nat) : Bool :=
  (List.range as.length).all fun i => i == j || (match as[i]? with | some a => !memOp a.op | none => true) || (bs.getD j 0).testBit i || (bs.getD i 0).testBit j
/-- Is it bound to every other one that may see the same block made in this region? -/
def boundO (as : List AOper) (bs : List Nat) (j : Nat) : Bool :=
  (List.range as.length).all fun i => i == j || (match as[i]? with | some a => !memOp a.op | none => true) || (bs.getD j 0).testBit i || (bs.getD i 0).testBit j || (bs.getD i 0 &&& bs.getD j 0) == 0
def isApp : AOp → Bool
  | .append _ _ _ _ => true
  | _ => false
/-- Is something appended to what was appended to? -/
def chained (as : List AOper) : Bool := as.any fun o => match o.op with
  | .append _ _ (.tmp t) _ => as.any fun o' => o'.dst == some t && isApp o'.op
  | _ => false
/-- Does the operation write to the region's own blocks alone? -/
def ownJ (as : List AOper) (bs : List Nat) (j : Nat) (a : AOper) : Bool := !bound as bs j && isApp a.op && decide (as.length ≤ 255) && chained as && boundO as bs j
def markOf (as : List AOper) (bs : List Nat) (j : Nat) (a : AOper) : AOper :=
  { a with bef := if ownJ as bs j a then bs.getD j 0 ||| 2 ^ 255 else bs.getD j 0, wr := memOp a.op && (bound as bs j || ownJ as bs j a) }
def marked (as : List AOper) (bs : List Nat) : List AOper := as.zipIdx.map fun (a, j) => markOf as bs j a

def writers : List Nat := []
def rootOf (as : List AOper) : Nat → Nat → Nat
  | 0, t => t
  | n + 1, t => match as.find? (fun o => o.dst == some t) with
    | some o => match o.op with
      | .faddr _ (.tmp u) => rootOf as n u
      | .iaddra _ _ (.tmp u) _ => rootOf as n u
      | .iaddr _ (.tmp u) _ => rootOf as n u
      | .nilck (.tmp u) => rootOf as n u
      | .mv (.tmp u) => rootOf as n u
      | _ => t
    | none => t
/-- Is the slot's block made in this region? -/
def bornIn (as : List AOper) (t : Nat) : Bool := as.any fun o => o.dst == some (rootOf as 12 t) && newOp o.op
/-- Is the operation one of those that are bound to each other? -/
def isM (as : List AOper) (o : AOper) : Bool := match o.op with
  | .load _ (.tmp t) => bornIn as t
  | .store _ (.tmp t) _ => bornIn as t
  | .load _ _ | .store _ _ _ => false
  | p => !freeOp p
def mixMark (as : List AOper) : List AOper := as.map fun a => { a with bef := 0, wr := isM as a }
/-- Are those that are not free bound to each other? -/
def boundM (as : List AOper) (bs : List Nat) : Bool :=
  (List.range as.length).all fun i => (List.range as.length).all fun j => i == j || (match as[i]?, as[j]? with
    | some a, some b => !(isM as a && isM as b)
    | _, _ => true) || (bs.getD j 0).testBit i || (bs.getD i 0).testBit j
def rootsOf (as : List AOper) : List Nat := as.foldl (fun l o => if isM as o then l else match o.op with
  | .load _ (.tmp t) => addT l (rootOf as 12 t)
  | .store _ (.tmp t) _ => addT l (rootOf as 12 t)
  | _ => l) []
def needM (o : AOper) : Bool := match o.op with
  | .store _ _ _ => !o.wr
  | .call f _ => !o.wr && writers.contains f
  | _ => false
/-- A region with a store, or a call that writes, that is not bound to all of the others. -/
def mixB (as : List AOper) (bs : List Nat) : Bool := (marked as bs).any needM && boundM as bs
def anyM (as : List AOper) : Bool := as.any fun a => isM as a
/-- Each slot has one writer; an operation and the writer of what it looks at are bound by an edge; edges go back; no select. -/
def statB (ops : Array Oper) : Bool :=
  (List.range ops.size).all fun j => match ops[j]? with
    | none => false
    | some o => (match o.op with | .select _ _ => false | _ => true) &&
        (o.after.toList.all fun e => !Region.binds .any e || decide (e.on < j)) &&
        ((List.range ops.size).all fun k => match ops[k]? with
          | none => false
          | some o' => j == k || (match o'.dst with
            | none => true
            | some d => (o.dst != some d) && (!(o.looksAt ops).contains d || (o.after.toList.any fun e => Region.binds .any e && e.on == k) || (o'.after.toList.any fun e => Region.binds .any e && e.on == j))))

section
variable (P : Program) (ntmps : Nat)
def comp : Option (Nat × ACode) → List (Nat × List Nat) → List Nat → Code → List Nat → Option (ACode × List Nat)
  | _, _, _, .skip, out => some (.skip, out)
  | _, _, fin, .ret, _ => some (.ret, fin)
  | _, exits, _, .exit id, _ => match exits.find? (·.1 == id) with
    | some (_, o) => some (.exit id, o)
    | none => none
  | _, _, _, .region _ ops draw, out => (compOpers P ops ntmps ops.toList).bind fun as =>
      if draw then (if statB ops then (if mixB as (befs ops.toList []) then some (.moves (if anyM as then rootsOf as else []) (anyM as) (mixMark as), liveOps as out) else some (.drawn (marked as (befs ops.toList [])), liveOps as out)) else none) else some (.region as, liveOps as out)
  | it, exits, fin, .seq a b, out => (comp it exits fin b out).bind fun q => (comp it exits fin a q.2).map fun p => (.seq p.1 q.1, p.2)
  | it, exits, fin, .cond c a b, out => if constOk c then (comp it exits fin a out).bind fun p => (comp it exits fin b out).map fun q => (.cond c p.1 q.1, addO (joinT p.2 q.2) c) else none
  | it, exits, fin, .block id b, out => (comp it ((id, out) :: exits) fin b out).map fun p => (.block id p.1, p.2)
  | it, exits, fin, .loop b, _ => (comp it exits fin b []).bind fun p => (comp it exits fin b p.2).bind fun q => (comp it exits fin b q.2).map fun r => (.loop q.2 r.1, q.2)
  | it, _, _, .rangeFunc x ps assign b, out => it.bind fun g =>
      if constOk x && nodupB ps.toList && ps.toList.all (· < ntmps) then
        (comp none [] [] b []).bind fun q => (comp none [] [] assign q.2).map fun p => (.each x g.1 g.2 ps.toList p.1 q.1, addO (joinT out (p.2.filter fun t => !ps.toList.contains t)) x)
      else none
  | _, _, _, _, _ => none
def compRes : List ResultVar → Option (List ARes)
  | [] => some []
  | .tmp t :: l => (compRes l).map (.tmp t :: ·)
  | .cell a t :: l => (spanTy P t).bind fun n => (compRes l).map (.cell a n :: ·)
def resTmps : List ARes → List Nat
  | [] => []
  | .tmp t :: l => addT (resTmps l) t
  | .cell a _ :: l => addT (resTmps l) a
end
/-- The functions that a code calls by name; those that it makes values of. -/
def calledBy : Code → List Nat
  | .region _ ops _ => ops.toList.filterMap fun o => match o.op with
    | .call c => match c.callee with
      | .value (.func f) => some f
      | _ => none
    | _ => none
  | .seq a b => calledBy a ++ calledBy b
  | .cond _ a b => calledBy a ++ calledBy b
  | .block _ b => calledBy b
  | .loop b => calledBy b
  | _ => []
def madeBy : Code → List Nat
  | .region _ ops _ => ops.toList.filterMap fun o => match o.op with
    | .makeFunc (.func f) _ _ => some f
    | _ => none
  | .seq a b => madeBy a ++ madeBy b
  | .cond _ a b => madeBy a ++ madeBy b
  | .block _ b => madeBy b
  | .loop b => madeBy b
  | _ => []
def ranges : Code → Bool
  | .rangeFunc _ _ _ _ => true
  | .seq a b => ranges a || ranges b
  | .cond _ a b => ranges a || ranges b
  | .block _ b => ranges b
  | .loop b => ranges b
  | _ => false
/-- The function that a code ranges over: the first that a function that it calls makes. -/
def itOf (P : Program) (c : Code) : Option (Nat × ACode) :=
  if ranges c then
    ((calledBy c).findSome? fun h => ((P.funcs[h]?).bind (·.body)).bind fun d => (madeBy d).head?).bind fun g => (P.funcs[g]?).bind fun fg => fg.body.bind fun d =>
      if fg.results.isEmpty && fg.name != "runtime.NumGoroutine" then (comp P fg.ntmps none [] [] d []).map fun p => (g, p.1) else none
  else none
def compFn (P : Program) (f : Func) : Option AFn :=
  (compRes P f.results.toList).bind fun rs => f.body.bind fun c => (comp P f.ntmps (itOf P c) [] (resTmps rs) c (resTmps rs)).map fun p => ⟨p.1, rs⟩

end AM
end Go.Proofs.Ytpjjkmfidghkjaa
end
section
namespace Go.Proofs.Ytpjjkmfidghkjaa
namespace AM
open Go Go.RowKit

/-- Where an abstract block lies: the block, the offset of its first cell, whether the call made it, its stamp, how many cells are known, how many there are. -/
structure Bx where
  b : Nat
  o : Nat
  own : Bool
  gen : Nat
  known : Nat
  size : Nat
/-- Where the blocks lie, and the record of the loop whose yield is at hand. -/
structure Emb where
  fn : Nat → Option Bx
  y : Nat
instance : CoeFun Emb fun _ => Nat → Option Bx := ⟨Emb.fn⟩
/-- A function's name in the world. -/
def Emb.name (X : Emb) : Fn → Fn
  | .yield _ => .yield X.y
  | g => g

def rel2 (R : Value → Value → Prop) (l m : List Value) : Prop := l.length = m.length ∧ ∀ (i : Nat) (v u : Value), l[i]? = some v → m[i]? = some u → R v u
theorem rel2.get {R : Value → Value → Prop} {l m : List Value} (h : rel2 R l m) {i : Nat} {v : Value} (hv : l[i]? = some v) : ∃ u, m[i]? = some u ∧ R v u := by
  have hi : i < l.length := (List.getElem?_eq_some_iff.1 hv).1
  have hm : i < m.length := by rw [← h.1]; exact hi
  exact ⟨m[i], List.getElem?_eq_getElem hm, h.2 i v _ hv (List.getElem?_eq_getElem hm)⟩
theorem rel2.mono {R R' : Value → Value → Prop} {l m : List Value} (h : rel2 R l m) (f : ∀ v ∈ l, ∀ u, R v u → R' v u) : rel2 R' l m :=
  ⟨h.1, fun i v u hv hu => f v (List.mem_of_getElem? hv) u (h.2 i v u hv hu)⟩
theorem rel2.nil {R : Value → Value → Prop} : rel2 R [] [] := ⟨rfl, fun i v u h => by simp at h⟩
theorem rel2.cons {R : Value → Value → Prop} {v u : Value} {l m : List Value} (h : R v u) (hl : rel2 R l m) : rel2 R (v :: l) (u :: m) :=
  ⟨by simp [hl.1], fun i a b ha hb => by
    cases i with
    | zero => simp at ha hb; subst ha; subst hb; exact h
    | succ i => exact hl.2 i a b (by simpa using ha) (by simpa using hb)⟩
theorem rel2.head {R : Value → Value → Prop} {v : Value} {l m : List Value} (h : rel2 R (v :: l) m) : ∃ u m', m = u :: m' ∧ R v u ∧ rel2 R l m' := by
  cases m with
  | nil => have := h.1; simp at this
  | cons u m' => exact ⟨u, m', rfl, h.2 0 v u rfl rfl, by have := h.1; simpa using this, fun i a b ha hb => h.2 (i + 1) a b (by simpa using ha) (by simpa using hb)⟩
theorem rel2.nil' {R : Value → Value → Prop} {m : List Value} (h : rel2 R [] m) : m = [] := List.eq_nil_of_length_eq_zero (by have := h.1; simpa using this.symm)
theorem rel2.append {R : Value → Value → Prop} {l m l' m' : List Value} (h : rel2 R l m) (h' : rel2 R l' m') : rel2 R (l ++ l') (m ++ m') := by
  refine ⟨by simp [h.1, h'.1], fun i v u hv hu => ?_⟩
  rcases Nat.lt_or_ge i l.length with hi | hi
  · rw [List.getElem?_append_left hi] at hv
    rw [List.getElem?_append_left (by rw [← h.1]; exact hi)] at hu
    exact h.2 i v u hv hu
  · rw [List.getElem?_append_right hi] at hv
    rw [List.getElem?_append_right (by rw [← h.1]; exact hi), ← h.1] at hu
    exact h'.2 _ v u hv hu
theorem rel2.take {R : Value → Value → Prop} {l m : List Value} (h : rel2 R l m) (n : Nat) : rel2 R (l.take n) (m.take n) :=
  ⟨by simp [h.1], fun i v u hv hu => by
    rw [List.getElem?_take] at hv hu
    split at hv
    · rename_i hi
      simp only [hi, if_true] at hu
      exact h.2 i v u hv hu
    · cases hv⟩
theorem rel2.drop {R : Value → Value → Prop} {l m : List Value} (h : rel2 R l m) (n : Nat) : rel2 R (l.drop n) (m.drop n) :=
  ⟨by simp [h.1], fun i v u hv hu => by
    rw [List.getElem?_drop] at hv hu
    exact h.2 _ v u hv hu⟩
theorem rel2.set {R : Value → Value → Prop} {l m : List Value} (h : rel2 R l m) (i : Nat) {v u : Value} (hv : R v u) : rel2 R (l.set i v) (m.set i u) :=
  ⟨by simp [h.1], fun j a b ha hb => by
    rw [List.getElem?_set] at ha hb
    split at ha
    · rename_i hij
      subst hij
      split at ha
      · rename_i hl
        rw [if_pos rfl, if_pos (by rw [← h.1]; exact hl)] at hb
        cases ha; cases hb; exact hv
      · cases ha
    · rename_i hij
      rw [if_neg hij] at hb
      exact h.2 j a b ha hb⟩
theorem rel2.putAt {R : Value → Value → Prop} : ∀ {vs us : List Value} {l m : List Value} (off : Nat), rel2 R l m → rel2 R vs us → rel2 R (putAt l off vs) (AM.putAt m off us)
  | [], us, l, m, off, h, h' => by rw [h'.nil']; exact h
  | v :: vs, us, l, m, off, h, h' => by
    obtain ⟨u, us', rfl, hu, ht⟩ := h'.head
    exact rel2.putAt (off + 1) (h.set off hu) ht
theorem rel2.flat {R : Value → Value → Prop} {z u : List Value} (h : rel2 R z u) : ∀ n, rel2 R (List.replicate n z).flatten (List.replicate n u).flatten
  | 0 => rel2.nil
  | n + 1 => by simp only [List.replicate_succ, List.flatten_cons]; exact h.append (rel2.flat h n)
theorem rel2.refl {R : Value → Value → Prop} {l : List Value} (h : ∀ v ∈ l, R v v) : rel2 R l l :=
  ⟨rfl, fun i v u hv hu => by rw [hv] at hu; cases hu; exact h v (List.mem_of_getElem? hv)⟩

def relA (X : Emb) (a ra : Addr) : Prop := ∃ bx, X a.block = some bx ∧ ∃ s, a.spot = some s ∧ s ≤ bx.gen ∧ (s = bx.gen → ra = ⟨bx.b, bx.o + a.off, none⟩)
def relSl (X : Emb) (a : Addr) (n e : Nat) (ra : Addr) (c : Nat) : Prop :=
  n ≤ c ∧ c ≤ maxLen ∧ ∃ bx, X a.block = some bx ∧ ∃ s, a.spot = some s ∧ s ≤ bx.gen ∧
    (s = bx.gen → ((0 < n ∨ a.off = 0) → ra = ⟨bx.b, bx.o + a.off, none⟩) ∧ (0 < e → bx.known ≤ a.off + c * e ∧ a.off + c * e ≤ bx.size))
def relC (X : Emb) (v u : Value) : Prop :=
  match v with
  | .pointer (some a) => ∃ ra, u = .pointer (some ra) ∧ relA X a ra
  | .slice (some a) n e => ∃ ra c, u = .slice (some ra) n c ∧ relSl X a n e ra c
  | v => sc v = true ∧ u = v
def relF (X : Emb) (v u : Value) : Prop :=
  match v with
  | .agg cs => ∃ rs, u = .agg rs ∧ rel2 (relC X) cs.toList rs.toList
  | .func g fi ca => ∃ rf rc, u = .func (X.name g) rf rc ∧ rel2 (relC X) fi.toList rf.toList ∧ rel2 (relC X) ca.toList rc.toList
  | v => relC X v u
def relV (X : Emb) (v u : Value) : Prop :=
  match v with
  | .tuple vs => ∃ rs, u = .tuple rs ∧ rel2 (relF X) vs.toList rs.toList
  | v => relF X v u

/-- Blocks stay where they are, or have been made longer. -/
structure Evo (X X' : Emb) : Prop where
  up : ∀ id bx, X id = some bx → ∃ bx', X' id = some bx' ∧ (bx' = bx ∨ bx.gen < bx'.gen)
  y : X'.y = X.y
theorem Evo.mk' {X X' : Emb} (y : X'.y = X.y) (h : ∀ id bx, X id = some bx → ∃ bx', X' id = some bx' ∧ (bx' = bx ∨ bx.gen < bx'.gen)) : Evo X X' := ⟨h, y⟩
theorem Emb.name_evo {X X' : Emb} (e : Evo X X') (g : Fn) : X'.name g = X.name g := by cases g <;> simp [Emb.name, e.y]
theorem Evo.refl (X : Emb) : Evo X X := ⟨fun _ bx h => ⟨bx, h, .inl rfl⟩, rfl⟩
theorem Evo.trans {X Y Z : Emb} (h : Evo X Y) (k : Evo Y Z) : Evo X Z := ⟨fun id bx hx => by
  obtain ⟨by', hy, e⟩ := h.up id bx hx
  obtain ⟨bz, hz, e'⟩ := k.up id by' hy
  refine ⟨bz, hz, ?_⟩
  rcases e with rfl | e <;> rcases e' with rfl | e'
  · exact .inl rfl
  · exact .inr e'
  · exact .inr e
  · exact .inr (by omega), k.y.trans h.y⟩
theorem relA.evo {X X' : Emb} {a ra : Addr} (h : relA X a ra) (e : Evo X X') : relA X' a ra := by
  obtain ⟨bx, hx, s, hs, hl, hr⟩ := h
  obtain ⟨bx', hx', e'⟩ := e.up _ _ hx
  refine ⟨bx', hx', s, hs, ?_⟩
  rcases e' with rfl | e'
  · exact ⟨hl, hr⟩
  · exact ⟨by omega, fun h => by omega⟩
theorem relSl.evo {X X' : Emb} {a ra : Addr} {n e c : Nat} (h : relSl X a n e ra c) (ev : Evo X X') : relSl X' a n e ra c := by
  obtain ⟨hn, hm, bx, hx, s, hs, hl, hr⟩ := h
  obtain ⟨bx', hx', e'⟩ := ev.up _ _ hx
  refine ⟨hn, hm, bx', hx', s, hs, ?_⟩
  rcases e' with rfl | e'
  · exact ⟨hl, hr⟩
  · exact ⟨by omega, fun h => by omega⟩
theorem relC_sc {X : Emb} {v u : Value} (h : sc v = true) : relC X v u ↔ u = v := by
  unfold relC
  split
  · simp [sc] at h
  · simp [sc] at h
  · simp [h]
theorem relC.evo {X X' : Emb} {v u : Value} (h : relC X v u) (e : Evo X X') : relC X' v u := by
  unfold relC at *
  split
  · obtain ⟨ra, h1, h2⟩ := h; exact ⟨ra, h1, h2.evo e⟩
  · obtain ⟨ra, c, h1, h2⟩ := h; exact ⟨ra, c, h1, h2.evo e⟩
  · rename_i h1 h2
    split at h
    · exact absurd rfl (h1 _)
    · exact absurd rfl (h2 _ _ _)
    · exact h
theorem relF.evo {X X' : Emb} {v u : Value} (h : relF X v u) (e : Evo X X') : relF X' v u := by
  cases v <;> simp only [relF] at * <;> first
    | exact relC.evo h e
    | (obtain ⟨rs, h1, h2⟩ := h; exact ⟨rs, h1, h2.mono fun _ _ _ h => relC.evo h e⟩)
    | (obtain ⟨rf, rc, h1, h2, h3⟩ := h; exact ⟨rf, rc, by rw [Emb.name_evo e]; exact h1, h2.mono fun _ _ _ h => relC.evo h e, h3.mono fun _ _ _ h => relC.evo h e⟩)
theorem relV.evo {X X' : Emb} {v u : Value} (h : relV X v u) (e : Evo X X') : relV X' v u := by
  cases v <;> simp only [relV] at * <;> first
    | exact relF.evo h e
    | (obtain ⟨rs, h1, h2⟩ := h; exact ⟨rs, h1, h2.mono fun _ _ _ h => relF.evo h e⟩)

/-- One cell's value, as a value. -/
theorem relF_of_relC {X : Emb} {v u : Value} (h : relC X v u) : relF X v u := by
  cases v <;> simp only [relF] <;> try exact h
  · rename_i g fi ca
    simp only [relC, sc] at h
    obtain ⟨h1, rfl⟩ := h
    cases g <;> simp at h1
    obtain ⟨rfl, rfl⟩ := h1
    exact ⟨#[], #[], rfl, rel2.nil, rel2.nil⟩
  · simp [relC, sc] at h
theorem relV_of_relF {X : Emb} {v u : Value} (h : relF X v u) : relV X v u := by
  cases v <;> simp only [relV] <;> try exact h
  simp [relF, relC, sc] at h
theorem relV_of_relC {X : Emb} {v u : Value} (h : relC X v u) : relV X v u := relV_of_relF (relF_of_relC h)
theorem relC_of_relF {X : Emb} {v u : Value} (h : relF X v u) (hc : cellv v = true) : relC X v u := by
  cases v <;> simp only [relF] at h <;> try exact h
  · rename_i g fi ca
    obtain ⟨rf, rc, rfl, h1, h2⟩ := h
    cases g <;> simp [cellv, sc] at hc
    obtain ⟨rfl, rfl⟩ := hc
    have e1 := h1.nil'
    have e2 := h2.nil'
    simp at e1 e2
    subst e1; subst e2
    exact ⟨rfl, rfl⟩
  · simp [cellv, sc] at hc
theorem relC_of_relV {X : Emb} {v u : Value} (h : relV X v u) (hc : cellv v = true) : relC X v u := by
  cases v <;> simp only [relV] at h <;> try exact relC_of_relF h hc
  simp [cellv, sc] at hc
theorem relC_cellv {X : Emb} {v u : Value} (h : relC X v u) : cellv v = true := by
  unfold relC at h
  split at h
  · rfl
  · rfl
  · have := h.1
    unfold cellv
    split <;> first | rfl | exact this
theorem relV_sc {X : Emb} {v u : Value} (h : sc v = true) : relV X v u ↔ u = v := by
  refine ⟨fun hr => (relC_sc h).1 (relC_of_relV hr ?_), fun e => relV_of_relC ((relC_sc h).2 e)⟩
  unfold cellv; split <;> first | rfl | exact h
theorem sc_one {v : Value} (h : sc v = true) : v.oneCell' = true := by cases v <;> first | rfl | simp [sc] at h
theorem relC_one {X : Emb} {v u : Value} (h : relC X v u) : u.oneCell' = true := by
  unfold relC at h
  split at h
  · obtain ⟨ra, rfl, _⟩ := h; rfl
  · obtain ⟨ra, c, rfl, _⟩ := h; rfl
  · rw [h.2]; exact sc_one h.1

/-- The cells of a value. -/
theorem rel_cells {X : Emb} {v u : Value} (h : relV X v u) (hc : (cellsOf v).all cellv = true) : rel2 (relC X) (cellsOf v) u.cells.toList := by
  cases v <;> simp only [relV] at h <;> (try (simp only [cellsOf, List.all_cons, List.all_nil, Bool.and_true] at hc; have hr := relC_of_relF h hc; have h1 := relC_one hr; have e : u.cells.toList = [u] := by cases u <;> first | rfl | simp [Value.oneCell'] at h1)) <;> try (simp only [cellsOf]; rw [e]; exact rel2.nil.cons hr |> fun h => h)
  · simp only [relF] at h
    obtain ⟨rs, rfl, h2⟩ := h
    exact h2
  · simp only [cellsOf, List.all_cons, List.all_nil, Bool.and_true] at hc
    simp [cellv, sc] at hc

/-- The state stands for the world. -/
structure Sim (w0 : World) (X : Emb) (σ : St) (w : World) : Prop where
  bel : Below w0.heap.size w0 w
  dom : ∀ id bx, X id = some bx → id < σ.heap.length
  place : ∀ id bx, X id = some bx → bx.b < w.heap.size ∧ (if bx.own then w0.heap.size ≤ bx.b else bx.b < w0.heap.size)
  cell : ∀ id bx g pl cs, X id = some bx → id ∉ σ.hid → σ.heap[id]? = some (.cells g pl cs) →
    g = bx.gen ∧ cs.length = bx.known ∧ g ≤ cs.length ∧ (pl = true → cs.all sc = true) ∧
    (∀ j v, cs[j]? = some v → ∃ u, w.cell? ⟨bx.b, bx.o + j, none⟩ = some u ∧ relC X v u) ∧
    (bx.own = true → bx.o = 0 ∧ ∃ rs ty lo hi, w.heap[bx.b]? = some (.cells rs ty (lo, hi)) ∧ rs.size = bx.size ∧ bx.known ≤ bx.size ∧ (hi = lo ∨ bx.size ≤ lo))
  inj : ∀ i j bi bj, X i = some bi → X j = some bj → bi.own = true → bj.own = true → bi.b = bj.b → i = j
  lock : ∀ id bx, X id = some bx → σ.lock ≤ id → bx.own = true
  zero : ∀ id bx, X id = some bx → bx.known = 0 → bx.size = 0

/-- What a step may do to the world. -/
structure Stp (X : Emb) (σ : St) (w : World) (X' : Emb) (w' : World) : Prop where
  size : w.heap.size ≤ w'.heap.size
  os : w'.os = w.os
  tape : w'.tape = w.tape
  output : w'.output = w.output
  frame : ∀ k, k < w.heap.size → (∀ id bx, X id = some bx → σ.lock ≤ id → id ∉ σ.hid → bx.own = true → bx.b ≠ k) → w'.heap[k]? = w.heap[k]?
  evo : Evo X X'
  same : ∀ id bx bx', X id = some bx → X' id = some bx' → bx' = bx ∨ (σ.lock ≤ id ∧ id ∉ σ.hid)
  back : ∀ id bx', X' id = some bx' → (∃ bx, X id = some bx ∧ bx'.own = bx.own ∧ (bx'.b = bx.b ∨ w.heap.size ≤ bx'.b)) ∨ (X id = none ∧ bx'.own = true ∧ w.heap.size ≤ bx'.b ∧ σ.heap.length ≤ id)

/-- What a step may do to the state. -/
structure Ast (σ σ' : St) : Prop where
  len : σ.heap.length ≤ σ'.heap.length
  lock : σ'.lock = σ.lock
  hid : σ'.hid = σ.hid
  dirty : ∀ t, t ∈ σ.dirty → t ∈ σ'.dirty
  refs : ∀ id, id < σ.heap.length → id ∉ σ'.dirty → ∀ r, r ∈ refsAt σ'.heap id → r ∈ refsAt σ.heap id
  fix : ∀ id, id < σ.heap.length → id < σ.lock ∨ id ∈ σ.hid → σ'.heap[id]? = σ.heap[id]?
  dlow : ∀ t, t ∈ σ'.dirty → t ∈ σ.dirty ∨ (σ.lock ≤ t ∧ t ∉ σ.hid)

theorem Ast.refl (σ : St) : Ast σ σ := ⟨Nat.le_refl _, rfl, rfl, fun _ h => h, fun _ _ _ _ h => h, fun _ _ _ => rfl, fun _ h => .inl h⟩
theorem Ast.trans {a b c : St} (h : Ast a b) (k : Ast b c) : Ast a c where
  len := Nat.le_trans h.len k.len
  lock := k.lock.trans h.lock
  hid := k.hid.trans h.hid
  dirty := fun t ht => k.dirty t (h.dirty t ht)
  refs := fun id hi hd r hr => h.refs id hi (fun hb => hd (k.dirty id hb)) r (k.refs id (Nat.lt_of_lt_of_le hi h.len) hd r hr)
  fix := fun id hi hl => by rw [k.fix id (Nat.lt_of_lt_of_le hi h.len) (by rw [h.lock, h.hid]; exact hl), h.fix id hi hl]
  dlow := fun t ht => by
    rcases k.dlow t ht with h1 | h1
    · exact h.dlow t h1
    · rw [h.lock, h.hid] at h1; exact .inr h1

theorem Stp.refl (X : Emb) (σ : St) (w : World) : Stp X σ w X w where
  size := Nat.le_refl _
  os := rfl
  tape := rfl
  output := rfl
  frame := fun _ _ _ => rfl
  evo := Evo.refl X
  same := fun id bx bx' h h' => by rw [h] at h'; cases h'; exact .inl rfl
  back := fun id bx' h => .inl ⟨bx', h, rfl, .inl rfl⟩
theorem Stp.trans' {X Y Z : Emb} {σ τ : St} {u v w : World} (h : Stp X σ u Y v) (al : τ.lock = σ.lock) (ah : τ.hid = σ.hid) (an : σ.heap.length ≤ τ.heap.length) (k : Stp Y τ v Z w) : Stp X σ u Z w where
  size := Nat.le_trans h.size k.size
  os := k.os.trans h.os
  tape := k.tape.trans h.tape
  output := k.output.trans h.output
  frame := fun b hb hx => by
    rw [k.frame b (Nat.lt_of_lt_of_le hb h.size) fun id bx' hy hl hh ho e => ?_, h.frame b hb hx]
    rw [al] at hl
    rw [ah] at hh
    rcases h.back id bx' hy with ⟨bx, h1, h2, h3⟩ | ⟨_, _, h3, _⟩
    · rcases h3 with h3 | h3
      · exact hx id bx h1 hl hh (by rw [← h2]; exact ho) (by rw [← h3]; exact e)
      · omega
    · omega
  evo := h.evo.trans k.evo
  same := fun id bx bz hx hz => by
    obtain ⟨by', hy, _⟩ := h.evo.up id bx hx
    rcases h.same id bx by' hx hy with rfl | h1
    · rcases k.same id by' bz hy hz with rfl | h2
      · exact .inl rfl
      · rw [al, ah] at h2; exact .inr h2
    · exact .inr h1
  back := fun id bz hz => by
    rcases k.back id bz hz with ⟨by', h1, h2, h3⟩ | ⟨h1, h2, h3, h4⟩
    · rcases h.back id by' h1 with ⟨bx, g1, g2, g3⟩ | ⟨g1, g2, g3, g4⟩
      · refine .inl ⟨bx, g1, h2.trans g2, ?_⟩
        rcases h3 with h3 | h3
        · rw [h3]; exact g3
        · exact .inr (Nat.le_trans h.size h3)
      · refine .inr ⟨g1, h2.trans g2, ?_, g4⟩
        rcases h3 with h3 | h3
        · rw [h3]; exact g3
        · exact Nat.le_trans h.size h3
    · cases hx : X id with
      | none => exact .inr ⟨rfl, h2, Nat.le_trans h.size h3, Nat.le_trans an h4⟩
      | some bx =>
        obtain ⟨by', hy, _⟩ := h.evo.up id bx hx
        rw [hy] at h1; cases h1
theorem Stp.trans {X Y Z : Emb} {σ τ : St} {u v w : World} (h : Stp X σ u Y v) (a : Ast σ τ) (k : Stp Y τ v Z w) : Stp X σ u Z w := h.trans' a.lock a.hid a.len k
end AM
end Go.Proofs.Ytpjjkmfidghkjaa
end
