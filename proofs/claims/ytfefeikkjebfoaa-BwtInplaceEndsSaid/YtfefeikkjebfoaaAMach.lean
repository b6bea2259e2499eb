/-
  AN ABSTRACT MACHINE: the program's functions, run on a small memory of lists of cells, in the order of the text, with the order's and the capacities' choices left out.
  Definitions: the memory, the operations, the forms of code, their run. Conditions: none.
-/
import Derived.Below
import Derived.WalkKit
namespace Go.Proofs.Ytfefeikkjebfoaa
namespace AM
open Go

/-- A block: cells (its stamp turns when an append makes it longer; plain: no references in it), or a map. -/
inductive Blk where
  | cells (gen : Nat) (plain : Bool) (cs : List Value)
  | map (es : List (Value × Value))
  deriving Inhabited

structure St where
  heap : List Blk
  lock : Nat
  hid : List Nat
  dirty : List Nat

/-- A value without a reference, one cell. -/
def sc : Value → Bool
  | .bool _ => true
  | .int _ _ => true
  | .string _ => true
  | .pointer none => true
  | .slice none 0 0 => true
  | .map none => true
  | .func (.func _) fi ca => fi.isEmpty && ca.isEmpty
  | .nilFunc => true
  | .nilIface => true
  | _ => false
/-- A value of one cell. -/
def cellv : Value → Bool
  | .pointer (some _) => true
  | .slice (some _) _ _ => true
  | .map (some _) => true
  | v => sc v

def refsC : Value → List Nat
  | .pointer (some a) => [a.block]
  | .slice (some a) _ _ => [a.block]
  | .map (some r) => [r]
  | _ => []
def refsF : Value → List Nat
  | .agg cs => cs.toList.flatMap refsC
  | .func _ fi ca => fi.toList.flatMap refsC ++ ca.toList.flatMap refsC
  | v => refsC v
def refs : Value → List Nat
  | .tuple vs => vs.toList.flatMap refsF
  | v => refsF v
def renC (f : Nat → Nat) : Value → Value
  | .pointer (some a) => .pointer (some { a with block := f a.block })
  | .slice (some a) n e => .slice (some { a with block := f a.block }) n e
  | .map (some r) => .map (some (f r))
  | v => v
def renF (f : Nat → Nat) : Value → Value
  | .agg cs => .agg (cs.toList.map (renC f)).toArray
  | .func g fi ca => .func g (fi.toList.map (renC f)).toArray (ca.toList.map (renC f)).toArray
  | v => renC f v
def ren (f : Nat → Nat) : Value → Value
  | .tuple vs => .tuple (vs.toList.map (renF f)).toArray
  | v => renF f v

def refsB : Blk → List Nat
  | .cells _ true _ => []
  | .cells _ false cs => cs.flatMap refsC
  | .map _ => []
def renB (f : Nat → Nat) : Blk → Blk
  | .cells g true cs => .cells g true cs
  | .cells g false cs => .cells g false (cs.map (renC f))
  | .map es => .map es
def refsAt (h : List Blk) (r : Nat) : List Nat :=
  match h[r]? with
  | some b => refsB b
  | none => []

abbrev Fr := List (Nat × Value)
def Fr.get : Fr → Nat → Option Value
  | [], _ => none
  | (k, v) :: l, t => if k = t then some v else Fr.get l t
def Fr.put (fr : Fr) (d : Option Nat) (v : Value) : Fr :=
  match d with
  | some d => (d, v) :: fr
  | none => fr
def Fr.keep (fr : Fr) : List Nat → Fr
  | [] => []
  | t :: l => match fr.get t with
    | some v => (t, v) :: fr.keep l
    | none => fr.keep l

def ev (fr : Fr) : Operand → Option Value
  | .tmp t => fr.get t
  | .const v => some v
  | .func f => some (.func (.func f) #[] #[])
  | .global _ => none
def evo (fr : Fr) : Option Operand → Option (Option Value)
  | none => some none
  | some x => (ev fr x).map some
def evs (fr : Fr) : List Operand → Option (List Value)
  | [] => some []
  | x :: l => (ev fr x).bind fun v => (evs fr l).map (v :: ·)

/-- The shape of a cell that '==' compares. -/
inductive Sh where
  | bo
  | nu
  | st
/-- What '==' compares. -/
inductive EqK where
  | bool
  | ptr
  | slice
  | map
  | func
  | agg (s : List Sh)
inductive AOp where
  | mv (x : Operand)
  | pick (c a b : Operand)
  | alloc (pl : Bool) (zs : List Value)
  | box (pl : Bool) (x : Operand)
  | build (zs : List Value) (ps : List (Nat × Nat × Operand))
  | bslice (pl : Bool) (esz n : Nat) (zs : List Value) (ps : List (Nat × Nat × Operand))
  | load (n : Option Nat) (a : Operand)
  | store (n : Nat) (a x : Operand)
  | nilck (x : Operand)
  | bin (op : BinOp) (x y : Operand)
  | eqs (neg : Bool) (sh : EqK) (x y : Operand)
  | un (op : UnOp) (x : Operand)
  | conv (k : IntKind) (x : Operand)
  | strb (x : Operand)
  | bstr (x : Operand)
  | mark (x : Operand)
  | mkfn (f : FuncId) (first captured : List Operand)
  | mkslice (pl : Bool) (esz : Nat) (zs : List Value) (l c : Operand)
  | slice (esz : Nat) (x : Operand) (lo hi mx : Option Operand)
  | slicea (esz n : Nat) (x : Operand) (lo hi mx : Option Operand)
  | slices (x : Operand) (lo hi : Option Operand)
  | faddr (off : Nat) (x : Operand)
  | field (off : Nat) (n : Option Nat) (x : Operand)
  | iaddr (esz : Nat) (x i : Operand)
  | iaddra (esz n : Nat) (x i : Operand)
  | idx (esz n : Nat) (m : Option Nat) (x i : Operand)
  | idxs (x i : Operand)
  | ext (x : Operand) (i : Nat)
  | call (f : FuncId) (args : List Operand)
  | callv (x : Operand) (args : List Operand)
  | append (pl : Bool) (esz : Nat) (x y : Operand)
  | len (x : Operand)
  | lens (x : Operand)
  | lena (n : Nat)
  | cap (x : Operand)
  | copy (esz : Nat) (x y : Operand)
  | clear (esz : Nat) (zs : List Value) (x : Operand)
  | mm (mx : Bool) (xs : List Operand)
  | native (k : Fr → St → Option Value)

structure AOper where
  dst : Option Nat
  guard : Option (Nat × Bool)
  bef : Nat
  wr : Bool
  op : AOp

inductive ACode where
  | skip
  | ret
  | region (ops : List AOper)
  | drawn (ops : List AOper)
  | moves (ops : List AOper)
  | seq (a b : ACode)
  | cond (c : Operand) (a b : ACode)
  | block (id : Nat) (b : ACode)
  | loop (live : List Nat) (b : ACode)
  | exit (id : Nat)

inductive ARes where
  | tmp (t : Nat)
  | cell (a : Nat) (n : Option Nat)

structure AFn where
  code : ACode
  results : List ARes

/-! ### Cells -/
def St.blk (σ : St) (a : Addr) : Option (Bool × List Value) :=
  if σ.hid.contains a.block then none else
  match σ.heap[a.block]? with
  | some (.cells g pl cs) => if a.spot = some g then some (pl, cs) else none
  | _ => none
def putAt (cs : List Value) (off : Nat) : List Value → List Value
  | [] => cs
  | v :: vs => putAt (cs.set off v) (off + 1) vs
def cellsOf : Value → List Value
  | .agg cs => cs.toList
  | v => [v]
def rdCells (cs : List Value) (off : Nat) : Option Nat → Option Value
  | none => cs[off]?
  | some n => if off + n ≤ cs.length then some (.agg ((cs.drop off).take n).toArray) else none
def addDirty (σ : St) (b : Nat) (vs : List Value) : List Nat := if vs.all sc || σ.dirty.contains b then σ.dirty else b :: σ.dirty
/-- Cells written from an address on. -/
def St.write (σ : St) (a : Addr) (vs : List Value) : Option St :=
  if a.block < σ.lock then none else
  (σ.blk a).bind fun (pl, cs) =>
    if a.off + vs.length ≤ cs.length && vs.all cellv && (!pl || vs.all sc) then
      match σ.heap[a.block]? with
      | some (.cells g _ _) => some { σ with heap := σ.heap.set a.block (.cells g pl (putAt cs a.off vs)), dirty := addDirty σ a.block vs }
      | _ => none
    else none
def St.new (σ : St) (b : Blk) : Addr × St := (⟨σ.heap.length, 0, some 0⟩, { σ with heap := σ.heap ++ [b] })

def fill (cs : List Value) : List (Nat × Nat × Value) → Option (List Value)
  | [] => some cs
  | (off, size, v) :: rest => if (cellsOf v).length = size && off + size ≤ cs.length && (cellsOf v).all cellv then fill (putAt cs off (cellsOf v)) rest else none
def evps (fr : Fr) : List (Nat × Nat × Operand) → Option (List (Nat × Nat × Value))
  | [] => some []
  | (o, s, x) :: l => (ev fr x).bind fun v => (evps fr l).map ((o, s, v) :: ·)

/-! ### Pure operations -/
def pureOf {α : Type} : Sem α → Option α
  | .pure a => some a
  | _ => none
def bless : List UInt8 → List UInt8 → Bool
  | _, [] => false
  | [], _ :: _ => true
  | a :: x, b :: y => a < b || (a == b && bless x y)
def sbin (op : BinOp) (s t : ByteArray) : Option Value :=
  match op with
  | .add => if s.size + t.size ≤ 1099511627776 then some (.string ⟨s.data ++ t.data⟩) else none
  | .eql => some (.bool (s.data.toList == t.data.toList))
  | .neq => some (.bool (!(s.data.toList == t.data.toList)))
  | .lss => some (.bool (bless s.data.toList t.data.toList))
  | .leq => some (.bool (bless s.data.toList t.data.toList || s.data.toList == t.data.toList))
  | .gtr => some (.bool (!(bless s.data.toList t.data.toList || s.data.toList == t.data.toList)))
  | .geq => some (.bool (!bless s.data.toList t.data.toList))
  | _ => none
def abin (op : BinOp) (v w : Value) : Option Value :=
  match v, w with
  | .int k a, .int k' b => pureOf (binOp op 0 (.int k a) (.int k' b))
  | .string s, .string t => sbin op s t
  | _, _ => none
def sheq : Sh → Value → Value → Option Bool
  | .nu, .int k a, .int k' b => if k = k' then some (a == b) else none
  | .bo, .bool a, .bool b => some (a == b)
  | .st, .string a, .string b => some (a.data.toList == b.data.toList)
  | _, _, _ => none
def sheqs : List Sh → List Value → List Value → Option Bool
  | [], [], [] => some true
  | s :: r, v :: l, w :: m => (sheq s v w).bind fun b => (sheqs r l m).map fun c => b && c
  | _, _, _ => none
def aeq (sh : EqK) (v w : Value) : Option Bool :=
  match sh, v, w with
  | .agg sh, .agg xs, .agg ys => sheqs sh xs.toList ys.toList
  | .bool, .bool a, .bool b => some (a == b)
  | .ptr, .pointer none, .pointer b => some b.isNone
  | .ptr, .pointer (some _), .pointer none => some false
  | .slice, .slice none _ _, .slice b _ _ => some b.isNone
  | .slice, .slice (some _) _ _, .slice none _ _ => some false
  | .func, .nilFunc, .nilFunc => some true
  | .func, .nilFunc, .func _ _ _ => some false
  | .func, .func _ _ _, .nilFunc => some false
  | _, _, _ => none
def aun (op : UnOp) (v : Value) : Option Value :=
  match v with
  | .int k a => pureOf (Op.unary op (.int k a))
  | .bool a => pureOf (Op.unary op (.bool a))
  | _ => none
def intv : Value → Option Int
  | .int _ n => some n
  | _ => none
def boundv (y : Nat) : Option Value → Nat → Option Nat
  | none, d => some d
  | some (.int _ i), _ => if 0 ≤ i ∧ i ≤ y then some i.toNat else none
  | some _, _ => none
/-- The bounds of a cut: low, high, and whether a third was given. -/
def cuts (len : Nat) (lo hi mx : Option Value) : Option (Nat × Nat × Option Nat) :=
  match mx with
  | none => (boundv len hi len).bind fun h => (boundv h lo 0).map fun l => (l, h, none)
  | some m => (boundv len (some m) 0).bind fun m' => (match hi with | none => none | some h => boundv m' (some h) 0).bind fun h => (boundv h lo 0).map fun l => (l, h, some m')
def idxv (len : Nat) : Value → Option Nat
  | .int _ i => if 0 ≤ i ∧ i < len then some i.toNat else none
  | _ => none
def mm2 (mx : Bool) : Value → Value → Option Value
  | .int k x, .int k' y => if k = k' then some (.int k (if mx then (if y > x then y else x) else (if y < x then y else x))) else none
  | _, _ => none
def mmf (mx : Bool) : Value → List Value → Option Value
  | v, [] => some v
  | v, w :: l => (mm2 mx v w).bind fun u => mmf mx u l
def bytesv : List Value → Option (List UInt8)
  | [] => some []
  | .int .u8 n :: l => (bytesv l).map (UInt8.ofNat n.toNat :: ·)
  | _ => none
def strCells (s : ByteArray) : List Value := s.data.toList.map fun b => .int .u8 b.toNat

def pval (o : AOp) (fr : Fr) : Option Value :=
  match o with
  | .mv x => ev fr x
  | .pick c a b => match ev fr c with
    | some (.bool true) => ev fr a
    | some (.bool false) => ev fr b
    | _ => none
  | .build zs ps => (evps fr ps).bind fun ps => (fill zs ps).map fun cs => .agg cs.toArray
  | .nilck x => match ev fr x with
    | some (.pointer (some a)) => some (.pointer (some a))
    | some (.func (.func f) fi ca) => some (.func (.func f) fi ca)
    | _ => none
  | .bin op x y => (ev fr x).bind fun v => (ev fr y).bind fun w => abin op v w
  | .eqs neg sh x y => (ev fr x).bind fun v => (ev fr y).bind fun w => (aeq sh v w).map fun b => .bool (if neg then !b else b)
  | .un op x => (ev fr x).bind fun v => aun op v
  | .conv k x => match ev fr x with
    | some (.int _ n) => some (.int k (k.wrap n))
    | _ => none
  | .mkfn f fi ca => (evs fr fi).bind fun fi => (evs fr ca).bind fun ca => if fi.all cellv && ca.all cellv then some (.func (.func f) fi.toArray ca.toArray) else none
  | .slice esz x lo hi mx => (ev fr x).bind fun v => (evo fr lo).bind fun lo => (evo fr hi).bind fun hi => (evo fr mx).bind fun mx => match v with
    | .slice none 0 0 => (cuts 0 lo hi mx).map fun _ => .slice none 0 0
    | .slice (some a) n e => if e = 0 ∨ e = esz then (cuts n lo hi mx).map fun (l, h, m) => .slice (some { a with off := a.off + l * esz }) (h - l) (if m.isSome then 0 else e) else none
    | _ => none
  | .slicea esz n x lo hi mx => (ev fr x).bind fun v => (evo fr lo).bind fun lo => (evo fr hi).bind fun hi => (evo fr mx).bind fun mx => match v with
    | .pointer (some a) => (cuts n lo hi mx).map fun (l, h, _) => .slice (some { a with off := a.off + l * esz }) (h - l) 0
    | _ => none
  | .slices x lo hi => (ev fr x).bind fun v => (evo fr lo).bind fun lo => (evo fr hi).bind fun hi => match v with
    | .string s => (cuts s.size lo hi none).map fun (l, h, _) => .string ⟨((s.data.toList.drop l).take (h - l)).toArray⟩
    | _ => none
  | .faddr off x => match ev fr x with
    | some (.pointer (some a)) => some (.pointer (some { a with off := a.off + off }))
    | _ => none
  | .field off n x => match ev fr x with
    | some (.agg cs) => rdCells cs.toList off n
    | _ => none
  | .iaddr esz x i => (ev fr x).bind fun v => (ev fr i).bind fun i => match v with
    | .slice (some a) n _ => (idxv n i).map fun i => .pointer (some { a with off := a.off + i * esz })
    | _ => none
  | .iaddra esz n x i => (ev fr x).bind fun v => (ev fr i).bind fun i => match v with
    | .pointer (some a) => (idxv n i).map fun i => .pointer (some { a with off := a.off + i * esz })
    | _ => none
  | .idx esz n m x i => (ev fr x).bind fun v => (ev fr i).bind fun i => match v with
    | .agg cs => (idxv n i).bind fun i => rdCells cs.toList (i * esz) m
    | _ => none
  | .idxs x i => (ev fr x).bind fun v => (ev fr i).bind fun i => match v with
    | .string s => (idxv s.size i).bind fun i => (s.data.toList[i]?).map fun b => .int .u8 b.toNat
    | _ => none
  | .ext x i => match ev fr x with
    | some (.tuple vs) => vs.toList[i]?
    | _ => none
  | .len x => match ev fr x with
    | some (.slice _ n _) => some (.int .i64 n)
    | _ => none
  | .lens x => match ev fr x with
    | some (.string s) => some (.int .i64 s.size)
    | _ => none
  | .lena n => some (.int .i64 n)
  | .cap x => match ev fr x with
    | some (.slice none 0 0) => some (.int .i64 0)
    | _ => none
  | .mm mx xs => (evs fr xs).bind fun vs => match vs with
    | v :: l => mmf mx v l
    | [] => none
  | _ => none

/-! ### Memory -/
/-- What an append, a copy reads. -/
def St.news (σ : St) (esz : Nat) : Value → Option (Nat × List Value)
  | .slice none 0 0 => some (0, [])
  | .slice (some b) m _ => (σ.blk b).bind fun (_, cs) => if b.off + m * esz ≤ cs.length then some (m, (cs.drop b.off).take (m * esz)) else none
  | .string s => if esz = 1 then some (s.size, strCells s) else none
  | _ => none
def small (n : Nat) : Bool := n ≤ 1048576
/-- No cell lies there: the block has no room. -/
def St.bare (σ : St) (a : Addr) : Bool := match σ.blk a with
  | some (_, []) => true
  | _ => false
def St.append (σ : St) (pl : Bool) (esz : Nat) (x : Value) (m : Nat) (vs : List Value) : Option (Value × St) :=
  match x with
  | .slice none 0 0 =>
    if m = 0 then some (.slice none 0 0, σ)
    else if small (m * esz) && vs.all cellv && (!pl || vs.all sc) then some (.slice (some ⟨σ.heap.length, 0, some (m * esz)⟩) m esz, { σ with heap := σ.heap ++ [.cells (m * esz) pl vs] })
    else none
  | .slice (some a) n e =>
    if m = 0 then some (.slice (some a) n e, σ)
    else if a.block < σ.lock || e ≠ esz then
      if σ.bare a && e = esz then
        if small (m * esz) && vs.all cellv && (!pl || vs.all sc) then some (.slice (some ⟨σ.heap.length, 0, some (m * esz)⟩) m esz, { σ with heap := σ.heap ++ [.cells (m * esz) pl vs] })
        else none
      else none
    else (σ.blk a).bind fun (pl', cs) =>
      if vs.all cellv && (!pl' || vs.all sc) then
        if a.off + n * esz = cs.length then
          if a.off = 0 && small ((n + m) * esz) then
            some (.slice (some ⟨a.block, 0, some ((n + m) * esz)⟩) (n + m) esz, { σ with heap := σ.heap.set a.block (.cells ((n + m) * esz) pl' (cs ++ vs)), dirty := addDirty σ a.block vs })
          else none
        else if a.off + (n + m) * esz ≤ cs.length && (0 < n || a.off = 0) then
          (σ.write { a with off := a.off + n * esz } vs).map fun σ' => (.slice (some a) (n + m) e, σ')
        else none
      else none
  | _ => none

abbrev CallF := Fn → List Value → St → Option (Value × St)

def aop (callf : CallF) (o : AOp) (fr : Fr) (σ : St) : Option (Value × St) :=
  match o with
  | .alloc pl zs => some (.pointer (some (σ.new (.cells 0 pl zs)).1), (σ.new (.cells 0 pl zs)).2)
  | .box pl x => (ev fr x).bind fun v =>
      if (cellsOf v).all cellv && (!pl || (cellsOf v).all sc) then some (.pointer (some (σ.new (.cells 0 pl (cellsOf v))).1), (σ.new (.cells 0 pl (cellsOf v))).2) else none
  | .bslice pl esz n zs ps => (evps fr ps).bind fun ps => (fill zs ps).bind fun cs =>
      if cs.length = n * esz && small (n * esz) && (!pl || cs.all sc) then some (.slice (some (σ.new (.cells 0 pl cs)).1) n esz, (σ.new (.cells 0 pl cs)).2) else none
  | .load n a => match ev fr a with
    | some (.pointer (some a)) => (σ.blk a).bind fun (_, cs) => (rdCells cs a.off n).map fun v => (v, σ)
    | _ => none
  | .store n a x => (ev fr x).bind fun v => match ev fr a with
    | some (.pointer (some a)) => if (cellsOf v).length = n then (σ.write a (cellsOf v)).map fun σ' => (.tuple #[], σ') else none
    | _ => none
  | .strb x => match ev fr x with
    | some (.string s) => if small s.size && 0 < s.size then some (.slice (some (σ.new (.cells 0 true (strCells s))).1) s.size 1, (σ.new (.cells 0 true (strCells s))).2) else none
    | _ => none
  | .bstr x => match ev fr x with
    | some (.slice none 0 0) => some (.string ⟨#[]⟩, σ)
    | some (.slice (some a) n _) => (σ.blk a).bind fun (_, cs) => if a.off + n ≤ cs.length then (bytesv ((cs.drop a.off).take n)).map fun l => (.string ⟨l.toArray⟩, σ) else none
    | _ => none
  | .mark x => match ev fr x with
    | some (.slice (some a) n e) => if a.block < σ.lock || n = 0 then none else (σ.blk a).map fun _ => (.slice (some a) n e, σ)
    | _ => none
  | .mkslice pl esz zs l c => (ev fr l).bind fun l => (ev fr c).bind fun c => (intv l).bind fun l => (intv c).bind fun c =>
      if 0 ≤ l && l ≤ c && c ≤ 1048576 && esz * c.toNat ≤ 1048576 && zs.length = esz && (l ≠ 0 || c = 0) then
        let cs := (List.replicate l.toNat zs).flatten
        some (.slice (some (σ.new (.cells 0 pl cs)).1) l.toNat esz, (σ.new (.cells 0 pl cs)).2)
      else none
  | .call f args => (evs fr args).bind fun vs => callf (.func f) vs σ
  | .callv x args => (ev fr x).bind fun v => (evs fr args).bind fun vs => match v with
    | .func g fi ca => callf g (fi.toList ++ vs ++ ca.toList) σ
    | _ => none
  | .append pl esz x y => (ev fr x).bind fun x => (ev fr y).bind fun y => (σ.news esz y).bind fun (m, vs) => σ.append pl esz x m vs
  | .copy esz x y => (ev fr x).bind fun x => (ev fr y).bind fun y => (σ.news esz y).bind fun (m, vs) => match x with
    | .slice none 0 0 => some (.int .i64 0, σ)
    | .slice (some a) n _ =>
      if min m n = 0 then some (.int .i64 0, σ)
      else (σ.write a (vs.take (min m n * esz))).map fun σ' => (.int .i64 (min m n : Nat), σ')
    | _ => none
  | .clear _ zs x => match ev fr x with
    | some (.slice none 0 0) => some (.tuple #[], σ)
    | some (.slice (some a) n _) => if n = 0 then some (.tuple #[], σ) else (σ.write a (List.replicate n zs).flatten).map fun σ' => (.tuple #[], σ')
    | _ => none
  | .native k => (k fr σ).map fun v => (v, σ)
  | o => (pval o fr).map fun v => (v, σ)

/-! ### Collecting what nobody can see any more -/
def reach (h : List Blk) (base : Nat) : Nat → List Nat → List Nat → List Nat
  | 0, _, acc => acc
  | _ + 1, [], acc => acc
  | f + 1, r :: ws, acc => if r < base || acc.contains r then reach h base f ws acc else reach h base f (refsAt h r ++ ws) (acc ++ [r])
def renAll (f : Nat → Nat) : List Nat → List Blk → List Blk
  | [], h => h
  | t :: l, h => renAll f l (h.modify t (renB f))
def nodupB : List Nat → Bool
  | [] => true
  | r :: l => !l.contains r && nodupB l
def gcKeep (base : Nat) (vs : List Value) (σ : St) (keep : List Nat) : Option (List Value × St) :=
  let olds := σ.dirty.filter (· < base)
  let ok := fun r => r < base || keep.contains r
  if nodupB keep && nodupB olds && (vs.all fun v => (refs v).all ok) && (olds.all fun t => (refsAt σ.heap t).all ok) && (keep.all fun r => base ≤ r && r < σ.heap.length && (refsAt σ.heap r).all ok) then
    let f := fun id => if id < base then id else base + keep.idxOf id
    some (vs.map (ren f), { σ with heap := renAll f olds (σ.heap.take base) ++ keep.map fun r => renB f (σ.heap.getD r default), dirty := olds })
  else none
def gc (base : Nat) (vs : List Value) (σ : St) : Option (List Value × St) :=
  if σ.heap.length ≤ base then some (vs, σ) else
  let roots := (vs.flatMap refs ++ (σ.dirty.filter (· < base)).flatMap (refsAt σ.heap)).filter (base ≤ ·)
  match roots with
  | [] => some (vs, { σ with heap := σ.heap.take base, dirty := σ.dirty.filter (· < base) })
  | r :: rs => gcKeep base vs σ (reach σ.heap base 4096 (r :: rs) [])

def joinDirty (a : List Nat) : List Nat → List Nat
  | [] => a
  | d :: l => if a.contains d then joinDirty a l else joinDirty (d :: a) l

/-! ### Code -/
inductive Ex where
  | normal
  | exit (id : Nat)
  | ret
  deriving DecidableEq

def want (o : AOper) (fr : Fr) : Option Bool :=
  match o.guard with
  | none => some true
  | some (g, b) => match fr.get g with
    | some (.bool c) => some (c == b)
    | some (.tuple _) => some false
    | _ => none
def undefv : Value := .tuple #[]

def aops (callf : CallF) : List AOper → Fr → St → Option (Fr × St)
  | [], fr, σ => some (fr, σ)
  | o :: l, fr, σ => (want o fr).bind fun b =>
    if b then (aop callf o.op fr σ).bind fun r => aops callf l (fr.put o.dst r.1) r.2
    else aops callf l (fr.put o.dst undefv) σ

/-- The blocks that an operation may not see: made by operations that need not be done before it. -/
def hiddenBy (bef : Nat) : List (Nat × Nat × Nat) → List Nat
  | [] => []
  | (i, lo, hi) :: l => if bef.testBit i then hiddenBy bef l else List.range' lo (hi - lo) ++ hiddenBy bef l
def dops (callf : CallF) (born : List (Nat × Nat × Nat)) (j : Nat) : List AOper → Fr → St → Option (Fr × St)
  | [], fr, σ => some (fr, σ)
  | o :: l, fr, σ => (want o fr).bind fun b =>
    if b then
      (aop callf o.op fr { σ with lock := if o.wr then σ.lock else σ.heap.length, hid := hiddenBy o.bef born ++ σ.hid }).bind fun r =>
        dops callf (if σ.heap.length < r.2.heap.length then (j, σ.heap.length, r.2.heap.length) :: born else born) (j + 1) l (fr.put o.dst r.1) { r.2 with lock := σ.lock, hid := σ.hid }
    else dops callf born (j + 1) l (fr.put o.dst undefv) σ

/-- What an operation that only moves values touches: (does it write?, block). -/
def tgt (fr : Fr) : AOp → Option (List (Bool × Nat))
  | .mv _ => some []
  | .load _ x => match ev fr x with
    | some (.pointer (some a)) => some [(false, a.block)]
    | _ => none
  | .store _ x _ => match ev fr x with
    | some (.pointer (some a)) => some [(true, a.block)]
    | _ => none
  | _ => none
def apart (tg seen : List (Bool × Nat)) : Bool := tg.all fun p => seen.all fun q => (!p.1 && !q.1) || p.2 != q.2
def noCall : CallF := fun _ _ _ => none
/-- Loads and stores of blocks that nobody else in the region writes. -/
def mops : List (Bool × Nat) → List AOper → Fr → St → Option (Fr × St)
  | _, [], fr, σ => some (fr, σ)
  | seen, o :: l, fr, σ => if o.guard.isSome then none else (tgt fr o.op).bind fun tg =>
    if apart tg seen then (aop noCall o.op fr σ).bind fun r => mops (tg ++ seen) l (fr.put o.dst r.1) r.2 else none

def gcFr (base : Nat) (fr : Fr) (σ : St) : Option (Fr × St) :=
  (gc base (fr.map (·.2)) σ).map fun r => ((fr.map (·.1)).zip r.1, r.2)

def iter (body : Fr → St → Option (Ex × Fr × St)) (live : List Nat) (base : Nat) : Nat → Fr → St → Option (Ex × Fr × St)
  | 0, _, _ => none
  | n + 1, fr, σ => (body fr σ).bind fun r => match r.1 with
    | .normal => (gcFr base (r.2.1.keep live) r.2.2).bind fun q => iter body live base n q.1 q.2
    | e => some (e, r.2.1, r.2.2)

def exec (callf : CallF) (n : Nat) : ACode → Fr → St → Option (Ex × Fr × St)
  | .skip, fr, σ => some (.normal, fr, σ)
  | .ret, fr, σ => some (.ret, fr, σ)
  | .exit id, fr, σ => some (.exit id, fr, σ)
  | .region ops, fr, σ => (aops callf ops fr σ).map fun r => (.normal, r.1, r.2)
  | .drawn ops, fr, σ => (dops callf [] 0 ops fr σ).map fun r => (.normal, r.1, r.2)
  | .moves ops, fr, σ => (mops [] ops fr σ).map fun r => (.normal, r.1, r.2)
  | .seq a b, fr, σ => (exec callf n a fr σ).bind fun r => match r.1 with
    | .normal => exec callf n b r.2.1 r.2.2
    | e => some (e, r.2.1, r.2.2)
  | .cond c a b, fr, σ => match ev fr c with
    | some (.bool true) => exec callf n a fr σ
    | some (.bool false) => exec callf n b fr σ
    | _ => none
  | .block id b, fr, σ => (exec callf n b fr σ).map fun r => match r.1 with
    | .exit i => if i = id then (.normal, r.2.1, r.2.2) else (.exit i, r.2.1, r.2.2)
    | e => (e, r.2.1, r.2.2)
  | .loop live b, fr, σ => (iter (exec callf n b) live σ.heap.length n (fr.keep live) { σ with dirty := [] }).map fun r => (r.1, r.2.1, { r.2.2 with dirty := joinDirty σ.dirty r.2.2.dirty })

def resv (fr : Fr) (σ : St) : ARes → Option Value
  | .tmp t => fr.get t
  | .cell a n => match fr.get a with
    | some (.pointer (some a)) => (σ.blk a).bind fun r => rdCells r.2 a.off n
    | _ => none
def resvs (fr : Fr) (σ : St) : List ARes → Option (List Value)
  | [] => some []
  | r :: l => (resv fr σ r).bind fun v => (resvs fr σ l).map (v :: ·)
def flatv : Value → Bool
  | .tuple _ => false
  | _ => true
def resOf : List Value → Option Value
  | [v] => some v
  | vs => if vs.all flatv then some (.tuple vs.toArray) else none
def argFr : Nat → List Value → Fr
  | _, [] => []
  | i, v :: l => (i, v) :: argFr (i + 1) l

abbrev Env := List (Nat × AFn)
def Env.fn : Env → Nat → Option AFn
  | [], _ => none
  | (i, f) :: l, k => if i = k then some f else Env.fn l k

/-- A function's body, on arguments. -/
def body (callf : CallF) (n : Nat) (fn : AFn) (args : List Value) (σ : St) : Option (Value × St) :=
  (exec callf n fn.code (argFr 0 args) { σ with dirty := [] }).bind fun r => match r.1 with
    | .exit _ => none
    | _ => (resvs r.2.1 r.2.2 fn.results).bind fun vs => (resOf vs).bind fun u => (gc σ.heap.length [u] r.2.2).bind fun q => match q.1 with
      | [v] => some (v, { q.2 with dirty := joinDirty σ.dirty q.2.dirty })
      | _ => none

def run (env : Env) : Nat → CallF
  | 0, _, _, _ => none
  | n + 1, .func f, args, σ => (env.fn f).bind fun fn => body (run env n) n fn args σ
  | _ + 1, _, _, _ => none

end AM
end Go.Proofs.Ytfefeikkjebfoaa
