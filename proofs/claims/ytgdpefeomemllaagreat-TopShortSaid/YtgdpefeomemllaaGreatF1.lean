/- Conditions: none. -/
import Derived.Test.YtgdpefeomemllaaGreatProg
import Derived.Below
import Derived.WalkKit
import Derived.Orders
import Derived.Laws.BytesArg
import Derived.Laws.BytesString
import Derived.Maps.AppendAt
import Derived.Deep.Draws
import Derived.Deep.WholeRow
import Derived.Laws.Strings
import Derived.ChangeKeysEq
import Derived.Laws.MakeOwn
import Derived.Laws.AppendOwn
import Derived.Great.BuildSlice
import Derived.MapKept
import Derived.Lib.BytesEntry
import Derived.Lib.MakeNoZero
import Derived.WideKeyRuns
import Derived.OrdersIn
import Derived.RangeFuncCalls
import Derived.RangeFuncLeaves
import Derived.LoopN
import Derived.LoopNIn
import Derived.Laws.BitsLemmas
import Derived.KernelRfl
import Derived.Laws.BitsAllLaws
import Derived.Sort.Defs
import Derived.Sort.AssemblyPlain
import Derived.Sort.LotA
import Derived.Test.YtgdpefeomemllaaGreatRows
import Derived.ProofKit
import Derived.Deep.Slices
import Derived.OpenShut
set_option linter.all false
set_option maxRecDepth 100000
namespace Go.Proofs.YtgdpefeomemllaaGreat
theorem om{p:Prop}(h:p:=by omega):p:=h
def aa:=@Option.bind_eq_some_iff
def af:=@List.getElem?_eq_some_iff
def aj:=@Option.map_eq_some_iff
def ak:=@Option.bind_some
def aq:=@List.getElem?_eq_getElem
def au:=@Bool.and_eq_true
def av:=@Nat.le_refl
def ay:=@Option.some.injEq
def az:=@List.length_cons
def aA:=@List.getElem?_append_left
def aB:=@List.length_append
def aC:=@Int.natCast_add
def aD:=@List.getElem?_set_self
def aE:=@List.getD_eq_getElem?_getD
def aF:=@List.all_eq_true
def aG:=@List.length_set
def aI:=@Int.natCast_one
def aJ:=@List.mem_cons
def aK:=@List.map_cons
def aM:=@List.getElem?_append_right
def aN:=@Int.natCast_zero
def aO:=@Bool.false_eq_true
def aP:=@List.mem_append
def aQ:=@List.getElem?_eq_none
def aR:=@List.append_assoc
def aS:=@List.cons_append
def aT:=@List.length_nil
def aU:=@Nat.eq_of_beq_eq_true
def aV:=@List.nil_append
def aW:=@List.mem_of_getElem?
def aX:=@Nat.zero_add
def aY:=@List.mem_flatMap
def aZ:=@List.getElem?_set_ne
def bg:=@Nat.lt_of_lt_of_le
def bh:=@Nat.le_trans
def bp:=@List.eq_nil_of_length_eq_zero
def bq:=@Option.map_some
def br:=@List.map_nil
def bt:=@List.take_of_length_le
def bu:=@Nat.lt_or_ge
def bw:=@List.mem_map
def bA:=@Array.getElem?_eq_some_iff
def bB:=@List.append_nil
def bC:=@List.drop_eq_getElem_cons
def bD:=@Array.getElem?_eq_getElem
def bE:=@Nat.mul_comm
def bF:=@Bool.or_eq_true
def bG:=@List.set_set
def bH:=@List.pairwise_cons
def bI:=@Int.le_refl
def bJ:=@List.not_mem_nil
def bK:=@List.ext_getElem?
def bL:=@Bool.eq_false_iff
def bM:=@Nat.le_of_ble_eq_true
def bN:=@List.getElem_mem
def bO:=@List.replicate_succ
def bP:=@List.idxOf_lt_length_of_mem
def bQ:=@List.map_congr_left
def bR:=@Array.toList_inj
def bS:=@Nat.add_mul
def bT:=@Prod.mk.injEq
def bU:=@Bool.not_eq_true'
def bV:=@Nat.ble_eq_true_of_le
def bW:=@List.getElem?_map
def bX:=@List.getElem?_take_of_lt
def bY:=@Nat.add_zero
def bZ:=@Array.length_toList
def b7:=@List.mem_append_left
def b9:=@List.take_succ_eq_append_getElem
def cj:=@List.mem_range
def cm:=@Nat.zero_le
def cq:=@Nat.mul_le_mul_right
def cr:=@List.getElem?_set
def ct:=@List.all_cons
def cu:=@Int.cast_ofNat_Int
def cw:=@List.set_append_right
def cx:=@Nat.add_sub_cancel_left
def cy:=@Bool.eq_iff_iff
def cz:=@List.drop_zero
def cA:=@Nat.add_assoc
def cC:=@List.drop_succ_cons
def cD:=@Int.tdiv_eq_ediv_of_nonneg
def cE:=@List.countP_cons
def cF:=@Int.ofNat_eq_natCast
def cG:=@List.filter_append
def cH:=@List.nodup_cons
def cI:=@List.getElem?_cons_zero
def cJ:=@List.getElem?_cons_succ
def cK:=@Array.getElem?_append_left
def cL:=@Nat.sub_self
def cM:=@List.mem_singleton
def cN:=@List.range_succ
def cO:=@List.getElem_idxOf
def cP:=@List.length_take
def cQ:=@List.take_succ_cons
def cR:=@List.filter_eq_self
def cS:=@List.mem_iff_getElem?
def cT:=@List.mem_filter
def cU:=@List.zip_cons_cons
def cV:=@List.set_cons_succ
def cW:=@List.flatMap_eq_nil_iff
def cX:=@Int.eq_ofNat_of_zero_le
def cY:=@List.ext_getElem
def cZ:=@Int.fdiv_eq_ediv_of_nonneg
def c8:=@Array.getElem?_setIfInBounds_ne
def c9:=@List.drop_of_length_le
def dc:=@List.flatten_cons
def dg:=@List.foldl_cons
def dh:=@List.map_append
def dj:=@List.length_replicate
def dm:=@List.take_append_drop
def dn:=@Option.getD_some
def dw:=@Nat.eq_zero_or_pos
def dx:=@Bool.and_true
def dy:=@Nat.mul_assoc
def dz:=@List.getElem?_modify
def dA:=@List.set_append_left
def dB:=@List.getElem?_replicate
def dD:=@Int.toNat_natCast
def dF:=@List.nodup_append
def dG:=@Nat.min_eq_left
def dH:=@Nat.one_mul
def dI:=@List.filter_eq_nil_iff
def dJ:=@Nat.beq_refl
def dK:=@List.flatMap_nil
def dL:=@List.length_drop
def dM:=@List.filter_cons
def dN:=@List.mem_filterMap
def dO:=@List.mem_cons_self
def dP:=@List.set_cons_zero
def dQ:=@Option.isNone_iff_eq_none
def dR:=@Nat.mul_one
def dS:=@List.all_nil
def dU:=@List.cons.injEq
def dV:=@List.flatMap_cons
def dW:=@Function.comp_def
def dX:=@Bool.true_and
def dY:=@List.sum_cons
def dZ:=@List.take_append_of_le_length
def ef:=@List.getElem_map
def eo:=@List.drop_eq_nil_of_le
def eu:=@Array.getD_eq_getD_getElem?
def ey:=@Nat.add_sub_cancel
def ez:=@Array.getElem?_toList
def eA:=@List.cons_lt_cons_iff
def eB:=@List.mem_range'_1
def eC:=@List.zip_nil_left
def eD:=@List.mem_or_eq_of_mem_set
def eE:=@List.mem_of_mem_drop
def eF:=@List.contains_eq_mem
def eG:=@List.pairwise_iff_getElem
def eH:=@List.mem_of_mem_take
def eI:=@List.take_zero
def eJ:=@Nat.mod_eq_of_lt
def eK:=@Array.getElem?_push_size
def eL:=@Nat.min_eq_right
def eM:=@Nat.shiftLeft_eq
def eN:=@List.replicate_zero
def eO:=@Array.getElem?_push
def eP:=@List.length_reverse
def eR:=@Nat.le_mul_of_pos_right
def eS:=@List.getElem?_drop
def eT:=@List.length_map
def eU:=@List.getElem_range
def eV:=@Array.size_append
def eW:=@Nat.add_comm
def eX:=@Array.getElem?_modify
def eY:=@Nat.mul_le_mul
def eZ:=@List.mem_append_right
def fc:=@List.length_filter_le
def fm:=@Nat.pow_succ
def fo:=@List.map_map
def fq:=@List.map_toArray
def fy:=@Bool.false_or
open Go Go.RowKit
def At(w:World)(A:Option Addr)(xs:List Value):Prop:=∀ j u,xs[j]?=some u->∃ ad,A=some ad/\w.cell? (ad.add j)=some u
theorem add_lit(b o j:Nat):(⟨b,o,none⟩:Addr).add j=⟨b,o+j,none⟩:=by unfold Addr.add;split<;>simp_all
theorem At.nil{w:World}{A:Option Addr} : At w A []:=fun j u h=>by simp at h
theorem At.below{w w':World}{A:Option Addr}{xs:List Value}(h:At w A xs)(hb:Below w.heap.size w w'):At w' A xs:=fun j u hu=>by obtain⟨ad,e,hc⟩:=h j u hu;exact⟨ad,e,by rw[hb.cell (block_lt_of_cell hc)];exact hc⟩
def Box(w:World)(g:Nat)(t:TypeId)(cs:Array Value):Prop:=w.heap[g]?=some (.cells cs t (0,0))
theorem Box.lt{w:World}{g:Nat}{t:TypeId}{cs:Array Value}(h:Box w g t cs):g < w.heap.size:=by
 rcases bu g w.heap.size with h1 | h1
 ·exact h1
 ·unfold Box at h;rw[Array.getElem?_eq_none h1] at h;cases h
theorem Box.cell{w:World}{g:Nat}{t:TypeId}{cs:Array Value}(h:Box w g t cs)(i:Nat):w.cell? ⟨g,i,none⟩=cs[i]?:=cell_of_row w g i cs t (0,0) h
theorem Box.alloc{w:World}{g:Nat}{t:TypeId}{cs:Array Value}(h:Box w g t cs)(o:Obj):Box (w.alloc o) g t cs:=(Below.heap_alloc w o g h.lt).trans h
theorem Box.below{w w':World}{g B:Nat}{t:TypeId}{cs:Array Value}(h:Box w g t cs)(hb:Below B w w')(hg:g < B):Box w' g t cs:=(hb.block g hg).trans h
def u8s(l:List Nat):List Value:=l.map fun(b:Nat)=>Value.int .u8 (b:Int)
theorem fH(l:List Nat):(u8s l).length=l.length:=by simp[u8s]
theorem j0(l:List Nat)(k:Nat):(u8s l)[k]?=(l[k]?).map fun(b:Nat)=>Value.int .u8 (b:Int):=by simp[u8s]
def LX(w:World)(A:Option Addr)(ps:List (List Nat)):Prop:=∀ i p,ps[i]?=some p->∃ ad B c,A=some ad/\w.cell? (ad.add i)=some (.slice B p.length c)/\At w B (u8s p)/\p.length<=c/\c<=maxLen/\∀ b∈p,b < 256
theorem LX.below{w w':World}{A:Option Addr}{ps:List (List Nat)}(h:LX w A ps)(hb:Below w.heap.size w w'):LX w' A ps:=fun i p hp=>by obtain⟨ad,B,c,e,hc,ha,hl,hm,h8⟩:=h i p hp;exact⟨ad,B,c,e,by rw[hb.cell (block_lt_of_cell hc)];exact hc,ha.below hb,hl,hm,h8⟩
theorem QU(w:World)(o:Obj):Below w.heap.size w (w.alloc o):=(Below.refl _ _).alloc (av _) _
theorem uP{a b c:World}(h:Below a.heap.size a b)(k:Below b.heap.size b c):Below a.heap.size a c:=h.trans (k.mono h.size)
theorem At.alloc{w:World}{A:Option Addr}{xs:List Value}(h:At w A xs)(o:Obj):At (w.alloc o) A xs:=h.below (QU w o)
structure Ety(P:Program)(t e:TypeId)(z:Value)(bytes:Nat):Prop where
 ht:P.underlying t=some (.slice e)
 hi:(P.info? e).map (fun i=>(i.zero,i.size,i.bytes))=some (some z,1,bytes)
 hz:z.cells.size=1
theorem LY(l m:List Nat):u8s (l++m)=u8s l++u8s m:=by simp[u8s]
namespace AM
open Go
inductive Blk where
 | cells (gen:Nat) (plain:Bool) (cs:List Value)
 | map (es:List (Value×Value))
 | void
 deriving Inhabited
structure St where
 heap:List Blk
 lock:Nat
 hid:List Nat
 fA:List Nat
def sc:Value->Bool
 | .bool _=>true
 | .int _ _=>true
 | .string _=>true
 | .pointer none=>true
 | .slice none 0 0=>true
 | .map none=>true
 | .func (.func _) fi ca=>fi.isEmpty&&ca.isEmpty
 | .nilFunc=>true
 | .nilIface=>true
 | .iface _ (.pointer none)=>true
 | _=>false
def fY:Value->Bool
 | .pointer (some _)=>true
 | .slice (some _) _ _=>true
 | .iface _ (.pointer (some _))=>true
 | .chan none=>true
 | v=>sc v
def acn:Value:=.chan none
def fJ:Value->List Nat
 | .pointer (some a)=>[a.block]
 | .slice (some a) _ _=>[a.block]
 | .map (some r)=>[r]
 | .iface _ (.pointer (some a))=>[a.block]
 | _=>[]
def fU:Value->List Nat
 | .agg cs=>cs.toList.flatMap fJ
 | .func _ fi ca=>fi.toList.flatMap fJ++ca.toList.flatMap fJ
 | v=>fJ v
def refs:Value->List Nat
 | .tuple vs=>vs.toList.flatMap fU
 | v=>fU v
def iX(f:Nat->Nat):Value->Value
 | .pointer (some a)=>.pointer (some { a with block:=f a.block })
 | .slice (some a) n e=>.slice (some { a with block:=f a.block }) n e
 | .map (some r)=>.map (some (f r))
 | .iface t (.pointer (some a))=>.iface t (.pointer (some { a with block:=f a.block }))
 | v=>v
def ke(f:Nat->Nat):Value->Value
 | .agg cs=>.agg (cs.toList.map (iX f)).toArray
 | .func g fi ca=>.func g (fi.toList.map (iX f)).toArray (ca.toList.map (iX f)).toArray
 | v=>iX f v
def ren(f:Nat->Nat):Value->Value
 | .tuple vs=>.tuple (vs.toList.map (ke f)).toArray
 | v=>ke f v
def iN:Blk->List Nat
 | .cells _ true _=>[]
 | .cells _ false cs=>cs.flatMap fJ
 | .map es=>es.flatMap fun p=>fU p.2
 | .void=>[]
def kR(f:Nat->Nat):Blk->Blk
 | .cells g true cs=>.cells g true cs
 | .cells g false cs=>.cells g false (cs.map (iX f))
 | .map es=>.map (es.map fun p=>(p.1,ke f p.2))
 | .void=>.void
def fV(h:List Blk)(r:Nat):List Nat:=
 match h[r]? with
 | some b=>iN b
 | none=>[]
abbrev Fr:=List (Nat×Value)
def Fr.get:Fr->Nat->Option Value
 | [],_=>none
 | (k,v)::l,t=>if k=t then some v else Fr.get l t
def Fr.put(fr:Fr)(d:Option Nat)(v:Value):Fr:=
 match d with
 | some d=>(d,v)::fr
 | none=>fr
def Fr.keep(fr:Fr):List Nat->Fr
 | []=>[]
 | t::l=>match fr.get t with
  | some v=>(t,v)::fr.keep l
  | none=>fr.keep l
def ev(fr:Fr):Operand->Option Value
 | .tmp t=>fr.get t
 | .const v=>some v
 | .func f=>some (.func (.func f) #[] #[])
 | .global _=>none
def evo(fr:Fr):Option Operand->Option (Option Value)
 | none=>some none
 | some x=>(ev fr x).map some
def evs(fr:Fr):List Operand->Option (List Value)
 | []=>some []
 | x::l=>(ev fr x).bind fun v=>(evs fr l).map (v::·)
inductive Sh where
 | bo
 | nu
 | st
inductive EqK where
 | bool
 | ptr
 | slice
 | map
 | func
 | iface
 | agg (s:List Sh)
inductive AOp where
 | mv (x:Operand)
 | pick (c a b:Operand)
 | alloc (pl:Bool) (zs:List Value)
 | box (pl:Bool) (x:Operand)
 | build (zs:List Value) (ps:List (Nat×Nat×Operand))
 | gV (pl:Bool) (esz n:Nat) (zs:List Value) (ps:List (Nat×Nat×Operand))
 | load (n:Option Nat) (a:Operand)
 | store (n:Nat) (a x:Operand)
 | kK (x:Operand)
 | bin (op:BinOp) (x y:Operand)
 | eqs (neg:Bool) (sh:EqK) (x y:Operand)
 | un (op:UnOp) (x:Operand)
 | conv (k:IntKind) (x:Operand)
 | Dw (x:Operand)
 | AP (x:Operand)
 | mark (x:Operand)
 | AQ (f:FuncId) (first captured:List Operand)
 | l7 (pl:Bool) (esz:Nat) (zs:List Value) (l c:Operand)
 | slice (esz:Nat) (x:Operand) (lo hi mx:Option Operand)
 | m8 (esz n:Nat) (x:Operand) (lo hi mx:Option Operand)
 | pV (x:Operand) (lo hi:Option Operand)
 | fQ (off:Nat) (x:Operand)
 | field (off:Nat) (n:Option Nat) (x:Operand)
 | fK (esz:Nat) (x i:Operand)
 | gO (esz n:Nat) (x i:Operand)
 | idx (esz n:Nat) (m:Option Nat) (x i:Operand)
 | idxs (x i:Operand)
 | ext (x:Operand) (i:Nat)
 | call (f:FuncId) (args:List Operand)
 | iP (x:Operand) (args:List Operand)
 | append (pl:Bool) (esz:Nat) (x y:Operand)
 | len (x:Operand)
 | lens (x:Operand)
 | FF (n:Nat)
 | cap (x:Operand)
 | copy (esz:Nat) (x y:Operand)
 | clear (esz:Nat) (zs:List Value) (x:Operand)
 | mm (mx:Bool) (xs:List Operand)
 | native (k:Fr->St->Option Value)
 | n6 (x n:Operand)
 | nI
 | jN (ag:Bool) (sh:List Sh) (m k x:Operand)
 | AR (ag:Bool) (sh:List Sh) (z:Value) (ok:Bool) (m k:Operand)
 | AS (m:Operand)
 | LZ (t:TypeId) (x:Operand)
 | Dx (tbl:List (TypeId×FuncId)) (x:Operand) (args:List Operand)
 | Dy (x c:Operand)
 | Ij (n:Operand)
structure fB where
 dst:Option Nat
 guard:Option (Nat×Bool)
 bef:Nat
 wr:Bool
 op:AOp
inductive fG where
 | skip
 | ret
 | region (ops:List fB)
 | drawn (ops:List fB)
 | sv (xs:List Nat) (m:Bool) (ops:List fB)
 | lits (ops:List fB)
 | seq (a b:fG)
 | cond (c:Operand) (a b:fG)
 | block (id:Nat) (b:fG)
 | loop (live:List Nat) (b:fG)
 | exit (id:Nat)
 | each (x:Operand) (g:Nat) (gc:fG) (ps:List Nat) (ba b:fG)
inductive mX where
 | tmp (t:Nat)
 | cell (a:Nat) (n:Option Nat)
structure AFn where
 code:fG
 results:List mX
def St.blk(σ:St)(a:Addr):Option (Bool×List Value):=
 if σ.hid.contains a.block then none else
 match σ.heap[a.block]? with
 | some (.cells g pl cs)=>if a.spot=some g then some (pl,cs) else none
 | _=>none
def putAt(cs:List Value)(off:Nat):List Value->List Value
 | []=>cs
 | v::vs=>putAt (cs.set off v) (off+1) vs
def cellsOf:Value->List Value
 | .agg cs=>cs.toList
 | v=>[v]
def gI(cs:List Value)(off:Nat):Option Nat->Option Value
 | none=>cs[off]?
 | some n=>if off+n<=cs.length then some (.agg ((cs.drop off).take n).toArray) else none
def gm(σ:St)(b:Nat)(vs:List Value):List Nat:=if vs.all sc||σ.fA.contains b then σ.fA else b::σ.fA
def St.write(σ:St)(a:Addr)(vs:List Value):Option St:=
 if a.block < σ.lock then none else
 (σ.blk a).bind fun(pl,cs)=>
  if a.off+vs.length<=cs.length&&vs.all fY&&(!pl||vs.all sc) then
   match σ.heap[a.block]? with
   | some (.cells g _ _)=>some { σ with heap:=σ.heap.set a.block (.cells g pl (putAt cs a.off vs)),fA:=gm σ a.block vs }
   | _=>none
  else none
def St.new(σ:St)(b:Blk):Addr×St:=(⟨σ.heap.length,0,some 0⟩,{ σ with heap:=σ.heap++[b] })
def fill(cs:List Value):List (Nat×Nat×Value)->Option (List Value)
 | []=>some cs
 | (off,size,v)::rest=>if (cellsOf v).length=size&&off+size<=cs.length&&(cellsOf v).all fY then fill (putAt cs off (cellsOf v)) rest else none
def uQ(fr:Fr):List (Nat×Nat×Operand)->Option (List (Nat×Nat×Value))
 | []=>some []
 | (o,s,x)::l=>(ev fr x).bind fun v=>(uQ fr l).map ((o,s,v)::·)
def jo{α:Type} : Sem α->Option α
 | .pure a=>some a
 | _=>none
def uu:List UInt8->List UInt8->Bool
 | _,[]=>false
 | [],_::_=>true
 | a::x,b::y=>a < b||(a==b&&uu x y)
def Ik(op:BinOp)(s t:ByteArray):Option Value:=
 match op with
 | .add=>if s.size+t.size<=1099511627776 then some (.string ⟨s.data++t.data⟩) else none
 | .eql=>some (.bool (s.data.toList==t.data.toList))
 | .neq=>some (.bool (!(s.data.toList==t.data.toList)))
 | .lss=>some (.bool (uu s.data.toList t.data.toList))
 | .leq=>some (.bool (uu s.data.toList t.data.toList||s.data.toList==t.data.toList))
 | .gtr=>some (.bool (!(uu s.data.toList t.data.toList||s.data.toList==t.data.toList)))
 | .geq=>some (.bool (!uu s.data.toList t.data.toList))
 | _=>none
def gT(op:BinOp)(v w:Value):Option Value:=
 match v,w with
 | .int k a,.int k' b=>jo (binOp op 0 (.int k a) (.int k' b))
 | .string s,.string t=>Ik op s t
 | _,_=>none
def nS:Sh->Value->Value->Option Bool
 | .nu,.int k a,.int k' b=>if k=k' then some (a==b) else none
 | .bo,.bool a,.bool b=>some (a==b)
 | .st,.string a,.string b=>some (a.data.toList==b.data.toList)
 | _,_,_=>none
def gz:List Sh->List Value->List Value->Option Bool
 | [],[],[]=>some true
 | s::r,v::l,w::m=>(nS s v w).bind fun b=>(gz r l m).map fun c=>b&&c
 | _,_,_=>none
def aeq(sh:EqK)(v w:Value):Option Bool:=
 match sh,v,w with
 | .agg sh,.agg xs,.agg ys=>gz sh xs.toList ys.toList
 | .bool,.bool a,.bool b=>some (a==b)
 | .ptr,.pointer none,.pointer b=>some b.isNone
 | .ptr,.pointer (some _),.pointer none=>some false
 | .slice,.slice none _ _,.slice b _ _=>some b.isNone
 | .slice,.slice (some _) _ _,.slice none _ _=>some false
 | .func,.nilFunc,.nilFunc=>some true
 | .func,.nilFunc,.func _ _ _=>some false
 | .func,.func _ _ _,.nilFunc=>some false
 | .iface,.nilIface,.nilIface=>some true
 | .iface,.nilIface,.iface _ _=>some false
 | .iface,.iface _ _,.nilIface=>some false
 | _,_,_=>none
def aun(op:UnOp)(v:Value):Option Value:=
 match v with
 | .int k a=>jo (Op.unary op (.int k a))
 | .bool a=>jo (Op.unary op (.bool a))
 | _=>none
def Y4:Value->Option Int
 | .int _ n=>some n
 | _=>none
def iG(y:Nat):Option Value->Nat->Option Nat
 | none,d=>some d
 | some (.int _ i),_=>if 0<=i/\i<=y then some i.toNat else none
 | some _,_=>none
def lH(len:Nat)(lo hi mx:Option Value):Option (Nat×Nat×Option Nat):=
 match mx with
 | none=>(iG len hi len).bind fun h=>(iG h lo 0).map fun l=>(l,h,none)
 | some m=>(iG len (some m) 0).bind fun m'=>(match hi with | none=>none | some h=>iG m' (some h) 0).bind fun h=>(iG h lo 0).map fun l=>(l,h,some m')
def uR(len:Nat):Value->Option Nat
 | .int _ i=>if 0<=i/\i < len then some i.toNat else none
 | _=>none
def mm2(mx:Bool):Value->Value->Option Value
 | .int k x,.int k' y=>if k=k' then some (.int k (if mx then (if y > x then y else x) else (if y < x then y else x))) else none
 | _,_=>none
def mmf(mx:Bool):Value->List Value->Option Value
 | v,[]=>some v
 | v,w::l=>(mm2 mx v w).bind fun u=>mmf mx u l
def kG:List Value->Option (List UInt8)
 | []=>some []
 | .int .u8 n::l=>(kG l).map (UInt8.ofNat n.toNat::·)
 | _=>none
def jz(s:ByteArray):List Value:=s.data.toList.map fun b=>.int .u8 b.toNat
def gD(o:AOp)(fr:Fr):Option Value:=
 match o with
 | .mv x=>ev fr x
 | .pick c a b=>match ev fr c with
  | some (.bool true)=>ev fr a
  | some (.bool false)=>ev fr b
  | _=>none
 | .build zs ps=>(uQ fr ps).bind fun ps=>(fill zs ps).map fun cs=>.agg cs.toArray
 | .kK x=>match ev fr x with
  | some (.pointer (some a))=>some (.pointer (some a))
  | some (.func (.func f) fi ca)=>some (.func (.func f) fi ca)
  | _=>none
 | .bin op x y=>(ev fr x).bind fun v=>(ev fr y).bind fun w=>gT op v w
 | .eqs neg sh x y=>(ev fr x).bind fun v=>(ev fr y).bind fun w=>(aeq sh v w).map fun b=>.bool (if neg then !b else b)
 | .un op x=>(ev fr x).bind fun v=>aun op v
 | .conv k x=>match ev fr x with
  | some (.int _ n)=>some (.int k (k.wrap n))
  | _=>none
 | .AQ f fi ca=>(evs fr fi).bind fun fi=>(evs fr ca).bind fun ca=>if fi.all fY&&ca.all fY then some (.func (.func f) fi.toArray ca.toArray) else none
 | .slice esz x lo hi mx=>(ev fr x).bind fun v=>(evo fr lo).bind fun lo=>(evo fr hi).bind fun hi=>(evo fr mx).bind fun mx=>match v with
  | .slice none 0 0=>(lH 0 lo hi mx).map fun _=>.slice none 0 0
  | .slice (some a) n e=>if e=0\/e=esz then (lH n lo hi mx).map fun(l,h,m)=>.slice (some { a with off:=a.off+l*esz }) (h - l) (if m.isSome then 0 else e) else if e=1048577\/e=1048578 then (lH n lo hi mx).map fun(l,h,m)=>.slice (some { a with off:=a.off+l*esz }) (h - l) (if m=some h then 1048578 else 0) else none
  | _=>none
 | .m8 esz n x lo hi mx=>(ev fr x).bind fun v=>(evo fr lo).bind fun lo=>(evo fr hi).bind fun hi=>(evo fr mx).bind fun mx=>match v with
  | .pointer (some a)=>(lH n lo hi mx).map fun(l,h,_)=>.slice (some { a with off:=a.off+l*esz }) (h - l) 0
  | _=>none
 | .pV x lo hi=>(ev fr x).bind fun v=>(evo fr lo).bind fun lo=>(evo fr hi).bind fun hi=>match v with
  | .string s=>(lH s.size lo hi none).map fun(l,h,_)=>.string ⟨((s.data.toList.drop l).take (h - l)).toArray⟩
  | _=>none
 | .fQ off x=>match ev fr x with
  | some (.pointer (some a))=>some (.pointer (some { a with off:=a.off+off }))
  | _=>none
 | .field off n x=>match ev fr x with
  | some (.agg cs)=>gI cs.toList off n
  | _=>none
 | .fK esz x i=>(ev fr x).bind fun v=>(ev fr i).bind fun i=>match v with
  | .slice (some a) n _=>(uR n i).map fun i=>.pointer (some { a with off:=a.off+i*esz })
  | _=>none
 | .gO esz n x i=>(ev fr x).bind fun v=>(ev fr i).bind fun i=>match v with
  | .pointer (some a)=>(uR n i).map fun i=>.pointer (some { a with off:=a.off+i*esz })
  | _=>none
 | .idx esz n m x i=>(ev fr x).bind fun v=>(ev fr i).bind fun i=>match v with
  | .agg cs=>(uR n i).bind fun i=>gI cs.toList (i*esz) m
  | _=>none
 | .idxs x i=>(ev fr x).bind fun v=>(ev fr i).bind fun i=>match v with
  | .string s=>(uR s.size i).bind fun i=>(s.data.toList[i]?).map fun b=>.int .u8 b.toNat
  | _=>none
 | .ext x i=>match ev fr x with
  | some (.tuple vs)=>vs.toList[i]?
  | _=>none
 | .len x=>match ev fr x with
  | some (.slice _ n _)=>some (.int .i64 n)
  | _=>none
 | .lens x=>match ev fr x with
  | some (.string s)=>some (.int .i64 s.size)
  | _=>none
 | .FF n=>some (.int .i64 n)
 | .LZ t x=>match ev fr x with
  | some (.pointer p)=>some (.iface t (.pointer p))
  | _=>none
 | .cap x=>match ev fr x with
  | some (.slice none 0 0)=>some (.int .i64 0)
  | _=>none
 | .mm mx xs=>(evs fr xs).bind fun vs=>match vs with
  | v::l=>mmf mx v l
  | []=>none
 | _=>none
def St.news(σ:St)(esz:Nat):Value->Option (Nat×List Value)
 | .slice none 0 0=>some (0,[])
 | .slice (some b) m _=>(σ.blk b).bind fun(_,cs)=>if b.off+m*esz<=cs.length then some (m,(cs.drop b.off).take (m*esz)) else none
 | .string s=>if esz=1 then some (s.size,jz s) else none
 | _=>none
def small(n:Nat):Bool:=n<=1048576
def St.bare(σ:St)(a:Addr):Bool:=match σ.blk a with
 | some (_,[])=>true
 | _=>false
def St.append(σ:St)(pl:Bool)(esz:Nat)(x:Value)(m:Nat)(vs:List Value):Option (Value×St):=
 match x with
 | .slice none 0 0=>
  if m=0 then some (.slice none 0 0,σ)
  else if small (m*esz)&&vs.all fY&&(!pl||vs.all sc) then some (.slice (some ⟨σ.heap.length,0,some (m*esz)⟩) m esz,{ σ with heap:=σ.heap++[.cells (m*esz) pl vs] })
  else none
 | .slice (some a) n e=>
  if m=0 then some (.slice (some a) n e,σ)
  else if a.block < σ.lock||e≠esz then
   if σ.bare a&&e=esz then
    if small (m*esz)&&vs.all fY&&(!pl||vs.all sc) then some (.slice (some ⟨σ.heap.length,0,some (m*esz)⟩) m esz,{ σ with heap:=σ.heap++[.cells (m*esz) pl vs] })
    else none
   else if e=1048578 then (σ.blk a).bind fun(_,cs)=>
    if a.off+n*esz<=cs.length&&small ((n+m)*esz)&&((cs.drop a.off).take (n*esz)++vs).all fY&&(!pl||((cs.drop a.off).take (n*esz)++vs).all sc) then
     some (.slice (some ⟨σ.heap.length,0,some ((n+m)*esz)⟩) (n+m) esz,{ σ with heap:=σ.heap++[.cells ((n+m)*esz) pl ((cs.drop a.off).take (n*esz)++vs)] })
    else none
   else none
  else (σ.blk a).bind fun(pl',cs)=>
   if vs.all fY&&(!pl'||vs.all sc) then
    if a.off+n*esz=cs.length then
     if a.off=0&&small ((n+m)*esz)&&decide (a.spot.getD 0<=cs.length) then
      some (.slice (some ⟨a.block,0,some ((n+m)*esz)⟩) (n+m) esz,{ σ with heap:=σ.heap.set a.block (.cells ((n+m)*esz) pl' (cs++vs)),fA:=gm σ a.block vs })
     else if small ((n+m)*esz) then
      some (.slice (some ⟨a.block,0,some (a.spot.getD 0+(n+m)*esz)⟩) (n+m) esz,{ σ with heap:=σ.heap.set a.block (.cells (a.spot.getD 0+(n+m)*esz) pl' (cs.drop a.off++vs)),fA:=gm σ a.block vs })
     else none
    else if a.off+(n+m)*esz<=cs.length&&(0 < n||a.off=0) then
     (σ.write { a with off:=a.off+n*esz } vs).map fun σ'=>(.slice (some a) (n+m) e,σ')
    else none
   else none
 | _=>none
def FG(σ:St):Value->Value->Option (Value×St)
 | .slice none 0 0,.int .i64 k=>if k=0 then some (.slice none 0 0,σ) else if 0 < k/\k<=1048576 then
   some (.slice (some ⟨σ.heap.length,0,some k.toNat⟩) k.toNat 1,{ σ with heap:=σ.heap++[.cells k.toNat true (List.replicate k.toNat (.int .u8 0))] }) else none
 | _,_=>none
def St.oE(σ:St)(r:Nat):Option (List (Value×Value)):=
 if σ.hid.contains r then none else
 match σ.heap[r]? with
 | some (.map es)=>some es
 | _=>none
def gR(ag:Bool)(sh:List Sh)(k:Value):Bool:=(match k with | .agg _=>ag | _=>!ag)&&(cellsOf k).all sc&&(cellsOf k).length==sh.length
def kg(ag:Bool)(sh:List Sh)(k:Value):List (Value×Value)->Option (Option Value)
 | []=>some none
 | p::l=>if gR ag sh p.1 then (gz sh (cellsOf k) (cellsOf p.1)).bind fun b=>(kg ag sh k l).map fun q=>if b then some p.2 else q else none
def held:Value->Bool
 | .func (.func _) fi ca=>fi.toList.all fY&&ca.toList.all fY
 | v=>fY v
def Il:List (TypeId×FuncId)->TypeId->Option FuncId
 | [],_=>none
 | (t,f)::l,k=>if t=k then some f else Il l k
def ixB(c:UInt8):List UInt8->Nat->Int
 | [],_=>-1
 | b::l,i=>if b=c then i else ixB c l (i+1)
abbrev fD:=Fn->List Value->St->Option (Value×St)
def FH:Fn->Bool
 | .yield _=>true
 | _=>false
def jh(fz:fD)(y:List Value->St->Option (Value×St)):fD:=fun f args σ=>match f with
 | .func h=>fz (.func h) args σ
 | .yield _=>y args σ
 | _=>none
def gE(fz:fD):fD:=jh fz fun _ _=>none
def aop(fz:fD)(o:AOp)(fr:Fr)(σ:St):Option (Value×St):=
 match o with
 | .alloc pl zs=>some (.pointer (some (σ.new (.cells 0 pl zs)).1),(σ.new (.cells 0 pl zs)).2)
 | .box pl x=>(ev fr x).bind fun v=>
   if (cellsOf v).all fY&&(!pl||(cellsOf v).all sc) then some (.pointer (some (σ.new (.cells 0 pl (cellsOf v))).1),(σ.new (.cells 0 pl (cellsOf v))).2) else none
 | .gV pl esz n zs ps=>(uQ fr ps).bind fun ps=>(fill zs ps).bind fun cs=>
   if cs.length=n*esz&&small (n*esz)&&(!pl||cs.all sc) then some (.slice (some (σ.new (.cells 0 pl cs)).1) n esz,(σ.new (.cells 0 pl cs)).2) else none
 | .load n a=>match ev fr a with
  | some (.pointer (some a))=>(σ.blk a).bind fun(_,cs)=>(gI cs a.off n).map fun v=>(v,σ)
  | _=>none
 | .store n a x=>(ev fr x).bind fun v=>match ev fr a with
  | some (.pointer (some a))=>if (cellsOf v).length=n then (σ.write a (cellsOf v)).map fun σ'=>(.tuple #[],σ') else none
  | _=>none
 | .Dw x=>match ev fr x with
  | some (.string s)=>if small s.size&&0 < s.size then some (.slice (some (σ.new (.cells 0 true (jz s))).1) s.size 1,(σ.new (.cells 0 true (jz s))).2) else none
  | _=>none
 | .AP x=>match ev fr x with
  | some (.slice none 0 0)=>some (.string ⟨#[]⟩,σ)
  | some (.slice (some a) n _)=>(σ.blk a).bind fun(_,cs)=>if a.off+n<=cs.length then (kG ((cs.drop a.off).take n)).map fun l=>(.string ⟨l.toArray⟩,σ) else none
  | _=>none
 | .mark x=>match ev fr x with
  | some (.slice (some a) n e)=>if a.block < σ.lock||n=0 then none else (σ.blk a).map fun _=>(.slice (some a) n e,σ)
  | _=>none
 | .l7 pl esz zs l c=>(ev fr l).bind fun l=>(ev fr c).bind fun c=>(Y4 l).bind fun l=>(Y4 c).bind fun c=>
   if 0<=l&&l<=c&&c<=1048576&&esz*c.toNat<=1048576&&zs.length=esz&&(l≠0||c=0) then
    let cs:=(List.replicate l.toNat zs).flatten
    some (.slice (some (σ.new (.cells 0 pl cs)).1) l.toNat esz,(σ.new (.cells 0 pl cs)).2)
   else none
 | .call f args=>(evs fr args).bind fun vs=>fz (.func f) vs σ
 | .iP x args=>(ev fr x).bind fun v=>(evs fr args).bind fun vs=>match v with
  | .func g fi ca=>if FH g&&!ca.isEmpty then none else fz g (fi.toList++vs++ca.toList) σ
  | _=>none
 | .append pl esz x y=>(ev fr x).bind fun x=>(ev fr y).bind fun y=>(σ.news esz y).bind fun(m,vs)=>σ.append pl esz x m vs
 | .copy esz x y=>(ev fr x).bind fun x=>(ev fr y).bind fun y=>(σ.news esz y).bind fun(m,vs)=>match x with
  | .slice none 0 0=>some (.int .i64 0,σ)
  | .slice (some a) n _=>
   if min m n=0 then some (.int .i64 0,σ)
   else (σ.write a (vs.take (min m n*esz))).map fun σ'=>(.int .i64 (min m n:Nat),σ')
  | _=>none
 | .clear _ zs x=>match ev fr x with
  | some (.slice none 0 0)=>some (.tuple #[],σ)
  | some (.slice (some a) n _)=>if n=0 then some (.tuple #[],σ) else (σ.write a (List.replicate n zs).flatten).map fun σ'=>(.tuple #[],σ')
  | _=>none
 | .native k=>(k fr σ).map fun v=>(v,σ)
 | .n6 x n=>(ev fr x).bind fun x=>(ev fr n).bind fun n=>FG σ x n
 | .nI=>some (.map (some σ.heap.length),{ σ with heap:=σ.heap++[.map []] })
 | .jN ag sh m k x=>(ev fr m).bind fun m=>(ev fr k).bind fun k=>(ev fr x).bind fun x=>match m with
  | .map (some r)=>if r < σ.lock then none else (σ.oE r).bind fun es=>(kg ag sh k es).bind fun q=>
    if q.isNone&&gR ag sh k&&held x then some (.tuple #[],{ σ with heap:=σ.heap.set r (.map (es++[(k,x)])),fA:=gm σ r [x] }) else none
  | _=>none
 | .AR ag sh z ok m k=>(ev fr m).bind fun m=>(ev fr k).bind fun k=>match m with
  | .map (some r)=>(σ.oE r).bind fun es=>(kg ag sh k es).bind fun q=>
    if gR ag sh k then some (if ok then .tuple #[q.getD z,.bool q.isSome] else q.getD z,σ) else none
  | _=>none
 | .Dx tbl x args=>(ev fr x).bind fun v=>(evs fr args).bind fun vs=>match v with
  | .iface t (.pointer p)=>(Il tbl t).bind fun f=>fz (.func f) (.pointer p::vs) σ
  | _=>none
 | .Dy x c=>(ev fr x).bind fun x=>(ev fr c).bind fun c=>match x,c with
  | .slice none 0 0,.int .u8 _=>some (.int .i64 (-1),σ)
  | .slice (some a) n _,.int .u8 c=>(σ.blk a).bind fun(_,cs)=>if a.off+n<=cs.length then (kG ((cs.drop a.off).take n)).map fun l=>(.int .i64 (ixB c.toNat.toUInt8 l 0),σ) else none
  | _,_=>none
 | .Ij n=>match ev fr n with
  | some (.int .i64 k)=>if 0 < k/\k<=1048576 then some (.slice (some ⟨σ.heap.length,0,some 0⟩) k.toNat 1048577,{ σ with heap:=σ.heap++[.cells 0 false (List.replicate k.toNat acn)] }) else none
  | _=>none
 | .AS m=>(ev fr m).bind fun m=>match m with
  | .map (some r)=>(σ.oE r).map fun es=>(.int .i64 es.length,σ)
  | _=>none
 | o=>(gD o fr).map fun v=>(v,σ)
def reach(h:List Blk)(base:Nat):Nat->List Nat->List Nat->List Nat
 | 0,_,acc=>acc
 | _+1,[],acc=>acc
 | f+1,r::ws,acc=>if r < base||acc.contains r then reach h base f ws acc else reach h base f (fV h r++ws) (acc++[r])
def jq(f:Nat->Nat):List Nat->List Blk->List Blk
 | [],h=>h
 | t::l,h=>jq f l (h.modify t (kR f))
def jP:List Nat->Bool
 | []=>true
 | r::l=>!l.contains r&&jP l
def qN(base:Nat)(vs:List Value)(σ:St)(keep:List Nat):Option (List Value×St):=
 let olds:=σ.fA.filter (· < base);let ok:=fun r=>r < base||keep.contains r
 if jP keep&&jP olds&&(vs.all fun v=>(refs v).all ok)&&(olds.all fun t=>(fV σ.heap t).all ok)&&(keep.all fun r=>base<=r&&r < σ.heap.length&&(fV σ.heap r).all ok) then
  let f:=fun id=>if id < base then id else base+keep.idxOf id
  some (vs.map (ren f),{ σ with heap:=jq f olds (σ.heap.take base)++keep.map fun r=>kR f (σ.heap.getD r default),fA:=olds })
 else none
def gc(base:Nat)(vs:List Value)(σ:St):Option (List Value×St):=
 if σ.heap.length<=base then some (vs,σ) else
 let roots:=(vs.flatMap refs++(σ.fA.filter (· < base)).flatMap (fV σ.heap)).filter (base<=·);match roots with
 | []=>some (vs,{ σ with heap:=σ.heap.take base,fA:=σ.fA.filter (· < base) })
 | r::rs=>qN base vs σ (reach σ.heap base 4096 (r::rs) [])
def fX(a:List Nat):List Nat->List Nat
 | []=>a
 | d::l=>if a.contains d then fX a l else fX (d::a) l
inductive Ex where
 | normal
 | exit (id:Nat)
 | ret
 deriving DecidableEq
def want(o:fB)(fr:Fr):Option Bool:=
 match o.guard with
 | none=>some true
 | some (g,b)=>match fr.get g with
  | some (.bool c)=>some (c==b)
  | some (.tuple _)=>some false
  | _=>none
def gB:Value:=.tuple #[]
def lI(fz:fD):List fB->Fr->St->Option (Fr×St)
 | [],fr,σ=>some (fr,σ)
 | o::l,fr,σ=>(want o fr).bind fun b=>
  if b then (aop fz o.op fr σ).bind fun r=>lI fz l (fr.put o.dst r.1) r.2
  else lI fz l (fr.put o.dst gB) σ
def gj(bef:Nat):List (Nat×Nat×Nat)->List Nat
 | []=>[]
 | (i,lo,hi)::l=>if bef.testBit i then gj bef l else List.range' lo (hi - lo)++gj bef l
def uS:List (Nat×Nat×Nat)->Nat->Nat
 | [],n=>n
 | (_,lo,_)::l,_=>uS l lo
def DY(L base n:Nat):Nat:=if L<=base/\base<=n then base else n
def mF(o:fB):Bool:=o.bef.testBit 255
def jW(wr own:Bool)(born:List (Nat×Nat×Nat))(L n:Nat):Nat:=if wr then (if own then DY L (uS born n) n else L) else n
theorem lJ{wr own:Bool}{born:List (Nat×Nat×Nat)}{L n:Nat}(h:L<=n):L<=jW wr own born L n/\jW wr own born L n<=n:=by
 unfold jW DY;repeat' split
 all_goals omega
def lK(fz:fD)(born:List (Nat×Nat×Nat))(j:Nat):List fB->Fr->St->Option (Fr×St)
 | [],fr,σ=>some (fr,σ)
 | o::l,fr,σ=>(want o fr).bind fun b=>
  if b then
   (aop fz o.op fr { σ with lock:=jW o.wr (mF o) born σ.lock σ.heap.length,hid:=gj o.bef born++σ.hid }).bind fun r=>
    lK fz (if σ.heap.length < r.2.heap.length then (j,σ.heap.length,r.2.heap.length)::born else born) (j+1) l (fr.put o.dst r.1) { r.2 with lock:=σ.lock,hid:=σ.hid }
  else lK fz born (j+1) l (fr.put o.dst gB) σ
def failK:Fr->St->Option Value:=fun _ _=>none
def kI:AOp->Bool
 | .mv _ | .pick _ _ _ | .build _ _ | .kK _ | .bin _ _ _ | .eqs _ _ _ _ | .un _ _ | .conv _ _ | .AQ _ _ _ | .slice _ _ _ _ _ | .m8 _ _ _ _ _ _ | .pV _ _ _ | .fQ _ _ | .field _ _ _ | .fK _ _ _ | .gO _ _ _ _ | .idx _ _ _ _ _ | .idxs _ _ | .ext _ _ | .len _ | .lens _ | .FF _ | .cap _ | .mm _ _ | .LZ _ _=>true
 | _=>false
def tgt(fr:Fr):AOp->Option (List (Bool×Nat))
 | .load _ x=>match ev fr x with
  | some (.pointer (some a))=>some [(false,a.block)]
  | _=>none
 | .store _ x _=>match ev fr x with
  | some (.pointer (some a))=>some [(true,a.block)]
  | _=>none
 | o=>if kI o then some [] else none
def apart(tg seen:List (Bool×Nat)):Bool:=tg.all fun p=>seen.all fun q=>(!p.1&&!q.1)||p.2 != q.2
def iQ:fD:=fun _ _ _=>none
def boxes(fr:Fr):List Nat->Option (List Nat)
 | []=>some []
 | x::l=>match fr.get x with
  | some (.pointer (some a))=>(boxes fr l).map (a.block::·)
  | some (.slice (some a) _ _)=>(boxes fr l).map (a.block::·)
  | _=>none
def j3(fz:fD)(m:Bool)(B:List Nat):List (Bool×Nat)->List fB->Fr->St->Option (Fr×St)
 | _,[],fr,σ=>some (fr,σ)
 | seen,o::l,fr,σ=>(want o fr).bind fun b=>
  if b then
   if o.wr then
    if m then (aop fz o.op fr { σ with hid:=B++σ.hid }).bind fun r=>j3 fz m B seen l (fr.put o.dst r.1) { r.2 with hid:=σ.hid } else none
   else (tgt fr o.op).bind fun tg=>
    if apart tg seen&&(!m||tg.all fun p=>B.contains p.2) then (aop iQ o.op fr σ).bind fun r=>j3 fz m B (tg++seen) l (fr.put o.dst r.1) r.2 else none
  else j3 fz m B seen l (fr.put o.dst gB) σ
def ON:AOp->Bool
 | .nI=>true
 | .jN _ _ _ _ _=>true
 | _=>false
def mG:AOp->Bool
 | .call _ _=>true
 | _=>false
def qO(fz:fD)(n:Nat):List fB->Fr->St->Option (Fr×St)
 | [],fr,σ=>some (fr,σ)
 | o::l,fr,σ=>
  if kI o.op||ON o.op then (aop iQ o.op fr σ).bind fun r=>qO fz n l (fr.put o.dst r.1) r.2
  else if mG o.op then (aop fz o.op fr { σ with lock:=σ.heap.length,hid:=n::σ.hid }).bind fun r=>if r.2.heap.length=σ.heap.length then qO fz n l (fr.put o.dst r.1) σ else none
  else none
def kS(base:Nat)(fr:Fr)(σ:St):Option (Fr×St):=
 (gc base (fr.map (·.2)) σ).map fun r=>((fr.map (·.1)).zip r.1,r.2)
def iter(body:Fr->St->Option (Ex×Fr×St))(live:List Nat)(base:Nat):Nat->Fr->St->Option (Ex×Fr×St)
 | 0,_,_=>none
 | n+1,fr,σ=>(body fr σ).bind fun r=>match r.1 with
  | .normal=>(kS base (r.2.1.keep live) r.2.2).bind fun q=>iter body live base n q.1 q.2
  | e=>some (e,r.2.1,r.2.2)
def gS:Nat->List Value->Fr
 | _,[]=>[]
 | i,v::l=>(i,v)::gS (i+1) l
def oF:Value->Bool
 | .func _ _ _=>false
 | .tuple _=>false
 | _=>true
def jJ(ba b:Fr->St->Option (Ex×Fr×St))(ps:List Nat)(fr:Fr)(args:List Value)(σ:St):Option (Value×St):=
 if args.length=ps.length&&args.all oF then
  (ba (ps.zip args++fr) { σ with fA:=[] }).bind fun r=>match r.1 with
   | .normal=>(b r.2.1 r.2.2).bind fun q=>match q.1 with
    | .normal=>(gc σ.heap.length [] q.2.2).map fun z=>(.bool true,{ z.2 with fA:=fX σ.fA z.2.fA })
    | _=>none
   | _=>none
 else none
def qP:Value:=.func (.yield 0) #[] #[]
def nC(fr:Fr)(σ:St)(r:Ex×Fr×St):Option (Ex×Fr×St):=match r.1 with
 | .exit _=>none
 | _=>(gc σ.heap.length [] r.2.2).map fun z=>(.normal,fr,{ z.2 with fA:=fX σ.fA z.2.fA })
def exec:fD->Nat->fG->Fr->St->Option (Ex×Fr×St)
 | _,_,.skip,fr,σ=>some (.normal,fr,σ)
 | _,_,.ret,fr,σ=>some (.ret,fr,σ)
 | _,_,.exit id,fr,σ=>some (.exit id,fr,σ)
 | fz,_,.region ops,fr,σ=>(lI fz ops fr σ).map fun r=>(.normal,r.1,r.2)
 | fz,_,.drawn ops,fr,σ=>(lK (gE fz) [] 0 ops fr σ).map fun r=>(.normal,r.1,r.2)
 | fz,_,.sv xs m ops,fr,σ=>(boxes fr xs).bind fun B=>(j3 (gE fz) m B [] ops fr σ).map fun r=>(.normal,r.1,r.2)
 | fz,_,.lits ops,fr,σ=>(qO (gE fz) σ.heap.length ops fr σ).map fun r=>(.normal,r.1,r.2)
 | fz,n,.seq a b,fr,σ=>(exec fz n a fr σ).bind fun r=>match r.1 with
  | .normal=>exec fz n b r.2.1 r.2.2
  | e=>some (e,r.2.1,r.2.2)
 | fz,n,.cond c a b,fr,σ=>match ev fr c with
  | some (.bool true)=>exec fz n a fr σ
  | some (.bool false)=>exec fz n b fr σ
  | _=>none
 | fz,n,.block id b,fr,σ=>(exec fz n b fr σ).map fun r=>match r.1 with
  | .exit i=>if i=id then (.normal,r.2.1,r.2.2) else (.exit i,r.2.1,r.2.2)
  | e=>(e,r.2.1,r.2.2)
 | fz,n,.loop live b,fr,σ=>(iter (exec fz n b) live σ.heap.length n (fr.keep live) { σ with fA:=[] }).map fun r=>(r.1,r.2.1,{ r.2.2 with fA:=fX σ.fA r.2.2.fA })
 | fz,n,.each x g gc ps ba b,fr,σ=>match ev fr x with
  | some (.func (.func h) fi ca)=>
   if h==g&&fi.isEmpty then
    (exec (jh fz (jJ (exec fz n ba) (exec fz n b) ps fr)) n gc (gS 0 (qP::ca.toList)) { σ with fA:=[] }).bind (nC fr σ)
   else none
  | _=>none
def wZ(fr:Fr)(σ:St):mX->Option Value
 | .tmp t=>fr.get t
 | .cell a n=>match fr.get a with
  | some (.pointer (some a))=>(σ.blk a).bind fun r=>gI r.2 a.off n
  | _=>none
def kj(fr:Fr)(σ:St):List mX->Option (List Value)
 | []=>some []
 | r::l=>(wZ fr σ r).bind fun v=>(kj fr σ l).map (v::·)
def DZ:Value->Bool
 | .tuple _=>false
 | _=>true
def lM:List Value->Option Value
 | [v]=>some v
 | vs=>if vs.all DZ then some (.tuple vs.toArray) else none
def gW:List (Nat×AFn)->Nat->Option AFn
 | [],_=>none
 | (i,f)::l,k=>if i=k then some f else gW l k
inductive Env where
 | base (l:List (Nat×AFn))
 | yl (e:Env) (ps:List Nat) (ba b:fG) (fr:Fr)
def Env.fn:Env->Nat->Option AFn
 | .base l,k=>gW l k
 | .yl _ _ _ _ _,_=>none
def body(fz:fD)(n:Nat)(fn:AFn)(args:List Value)(σ:St):Option (Value×St):=
 (exec fz n fn.code (gS 0 args) { σ with fA:=[] }).bind fun r=>match r.1 with
  | .exit _=>none
  | _=>(kj r.2.1 r.2.2 fn.results).bind fun vs=>(lM vs).bind fun u=>(gc σ.heap.length [u] r.2.2).bind fun q=>match q.1 with
   | [v]=>some (v,{ q.2 with fA:=fX σ.fA q.2.fA })
   | _=>none
def nT(l:List (Nat×AFn)):Nat->fD
 | 0,_,_,_=>none
 | n+1,.func f,args,σ=>(gW l f).bind fun fn=>body (nT l n) n fn args σ
 | _+1,_,_,_=>none
def run:Env->Nat->fD
 | .base l=>nT l
 | .yl e ps ba b fr=>fun n=>jh (run e n) (jJ (exec (run e n) n ba) (exec (run e n) n b) ps fr)
end AM
namespace AM
open Go
section
variable(P:Program)
def nD:Nat->TypeId->Bool
 | 0,_=>false
 | d+1,t=>match P.underlying t with
  | some .bool=>true
  | some (.int _)=>true
  | some .string=>true
  | some (.struct fs)=>fs.toList.all fun f=>nD d f.type
  | some (.array _ e)=>nD d e
  | _=>false
def jw(t:TypeId):Option Bool:=
 match P.underlying t with
 | some (.struct _)=>some true
 | some (.array _ _)=>some true
 | some _=>some false
 | none=>none
def gl(t:TypeId):Option Nat:=(P.info? t).map (·.size)
def mH(t:TypeId):Option (Option Nat):=
 match jw P t with
 | some true=>(gl P t).map some
 | some false=>if gl P t=some 1 then some none else none
 | none=>none
def kU(t:TypeId):Option (List Value):=
 match P.info? t with
 | some i=>match i.zero with
  | some z=>if z.cells.size=i.size&&z.cells.toList.all sc then some z.cells.toList else none
  | none=>none
 | none=>none
def TY(f:TypeId->Option (List Sh)):List Field->Nat->Option (List Sh)
 | [],_=>some []
 | fd :: l, n => if fd.offset = n && fd.name != "_" then (f fd.type).bind fun s => if gl P fd.type = some s.length then (TY f l (n + s.length)).map (s ++ ·) else none else none
def vE:Nat->TypeId->Option (List Sh)
 | 0,_=>none
 | d+1,t=>match P.underlying t with
  | some .bool=>some [.bo]
  | some (.int _)=>some [.nu]
  | some .string=>some [.st]
  | some (.struct fs)=>if P.stoodInHeld t then none else TY P (vE d) fs.toList 0
  | some (.array n e)=>(vE d e).bind fun s=>if gl P e=some s.length then some (List.replicate n s).flatten else none
  | _=>none
def l8:Operand->Bool
 | .const (.agg cs)=>cs.toList.all sc
 | .const v=>sc v
 | .global _=>false
 | _=>true
def AT(t:TypeId):Option (Nat->Option (Nat×Nat)):=
 match P.underlying t with
 | some (.struct fs)=>if fs.toList.all (fun f=>(gl P f.type).isSome) then some fun i=>(fs[i]?).bind fun f=>(gl P f.type).map fun s=>(f.offset,s) else none
 | some (.array _ e)=>(gl P e).map fun s i=>some (i*s,s)
 | _=>none
def sA(pl:Nat->Option (Nat×Nat)):List (Nat×Operand)->Option (List (Nat×Nat×Operand))
 | []=>some []
 | (i,x)::l=>(pl i).bind fun q=>(sA pl l).map fun r=>(q.1,q.2,x)::r
def vF(t:TypeId):Option EqK:=
 match P.underlying t with
 | some .bool=>some .bool
 | some (.pointer _)=>some .ptr
 | some (.slice _)=>some .slice
 | some (.map _ _)=>some .map
 | some (.func _ _ _)=>some .func
 | some (.interface _)=>some .iface
 | some (.struct _)=>if P.eqGuardType P.depth t then none else (vE P 8 t).map .agg
 | some (.array _ _)=>if P.eqGuardType P.depth t then none else (vE P 8 t).map .agg
 | _=>none
def qQ(t:TypeId):Option TypeId:=
 match P.underlying t with
 | some (.slice e)=>some e
 | _=>none
def nE(e:TypeId):Bool:=match P.underlying e with | some (.int .u8)=>gl P e=some 1 | _=>false
def zM(t:TypeId):Option Nat:=(P.info? t).map (·.bytes)
def jK(e:TypeId):Bool:=match zM P e with | some b=>b<=4194304 | none=>false
def TZ (f : Field) : Bool := f.name != "_" && (match gl P f.type with | some n => n == 1 | none => false) && (match P.underlying f.type with | some .bool => true | some (.int _) => true | _ => false)
def uw(t:TypeId):Option (Bool×List Sh):=
 match P.underlying t with
 | some (.int _)=>some (false,[.nu])
 | some (.struct fs)=>(vE P 8 t).bind fun s=>if fs.toList.all (fun f=>TZ P f&&decide (f.offset < s.length)) then some (true,s) else none
 | _=>none
def zN(t:TypeId):Option Value:=
 match P.info? t with
 | some i=>match i.zero with
  | some z=>if sc z then some z else none
  | none=>none
 | none=>none
def FI(t:TypeId)(name:String):Option FuncId:=
 match P.info? t,P.underlying t with
 | some i,some (.pointer _)=>match i.methods.find? (·.name==name) with
  | some m=>match m.func with
   | some (f,true)=>if m.path.isEmpty then some f else none
   | _=>none
  | none=>none
 | _,_=>none
def qR(name:String):List Nat->List (TypeId×FuncId)
 | []=>[]
 | t::l=>match FI P t name with
  | some f=>(t,f)::qR name l
  | none=>qR name l
def FJ(f:FuncId)(args:List Operand):AOp:=
 match P.funcs[f]? with
 | some fn => if fn.body.isNone && fn.origin == "" then
   (
    if fn.name == "internal/bytealg.IndexByte" then (match args with | [x, c] => .Dy x c | _ => .call f args)
    else if fn.name == "internal/bytealg.MakeNoZero" then (match args, fn.resultTypes.toList with
     | [n],[t]=>(match P.underlying t with | some (.slice _)=>.Ij n | _=>.call f args)
     | _,_=>.call f args)
    else .call f args) else .call f args
 | none=>.call f args
def FK:EqK->Bool
 | .iface=>true
 | _=>false
def isConst:Operand->Bool
 | .const _=>true
 | _=>false
def gF(o:Op):Option AOp:=
 match o with
 | .makeInterface t x=>match P.underlying t with
  | some (.pointer _)=>some (.LZ t x)
  | _=>some (.native failK)
 | .panic _=>some (.native failK)
 | .move x=>some (.mv x)
 | .assign x=>some (.mv x)
 | .pick c a b=>some (.pick c a b)
 | .alloc e=>(kU P e).map fun zs=>.alloc (nD P 8 e) zs
 | .box e x=>some (.box (nD P 8 e) x)
 | .build t ps=>(kU P t).bind fun zs=>(AT P t).bind fun pl=>(sA pl ps.toList).map fun ps=>.build zs ps
 | .buildSlice t n ps=>(qQ P t).bind fun e=>(gl P e).bind fun s=>(kU P e).bind fun zs=>
   if 0 < s&&n*s<=1048576&&s<=1048576 then (sA (fun i=>some (i*s,s)) ps.toList).map fun ps=>.gV (nD P 8 e) s n (List.replicate n zs).flatten ps else none
 | .load t a=>(mH P t).map fun n=>.load n a
 | .store t a x=>(gl P t).map fun n=>.store n a x
 | .nilCheck x=>some (.kK x)
 | .binOp op t x y _=>match P.underlying t with
  | some (.int _)=>some (.bin op x y)
  | some .string=>some (.bin op x y)
  | _=>match op with
   | .eql=>(vF P t).bind fun sh=>if FK sh&&!isConst x&&!isConst y then none else some (.eqs false sh x y)
   | .neq=>(vF P t).bind fun sh=>if FK sh&&!isConst x&&!isConst y then none else some (.eqs true sh x y)
   | _=>none
 | .unOp op _ x=>some (.un op x)
 | .convert s d x=>match P.underlying s,P.underlying d with
  | some (.int _),some (.int k)=>some (.conv k x)
  | some .string,some (.slice e)=>if nE P e then some (.Dw x) else none
  | some (.slice e),some .string=>if nE P e then some (.AP x) else none
  | some (.slice _),some (.slice e)=>if nE P e&&s==d then some (.mark x) else none
  | _,_=>none
 | .makeFunc (.func f) fi ca=>some (.AQ f fi.toList ca.toList)
 | .makeMap t r=>match P.underlying t,r with
  | some (.map _ _),none=>some .nI
  | some (.map _ _),some (.const (.int _ _))=>some .nI
  | _,_=>none
 | .mapUpdate t m k x=>match P.underlying t with
  | some (.map kt _)=>(uw P kt).map fun sh=>.jN sh.1 sh.2 m k x
  | _=>none
 | .insert t m k x=>match P.underlying t with
  | some (.map kt _)=>(uw P kt).map fun sh=>.jN sh.1 sh.2 m k x
  | _=>none
 | .lookup t m k ok=>match P.underlying t with
  | some (.map kt e)=>(uw P kt).bind fun sh=>(zN P e).map fun z=>.AR sh.1 sh.2 z ok m k
  | _=>none
 | .makeSlice t l c=>(qQ P t).bind fun e=>(gl P e).bind fun s=>(kU P e).bind fun zs=>if 0 < s&&jK P e&&s<=1048576 then some (.l7 (nD P 8 e) s zs l c) else none
 | .slice t x lo hi mx=>match P.underlying t with
  | some (.slice e)=>(gl P e).bind fun s=>if 0 < s&&s<=1048576 then some (.slice s x lo hi mx) else none
  | some .string=>if mx.isNone then some (.pV x lo hi) else none
  | some (.array n e)=>(gl P e).bind fun s=>if 0 < s&&n<=1048576 then some (.m8 s n x lo hi mx) else none
  | _=>none
 | .fieldAddr t x f=>match P.underlying t with
  | some (.struct fs)=>(fs[f]?).bind fun f=>(gl P f.type).bind fun s=>if 0 < s then some (.fQ f.offset x) else none
  | _=>none
 | .field t x f=>match P.underlying t with
  | some (.struct fs)=>(fs[f]?).bind fun f=>(mH P f.type).map fun n=>.field f.offset n x
  | _=>none
 | .indexAddr t x i=>match P.underlying t with
  | some (.slice e)=>(gl P e).bind fun s=>if 0 < s then some (.fK s x i) else none
  | some (.array n e)=>(gl P e).bind fun s=>if 0 < s&&1 < n then some (.gO s n x i) else none
  | _=>none
 | .index t x i=>match P.underlying t with
  | some (.array n e)=>(gl P e).bind fun s=>(mH P e).map fun m=>.idx s n m x i
  | some .string=>some (.idxs x i)
  | _=>none
 | .extract x i=>some (.ext x i)
 | .call c=>match c.callee with
  | .value (.func f)=>some (FJ P f c.args.toList)
  | .invoke x m=>if l8 x then some (.Dx (qR P m (List.range P.types.size)) x c.args.toList) else none
  | .value x=>if l8 x then some (.iP x c.args.toList) else none
  | .builtin .append=>match c.args.toList,c.argTypes.toList with
   | [x,y],[tx,ty]=>(qQ P tx).bind fun e=>(gl P e).bind fun s=>(kU P e).bind fun zs=>match P.underlying ty with
    | some (.slice _)=>if 0 < s&&jK P e&&s<=1048576 then some (.append (nD P 8 e) s x y) else none
    | some .string=>if 0 < s&&jK P e&&s<=1048576 then some (.append (nD P 8 e) s x y) else none
    | some (.int .i64)=>if nE P e&&jK P e then (match zs with | [.int .u8 0]=>some (.n6 x y) | _=>none) else none
    | _=>none
   | _,_=>none
  | .builtin .copy=>match c.args.toList,c.argTypes.toList with
   | [x,y],[tx,_]=>(qQ P tx).bind fun e=>(gl P e).bind fun s=>if 0 < s then some (.copy s x y) else none
   | _,_=>none
  | .builtin .clear=>match c.args.toList,c.argTypes.toList with
   | [x],[tx]=>(qQ P tx).bind fun e=>(gl P e).bind fun s=>(kU P e).bind fun zs=>if 0 < s&&zs.all fY then some (.clear s zs x) else none
   | _,_=>none
  | .builtin .len=>match c.args.toList,c.argTypes.toList with
   | [x],[tx]=>match P.underlying tx with
    | some (.slice _)=>some (.len x)
    | some .string=>some (.lens x)
    | some (.array n _)=>some (.FF n)
    | some (.map _ _)=>some (.AS x)
    | _=>none
   | _,_=>none
  | .builtin .cap=>match c.args.toList,c.argTypes.toList with
   | [x],[tx]=>match P.underlying tx with
    | some (.slice _)=>some (.cap x)
    | _=>none
   | _,_=>none
  | .builtin .min=>some (.mm false c.args.toList)
  | .builtin .max=>some (.mm true c.args.toList)
  | _=>none
 | _=>none
end
def aeJ:AOp->List Operand
 | .mv x | .box _ x | .load _ x | .kK x | .un _ x | .conv _ x | .Dw x | .AP x | .mark x | .fQ _ x | .field _ _ x | .ext x _ | .len x | .lens x | .cap x | .clear _ _ x | .AS x | .LZ _ x | .Ij x=>[x]
 | .native _ | .nI=>[]
 | .pick c a b=>[c,a,b]
 | .jN _ _ m k x=>[m,k,x]
 | .alloc _ _ | .FF _=>[]
 | .build _ ps | .gV _ _ _ _ ps=>ps.map (·.2.2)
 | .store _ a x | .bin _ a x | .eqs _ _ a x | .l7 _ _ _ a x | .fK _ a x | .gO _ _ a x | .idx _ _ _ a x | .idxs a x | .append _ _ a x | .copy _ a x | .n6 a x | .AR _ _ _ _ a x | .Dy a x=>[a,x]
 | .AQ _ a b=>a++b
 | .slice _ x l h m | .m8 _ _ x l h m=>x::(l.toList++h.toList++m.toList)
 | .pV x l h=>x::(l.toList++h.toList)
 | .call _ xs | .mm _ xs=>xs
 | .iP x xs | .Dx _ x xs=>x::xs
def L0(l:List Nat)(t:Nat):List Nat:=if l.contains t then l else t::l
def aco(l:List Nat):Operand->List Nat
 | .tmp t=>L0 l t
 | _=>l
def abt(a:List Nat)(b:List Nat):List Nat:=b.foldl L0 a
def vG:List fB->List Nat->List Nat
 | [],out=>out
 | o::l,out=>
  let k:=(vG l out).filter fun t=>o.dst != some t;let k:=(aeJ o.op).foldl aco k;match o.guard with
  | none=>k
  | some (g,_)=>L0 k g
def mY:AOp->Bool
 | .load _ _ | .store _ _ _ | .AP _ | .mark _ | .call _ _ | .iP _ _ | .append _ _ _ _ | .copy _ _ _ | .clear _ _ _ | .native _ | .n6 _ _ | .nI | .jN _ _ _ _ _ | .AR _ _ _ _ _ _ | .AS _ | .Dx _ _ _ | .Dy _ _ | .Ij _=>true
 | _=>false
def aeK:AOp->Bool
 | .alloc _ _ | .box _ _ | .gV _ _ _ _ _ | .Dw _ | .l7 _ _ _ _ _=>true
 | _=>false
section
variable(P:Program)
def T0(ntmps:Nat):Option Tmp->Bool
 | some d=>decide (d < ntmps)
 | none=>true
def kV(ops:Array Oper)(ntmps:Nat)(o:Oper):Option fB:=
 if o.op.operands.toList.all l8&&T0 ntmps o.dst then
  (gF P o.op).bind fun a=>match o.guard with
   | none=>some ⟨o.dst,none,0,true,a⟩
   | some (g,b)=>match (ops[g]?).bind (·.dst) with
    | some s=>some ⟨o.dst,some (s,b),0,true,a⟩
    | none=>none
 else none
def jy(ops:Array Oper)(ntmps:Nat):List Oper->Option (List fB)
 | []=>some []
 | o::l=>(kV P ops ntmps o).bind fun a=>(jy ops ntmps l).map (a::·)
end
def kW:List Oper->List Nat->List Nat
 | [],acc=>acc
 | o::l,acc=>kW l (acc++[o.after.toList.foldl (fun s e=>if Region.binds .any e then s|||(2 ^ e.on|||acc.getD e.on 0) else s) 0])
def bound(asq:List fB)(bs:List Nat)(j:Nat):Bool:=
 (List.range asq.length).all fun i=>i==j||(match asq[i]? with | some a=>!mY a.op | none=>true)||(bs.getD j 0).testBit i||(bs.getD i 0).testBit j
def L2(asq:List fB)(bs:List Nat)(j:Nat):Bool:=
 (List.range asq.length).all fun i=>i==j||(match asq[i]? with | some a=>!mY a.op | none=>true)||(bs.getD j 0).testBit i||(bs.getD i 0).testBit j||(bs.getD i 0&&&bs.getD j 0)==0
def isApp:AOp->Bool
 | .append _ _ _ _=>true
 | _=>false
def chained(asq:List fB):Bool:=asq.any fun o=>match o.op with
 | .append _ _ (.tmp t) _=>asq.any fun o'=>o'.dst==some t&&isApp o'.op
 | _=>false
def L3(asq:List fB)(bs:List Nat)(j:Nat)(a:fB):Bool:=!bound asq bs j&&isApp a.op&&decide (asq.length<=255)&&chained asq&&L2 asq bs j
def m9(asq:List fB)(bs:List Nat)(j:Nat)(a:fB):fB:=
 { a with bef:=if L3 asq bs j a then bs.getD j 0|||2 ^ 255 else bs.getD j 0,wr:=mY a.op&&(bound asq bs j||L3 asq bs j a) }
def marked(asq:List fB)(bs:List Nat):List fB:=asq.zipIdx.map fun(a,j)=>m9 asq bs j a
def Y5:List Nat:=[]
def rootOf(asq:List fB):Nat->Nat->Nat
 | 0,t=>t
 | n+1,t=>match asq.find? (fun o=>o.dst==some t) with
  | some o=>match o.op with
   | .fQ _ (.tmp u)=>rootOf asq n u
   | .gO _ _ (.tmp u) _=>rootOf asq n u
   | .fK _ (.tmp u) _=>rootOf asq n u
   | .kK (.tmp u)=>rootOf asq n u
   | .mv (.tmp u)=>rootOf asq n u
   | _=>t
  | none=>t
def T1(asq:List fB)(t:Nat):Bool:=asq.any fun o=>o.dst==some (rootOf asq 12 t)&&aeK o.op
def isM(asq:List fB)(o:fB):Bool:=match o.op with
 | .load _ (.tmp t)=>T1 asq t
 | .store _ (.tmp t) _=>T1 asq t
 | .load _ _ | .store _ _ _=>false
 | p=>!kI p
def qS(asq:List fB):List fB:=asq.map fun a=>{ a with bef:=0,wr:=isM asq a }
def T2(asq:List fB)(bs:List Nat):Bool:=
 (List.range asq.length).all fun i=>(List.range asq.length).all fun j=>i==j||(match asq[i]?,asq[j]? with
  | some a,some b=>!(isM asq a&&isM asq b)
  | _,_=>true)||(bs.getD j 0).testBit i||(bs.getD i 0).testBit j
def Y6(asq:List fB):List Nat:=asq.foldl (fun l o=>if isM asq o then l else match o.op with
 | .load _ (.tmp t)=>L0 l (rootOf asq 12 t)
 | .store _ (.tmp t) _=>L0 l (rootOf asq 12 t)
 | _=>l) []
def aeL(asq:List fB)(o:fB):Bool:=match o.op with
 | .append _ _ (.tmp t) _=>!o.wr&&match asq.find? (fun o'=>o'.dst==some t) with
  | some o'=>(match o'.op with | .mv (.tmp _)=>true | _=>false)
  | none=>true
 | .store _ _ _=>!o.wr
 | .call f _=>!o.wr&&Y5.contains f
 | _=>false
def acp(asq:List fB)(bs:List Nat):Bool:=(marked asq bs).any (aeL asq)&&T2 asq bs
def anyM(asq:List fB):Bool:=asq.any fun a=>isM asq a
def sk:List Sh->List Sh->Bool
 | [],[]=>true
 | .bo::l,.bo::m=>sk l m
 | .nu::l,.nu::m=>sk l m
 | .st::l,.st::m=>sk l m
 | _,_=>false
def abu(t:Nat)(ag:Bool)(sh:List Sh):AOp->Bool
 | .jN ag' sh' (.tmp u) _ _=>u==t&&ag'==ag&&sk sh' sh
 | _=>false
def abv:List fB->Option (Bool×List Sh)
 | []=>none
 | o::l=>match o.op with
  | .jN ag sh _ _ _=>some (ag,sh)
  | _=>abv l
def Y7(asq:List fB):Bool:=match asq with
 | o::l=>match o.op,o.dst,abv l with
  | .nI,some t,some (ag,sh)=>o.guard.isNone&&l.all fun a=>a.guard.isNone&&(kI a.op||mG a.op||abu t ag sh a.op)
  | _,_,_=>false
 | []=>false
def D0(ops:Array Oper):Bool:=
 (List.range ops.size).all fun j=>match ops[j]? with
  | none=>false
  | some o=>(match o.op with | .select _ _=>false | _=>true) &&
    (o.after.toList.all fun e=>!Region.binds .any e||decide (e.on < j)) &&
    ((List.range ops.size).all fun k=>match ops[k]? with
     | none=>false
     | some o'=>j==k||(match o'.dst with
      | none=>true
      | some d=>(o.dst != some d)&&(!(o.looksAt ops).contains d||(o.after.toList.any fun e=>Region.binds .any e&&e.on==k)||(o'.after.toList.any fun e=>Region.binds .any e&&e.on==j))))
def jc:Nat:=1000000
def jO(p:Nat->Bool):fG->Bool
 | .exit id=>p id
 | .seq a b=>jO p a&&jO p b
 | .cond _ a b=>jO p a&&jO p b
 | .block id b=>jO (fun i=>i==id||p i) b
 | .loop _ b=>jO p b
 | _=>true
section
variable(P:Program)(ntmps:Nat)
def comp:Option (Nat×fG)->List (Nat×List Nat)->List Nat->Code->List Nat->Option (fG×List Nat)
 | _,_,_,.skip,out=>some (.skip,out)
 | _,_,fin,.ret,_=>some (.ret,fin)
 | _,gJ,_,.exit id,_=>match gJ.find? (·.1==id) with
  | some (_,o)=>if id < jc then some (.exit id,o) else none
  | none=>none
 | _,_,_,.label _,out=>some (.skip,out)
 | _,gJ,_,.goto l,_=>match gJ.find? (·.1==jc+l) with
  | some (_,o)=>some (.exit (jc+l),o)
  | none=>none
 | it,gJ,fin,.scope c,out=>(comp it gJ fin c out).bind fun p=>if jO (· < jc) p.1 then some p else none
 | _,_,_,.region _ ops draw,out=>(jy P ops ntmps ops.toList).bind fun asq=>
   if draw then (if D0 ops then (if Y7 asq then some (.lits asq,vG asq out) else if acp asq (kW ops.toList []) then some (.sv (if anyM asq then Y6 asq else []) (anyM asq) (qS asq),vG asq out) else some (.drawn (marked asq (kW ops.toList [])),vG asq out)) else none) else some (.region asq,vG asq out)
 | it,gJ,fin,.seq a b,out=>(comp it gJ fin b out).bind fun q=>(comp it gJ fin a q.2).map fun p=>(.seq p.1 q.1,p.2)
 | it,gJ,fin,.cond c a b,out=>if l8 c then (comp it gJ fin a out).bind fun p=>(comp it gJ fin b out).map fun q=>(.cond c p.1 q.1,aco (abt p.2 q.2) c) else none
 | it,gJ,fin,.block id b,out=>if id < jc then (comp it ((id,out)::gJ) fin b out).map fun p=>(.block id p.1,p.2) else none
 | it,gJ,fin,.loop b,_=>(comp it gJ fin b []).bind fun p=>(comp it gJ fin b p.2).bind fun q=>(comp it gJ fin b q.2).map fun r=>(.loop q.2 r.1,q.2)
 | it,_,_,.rangeFunc x ps assign b,out=>it.bind fun g=>
   if l8 x&&jP ps.toList&&ps.toList.all (· < ntmps) then
    (comp none [] [] b []).bind fun q=>(comp none [] [] assign q.2).map fun p=>(.each x g.1 g.2 ps.toList p.1 q.1,aco (abt out (p.2.filter fun t=>!ps.toList.contains t)) x)
   else none
 | _,_,_,_,_=>none
def gotos:Code->List Nat
 | .goto l=>[l]
 | .seq a b=>gotos a++gotos b
 | .cond _ a b=>gotos a++gotos b
 | .block _ b=>gotos b
 | .loop b=>gotos b
 | .scope b=>gotos b
 | _=>[]
def Im(l:Nat)(live:List Nat)(a r:fG):fG:=
 .block (2*jc) (.seq (.block (jc+l) (.seq a (.exit (2*jc)))) (.loop live (.block (jc+l) (.seq r (.exit (2*jc))))))
def w9(it:Option (Nat×fG))(fin:List Nat)(l:Nat)(c rest:Code):Option (fG×List Nat):=
 (comp P ntmps it [(jc+l,[])] fin rest fin).bind fun p=>(comp P ntmps it [(jc+l,p.2)] fin rest fin).bind fun q=>(comp P ntmps it [(jc+l,q.2)] fin rest fin).bind fun r=>(comp P ntmps it [(jc+l,q.2)] fin c fin).bind fun f=>
  if l < jc&&jO (·==jc+l) f.1&&jO (·==jc+l) r.1 then some (Im l q.2 f.1 r.1,f.2) else none
def FL(it:Option (Nat×fG))(fin:List Nat)(c:Code):Option (fG×List Nat):=
 match c with
 | .seq a (.scope c)=>match gotos c with
  | []=>comp P ntmps it [] fin (.seq a (.scope c)) fin
  | l::_=>match findLabel c l with
   | some rest=>(w9 P ntmps it fin l c rest).bind fun f=>(comp P ntmps it [] fin a f.2).map fun g=>(.seq g.1 f.1,g.2)
   | none=>none
 | c=>comp P ntmps it [] fin c fin
def qT:List ResultVar->Option (List mX)
 | []=>some []
 | .tmp t::l=>(qT l).map (.tmp t::·)
 | .cell a t::l=>(mH P t).bind fun n=>(qT l).map (.cell a n::·)
def FM:List mX->List Nat
 | []=>[]
 | .tmp t::l=>L0 (FM l) t
 | .cell a _::l=>L0 (FM l) a
end
def oG:Code->List Nat
 | .region _ ops _=>ops.toList.filterMap fun o=>match o.op with
  | .call c=>match c.callee with
   | .value (.func f)=>some f
   | _=>none
  | _=>none
 | .seq a b=>oG a++oG b
 | .cond _ a b=>oG a++oG b
 | .block _ b=>oG b
 | .loop b=>oG b
 | _=>[]
def uT:Code->List Nat
 | .region _ ops _=>ops.toList.filterMap fun o=>match o.op with
  | .makeFunc (.func f) _ _=>some f
  | _=>none
 | .seq a b=>uT a++uT b
 | .cond _ a b=>uT a++uT b
 | .block _ b=>uT b
 | .loop b=>uT b
 | _=>[]
def ranges:Code->Bool
 | .rangeFunc _ _ _ _=>true
 | .seq a b=>ranges a||ranges b
 | .cond _ a b=>ranges a||ranges b
 | .block _ b=>ranges b
 | .loop b=>ranges b
 | _=>false
def acq(P:Program)(c:Code):Option (Nat×fG):=
 if ranges c then
  ((oG c).findSome? fun h=>((P.funcs[h]?).bind (·.body)).bind fun d=>(uT d).head?).bind fun g=>(P.funcs[g]?).bind fun fg=>fg.body.bind fun d=>
   if fg.results.isEmpty && fg.name != "runtime.NumGoroutine" then (comp P fg.ntmps none [] [] d []).map fun p => (g, p.1) else none
 else none
def iH(P:Program)(f:Func):Option AFn:=
 (qT P f.results.toList).bind fun rs=>f.body.bind fun c=>(FL P f.ntmps (acq P c) (FM rs) c).map fun p=>⟨p.1,rs⟩
end AM
namespace AM
open Go Go.RowKit
structure Bx where
 b:Nat
 o:Nat
 own:Bool
 gen:Nat
 known:Nat
 size:Nat
structure Emb where
 fn:Nat->Option Bx
 y:Nat
instance:CoeFun Emb fun _=>Nat->Option Bx:=⟨Emb.fn⟩
def Emb.name(X:Emb):Fn->Fn
 | .yield _=>.yield X.y
 | g=>g
def gq(R:Value->Value->Prop)(l m:List Value):Prop:=l.length=m.length/\∀ (i:Nat) (v u:Value),l[i]?=some v->m[i]?=some u->R v u
theorem gq.get{R:Value->Value->Prop}{l m:List Value}(h:gq R l m){i:Nat}{v:Value}(hv:l[i]?=some v):∃ u,m[i]?=some u/\R v u:=by
 have hi:i < l.length:=(af.1 hv).1;have hm:i < m.length:=by rw[<- h.1];exact hi
 exact⟨m[i],aq hm,h.2 i v _ hv (aq hm)⟩
theorem gq.mono{R R':Value->Value->Prop}{l m:List Value}(h:gq R l m)(f:∀ v∈l,∀ u,R v u->R' v u):gq R' l m:=
 ⟨h.1,fun i v u hv hu=>f v (aW hv) u (h.2 i v u hv hu)⟩
theorem gq.nil{R:Value->Value->Prop} : gq R [] []:=⟨rfl,fun i v u h=>by simp at h⟩
theorem gq.cons{R:Value->Value->Prop}{v u:Value}{l m:List Value}(h:R v u)(hl:gq R l m):gq R (v::l) (u::m):=
 ⟨by simp[hl.1],fun i a b ha hb=>by
  cases i with
  | zero=>simp at ha hb;subst ha;subst hb;exact h
  | succ i=>exact hl.2 i a b (by simpa using ha) (by simpa using hb)⟩
theorem gq.head{R:Value->Value->Prop}{v:Value}{l m:List Value}(h:gq R (v::l) m):∃ u m',m=u::m'/\R v u/\gq R l m':=by
 cases m with
 | nil=>have:=h.1;simp at this
 | cons u m'=>exact⟨u,m',rfl,h.2 0 v u rfl rfl,by have:=h.1;simpa using this,fun i a b ha hb=>h.2 (i+1) a b (by simpa using ha) (by simpa using hb)⟩
theorem gq.L4{R:Value->Value->Prop}{m:List Value}(h:gq R [] m):m=[]:=bp (by have:=h.1;simpa using this.symm)
theorem gq.append{R:Value->Value->Prop}{l m l' m':List Value}(h:gq R l m)(h':gq R l' m'):gq R (l++l') (m++m'):=by
 refine⟨by simp[h.1,h'.1],fun i v u hv hu=>?_⟩;rcases bu i l.length with hi | hi
 ·rw[aA hi] at hv;rw[aA (by rw[<- h.1];exact hi)] at hu;exact h.2 i v u hv hu
 ·rw[aM hi] at hv;rw[aM (by rw[<- h.1];exact hi),<- h.1] at hu;exact h'.2 _ v u hv hu
theorem gq.take{R:Value->Value->Prop}{l m:List Value}(h:gq R l m)(n:Nat):gq R (l.take n) (m.take n):=
 ⟨by simp[h.1],fun i v u hv hu=>by
  rw[List.getElem?_take] at hv hu;split at hv
  ·rename_i hi;simp only[hi,if_true] at hu;exact h.2 i v u hv hu
  ·cases hv⟩
theorem gq.drop{R:Value->Value->Prop}{l m:List Value}(h:gq R l m)(n:Nat):gq R (l.drop n) (m.drop n):=
 ⟨by simp[h.1],fun i v u hv hu=>by rw[eS] at hv hu;exact h.2 _ v u hv hu⟩
theorem gq.set{R:Value->Value->Prop}{l m:List Value}(h:gq R l m)(i:Nat){v u:Value}(hv:R v u):gq R (l.set i v) (m.set i u):=
 ⟨by simp[h.1],fun j a b ha hb=>by
  rw[cr] at ha hb;split at ha
  ·rename_i hij;subst hij;split at ha
   ·rename_i hl;rw[if_pos rfl,if_pos (by rw[<- h.1];exact hl)] at hb;cases ha;cases hb;exact hv
   ·cases ha
  ·rename_i hij;rw[if_neg hij] at hb;exact h.2 j a b ha hb⟩
theorem gq.putAt{R:Value->Value->Prop} : ∀ {vs us:List Value} {l m:List Value} (off:Nat),gq R l m->gq R vs us->gq R (putAt l off vs) (AM.putAt m off us)
 | [],us,l,m,off,h,h'=>by rw[h'.L4];exact h
 | v::vs,us,l,m,off,h,h'=>by obtain⟨u,us',rfl,hu,ht⟩:=h'.head;exact gq.putAt (off+1) (h.set off hu) ht
theorem gq.refl{R:Value->Value->Prop}{l:List Value}(h:∀ v∈l,R v v):gq R l l:=
 ⟨rfl,fun i v u hv hu=>by rw[hv] at hu;cases hu;exact h v (aW hv)⟩
def qi(X:Emb)(a ra:Addr):Prop:=∃ bx,X a.block=some bx/\∃ s,a.spot=some s/\s<=bx.gen/\(s=bx.gen->ra=⟨bx.b,bx.o+a.off,none⟩)
def nU(e:Nat)(bx:Bx)(off n c:Nat):Prop:=if e=1048577\/e=1048578 then (e=1048578->c=n) else (bx.known<=off+c*e/\off+c*e<=bx.size)
theorem nU.of{e:Nat}{bx:Bx}{off n c:Nat}(he:e<=1048576)(h:bx.known<=off+c*e/\off+c*e<=bx.size):nU e bx off n c:=by unfold nU;rw[if_neg om];exact h
theorem nU.get{e:Nat}{bx:Bx}{off n c:Nat}(he:e<=1048576)(h:nU e bx off n c):bx.known<=off+c*e/\off+c*e<=bx.size:=by unfold nU at h;rwa [if_neg om] at h
theorem nU.full{bx:Bx}{off n c:Nat}(h:nU 1048578 bx off n c):c=n:=by unfold nU at h;rw[if_pos (.inr rfl)] at h;exact h rfl
def n3(X:Emb)(a:Addr)(n e:Nat)(ra:Addr)(c:Nat):Prop:=
 n<=c/\c<=maxLen/\∃ bx,X a.block=some bx/\∃ s,a.spot=some s/\s<=bx.gen /\
  (s=bx.gen->((0 < n\/a.off=0\/0 < c)->ra=⟨bx.b,bx.o+a.off,none⟩)/\(0 < e->nU e bx a.off n c))
def gL(X:Emb)(v u:Value):Prop:=
 match v with
 | .pointer (some a)=>∃ ra,u=.pointer (some ra)/\qi X a ra
 | .slice (some a) n e=>∃ ra c,u=.slice (some ra) n c/\n3 X a n e ra c
 | .iface t (.pointer (some a))=>∃ ra,u=.iface t (.pointer (some ra))/\qi X a ra
 | .chan none=>∃ n,u=.int .u8 n
 | v=>sc v=true/\u=v
def Y8(X:Emb):Option Nat->Option Nat->Prop
 | none,q=>q=none
 | some r,q=>∃ b bx,q=some b/\X r=some bx/\(bx.gen=0->bx.b=b)
def lg(X:Emb)(v u:Value):Prop:=
 match v with
 | .agg cs=>∃ rs,u=.agg rs/\gq (gL X) cs.toList rs.toList
 | .func g fi ca=>∃ rf rc,u=.func (X.name g) rf rc/\gq (gL X) fi.toList rf.toList/\gq (gL X) ca.toList rc.toList
 | .map o=>∃ q,u=.map q/\Y8 X o q
 | v=>gL X v u
structure sB(X:Emb)(es:List (Value×Value))(res:List MapEntry):Prop where
 len:es.length=res.length
 nd:(res.map (·.key)).Nodup
 fwd:∀ p∈es,(cellsOf p.1).all sc=true/\held p.2=true/\∃ e∈res,e.key=p.1/\lg X p.2 e.val
 bwd:∀ e∈res,∃ p∈es,e.key=p.1
def fN(X:Emb)(v u:Value):Prop:=
 match v with
 | .tuple vs=>∃ rs,u=.tuple rs/\gq (lg X) vs.toList rs.toList
 | v=>lg X v u
structure Evo(X X':Emb):Prop where
 up:∀ id bx,X id=some bx->∃ bx',X' id=some bx'/\(bx'=bx\/bx.gen < bx'.gen)
 y:X'.y=X.y
theorem Evo.mk'{X X':Emb}(y:X'.y=X.y)(h:∀ id bx,X id=some bx->∃ bx',X' id=some bx'/\(bx'=bx\/bx.gen < bx'.gen)):Evo X X':=⟨h,y⟩
theorem Emb.T3{X X':Emb}(e:Evo X X')(g:Fn):X'.name g=X.name g:=by cases g<;>simp[Emb.name,e.y]
theorem Evo.refl(X:Emb):Evo X X:=⟨fun _ bx h=>⟨bx,h,.inl rfl⟩,rfl⟩
theorem Evo.trans{X Y Z:Emb}(h:Evo X Y)(k:Evo Y Z):Evo X Z:=⟨fun id bx hx=>by
 obtain⟨by',hy,e⟩:=h.up id bx hx;obtain⟨bz,hz,e'⟩:=k.up id by' hy;refine⟨bz,hz,?_⟩;rcases e with rfl | e<;>rcases e' with rfl | e'
 ·exact .inl rfl
 ·exact .inr e'
 ·exact .inr e
 ·exact .inr om,k.y.trans h.y⟩
theorem qi.evo{X X':Emb}{a ra:Addr}(h:qi X a ra)(e:Evo X X'):qi X' a ra:=by
 obtain⟨bx,hx,s,hs,hl,hr⟩:=h;obtain⟨bx',hx',e'⟩:=e.up _ _ hx;refine⟨bx',hx',s,hs,?_⟩;rcases e' with rfl | e'
 ·exact⟨hl,hr⟩
 ·exact⟨om,fun h=>by omega⟩
theorem n3.evo{X X':Emb}{a ra:Addr}{n e c:Nat}(h:n3 X a n e ra c)(ev:Evo X X'):n3 X' a n e ra c:=by
 obtain⟨hn,hm,bx,hx,s,hs,hl,hr⟩:=h;obtain⟨bx',hx',e'⟩:=ev.up _ _ hx;refine⟨hn,hm,bx',hx',s,hs,?_⟩;rcases e' with rfl | e'
 ·exact⟨hl,hr⟩
 ·exact⟨om,fun h=>by omega⟩
theorem iR{X:Emb}{v u:Value}(h:sc v=true):gL X v u↔u=v:=by
 unfold gL;split
 ·simp[sc] at h
 ·simp[sc] at h
 ·simp[sc] at h
 ·simp[sc] at h
 ·simp[h]
theorem gL.evo{X X':Emb}{v u:Value}(h:gL X v u)(e:Evo X X'):gL X' v u:=by
 unfold gL at *;split
 ·obtain⟨ra,h1,h2⟩:=h;exact⟨ra,h1,h2.evo e⟩
 ·obtain⟨ra,c,h1,h2⟩:=h;exact⟨ra,c,h1,h2.evo e⟩
 ·obtain⟨ra,h1,h2⟩:=h;exact⟨ra,h1,h2.evo e⟩
 ·exact h
 ·rename_i h1 h2 h3 h4;split at h
  ·exact absurd rfl (h1 _)
  ·exact absurd rfl (h2 _ _ _)
  ·exact absurd rfl (h3 _ _)
  ·exact absurd rfl h4
  ·exact h
theorem Y8.evo{X X':Emb}{o q:Option Nat}(h:Y8 X o q)(e:Evo X X'):Y8 X' o q:=by
 cases o with
 | none=>exact h
 | some r=>
  obtain⟨b,bx,h1,h2,h3⟩:=h;obtain⟨bx',hx',e'⟩:=e.up _ _ h2;refine⟨b,bx',h1,hx',?_⟩;rcases e' with rfl | e'
  ·exact h3
  ·exact fun h=>by omega
theorem lg.evo{X X':Emb}{v u:Value}(h:lg X v u)(e:Evo X X'):lg X' v u:=by
 cases v<;>simp only[lg] at*<;> first
  | exact gL.evo h e
  | (obtain⟨q,h1,h2⟩:=h;exact⟨q,h1,h2.evo e⟩)
  | (obtain⟨rs,h1,h2⟩:=h;exact⟨rs,h1,h2.mono fun _ _ _ h=>gL.evo h e⟩)
  | (obtain⟨rf,rc,h1,h2,h3⟩:=h;exact⟨rf,rc,by rw[Emb.T3 e];exact h1,h2.mono fun _ _ _ h=>gL.evo h e,h3.mono fun _ _ _ h=>gL.evo h e⟩)
theorem sB.evo{X X':Emb}{es:List (Value×Value)}{res:List MapEntry}(h:sB X es res)(e:Evo X X'):sB X' es res:=
 ⟨h.len,h.nd,fun p hp=>by obtain⟨h1,h0,q,hq,h2,h3⟩:=h.fwd p hp;exact⟨h1,h0,q,hq,h2,h3.evo e⟩,h.bwd⟩
theorem fN.evo{X X':Emb}{v u:Value}(h:fN X v u)(e:Evo X X'):fN X' v u:=by
 cases v<;>simp only[fN] at*<;> first
  | exact lg.evo h e
  | (obtain⟨rs,h1,h2⟩:=h;exact⟨rs,h1,h2.mono fun _ _ _ h=>lg.evo h e⟩)
theorem lq{X:Emb}{v u:Value}(h:gL X v u):lg X v u:=by
 cases v<;>simp only[lg]<;>try exact h
 ·rename_i o;cases o with
  | none=>exact⟨none,h.2,rfl⟩
  | some r=>simp[gL,sc] at h
 ·rename_i g fi ca;simp only[gL,sc] at h;obtain⟨h1,rfl⟩:=h;cases g<;>simp at h1;obtain⟨rfl,rfl⟩:=h1;exact⟨#[],#[],rfl,gq.nil,gq.nil⟩
 ·simp[gL,sc] at h
theorem jA{X:Emb}{v u:Value}(h:lg X v u):fN X v u:=by
 cases v<;>simp only[fN]<;>try exact h
 simp[lg,gL,sc] at h
theorem mI{X:Emb}{v u:Value}(h:gL X v u):fN X v u:=jA (lq h)
theorem vH{X:Emb}{v u:Value}(h:lg X v u)(hc:fY v=true):gL X v u:=by
 cases v<;>simp only[lg] at h<;>try exact h
 ·rename_i o;obtain⟨q,rfl,h2⟩:=h;cases o with
  | none=>exact⟨rfl,by rw[show q=none from h2]⟩
  | some r=>simp[fY,sc] at hc
 ·rename_i g fi ca;obtain⟨rf,rc,rfl,h1,h2⟩:=h;cases g<;>simp[fY,sc] at hc;obtain⟨rfl,rfl⟩:=hc;have e1:=h1.L4;have e2:=h2.L4;simp at e1 e2;subst e1;subst e2;exact⟨rfl,rfl⟩
 ·simp[fY,sc] at hc
theorem vI{X:Emb}{v u:Value}(h:fN X v u)(hc:fY v=true):gL X v u:=by
 cases v<;>simp only[fN] at h<;>try exact vH h hc
 simp[fY,sc] at hc
theorem gw{X:Emb}{v u:Value}(h:sc v=true):fN X v u↔u=v:=by refine⟨fun hr=>(iR h).1 (vI hr ?_),fun e=>mI ((iR h).2 e)⟩;unfold fY;split<;>first | rfl | exact h
theorem acr{v:Value}(h:sc v=true):v.oneCell'=true:=by cases v<;>first | rfl | simp[sc] at h
theorem AU{X:Emb}{v u:Value}(h:gL X v u):u.oneCell'=true:=by
 unfold gL at h;split at h
 ·obtain⟨ra,rfl,_⟩:=h;rfl
 ·obtain⟨ra,c,rfl,_⟩:=h;rfl
 ·obtain⟨ra,rfl,_⟩:=h;rfl
 ·obtain⟨n,rfl⟩:=h;rfl
 ·rw[h.2];exact acr h.1
theorem xd{X:Emb}{v u:Value}(h:fN X v u)(hc:(cellsOf v).all fY=true):gq (gL X) (cellsOf v) u.cells.toList:=by
 cases v<;>simp only[fN] at h<;>(try (simp only[cellsOf,ct,dS,dx] at hc;have hr:=vH h hc;have h1:=AU hr;have e:u.cells.toList=[u]:=by cases u<;>first | rfl | simp[Value.oneCell'] at h1))<;>try (simp only[cellsOf];rw[e];exact gq.nil.cons hr|>fun h=>h)
 ·simp only[lg] at h;obtain⟨rs,rfl,h2⟩:=h;exact h2
 ·simp only[cellsOf,ct,dS,dx] at hc;simp[fY,sc] at hc
structure Sim(w0:World)(X:Emb)(σ:St)(w:World):Prop where
 bel:Below w0.heap.size w0 w
 dom:∀ id bx,X id=some bx->id < σ.heap.length
 place:∀ id bx,X id=some bx->bx.b < w.heap.size/\(if bx.own then w0.heap.size<=bx.b else bx.b < w0.heap.size)
 cell:∀ id bx g pl cs,X id=some bx->id∉σ.hid->σ.heap[id]?=some (.cells g pl cs) ->
  g=bx.gen/\cs.length=bx.known/\0<=cs.length/\(pl=true->cs.all sc=true) /\
  (∀ j v,cs[j]?=some v->∃ u,w.cell? ⟨bx.b,bx.o+j,none⟩=some u/\gL X v u) /\
  (bx.own=true->0<=bx.o/\∃ rs ty lo hi,w.heap[bx.b]?=some (.cells rs ty (lo,hi))/\rs.size=bx.o+bx.size/\bx.known<=bx.size/\(hi=lo\/bx.o+bx.size<=lo))
 inj:∀ i j bi bj,X i=some bi->X j=some bj->bi.own=true->bj.own=true->bi.b=bj.b->i=j
 lock:∀ id bx,X id=some bx->σ.lock<=id->bx.own=true
 zero:∀ id bx,X id=some bx->bx.known=0->bx.size=0
 j4:∀ id bx es,X id=some bx->id∉σ.hid->σ.heap[id]?=some (.map es)->bx.gen=0/\bx.own=true/\∃ res clock,w.heap[bx.b]?=some (.map res clock)/\sB X es res.toList
structure Stp(X:Emb)(σ:St)(w:World)(X':Emb)(w':World):Prop where
 size:w.heap.size<=w'.heap.size
 os:w'.os=w.os
 tape:w'.tape=w.tape
 output:w'.output=w.output
 frame:∀ k,k < w.heap.size->(∀ id bx,X id=some bx->σ.lock<=id->id∉σ.hid->bx.own=true->bx.b≠k)->w'.heap[k]?=w.heap[k]?
 evo:Evo X X'
 same:∀ id bx bx',X id=some bx->X' id=some bx'->bx'=bx\/(σ.lock<=id/\id∉σ.hid)
 back:∀ id bx',X' id=some bx'->(∃ bx,X id=some bx/\bx'.own=bx.own/\(bx'.b=bx.b\/w.heap.size<=bx'.b))\/(X id=none/\bx'.own=true/\w.heap.size<=bx'.b/\σ.heap.length<=id)
structure Ast(σ σ':St):Prop where
 len:σ.heap.length<=σ'.heap.length
 lock:σ'.lock=σ.lock
 hid:σ'.hid=σ.hid
 fA:∀ t,t∈σ.fA->t∈σ'.fA
 refs:∀ id,id < σ.heap.length->id∉σ'.fA->∀ r,r∈fV σ'.heap id->r∈fV σ.heap id
 fix:∀ id,id < σ.heap.length->id < σ.lock\/id∈σ.hid->σ'.heap[id]?=σ.heap[id]?
 AV:∀ t,t∈σ'.fA->t∈σ.fA\/(σ.lock<=t/\t∉σ.hid)
theorem Ast.refl(σ:St):Ast σ σ:=⟨av _,rfl,rfl,fun _ h=>h,fun _ _ _ _ h=>h,fun _ _ _=>rfl,fun _ h=>.inl h⟩
theorem Ast.trans{a b c:St}(h:Ast a b)(k:Ast b c):Ast a c where
 len:=bh h.len k.len
 lock:=k.lock.trans h.lock
 hid:=k.hid.trans h.hid
 fA:=fun t ht=>k.fA t (h.fA t ht)
 refs:=fun id hi hd r hr=>h.refs id hi (fun hb=>hd (k.fA id hb)) r (k.refs id (bg hi h.len) hd r hr)
 fix:=fun id hi hl=>by rw[k.fix id (bg hi h.len) (by rw[h.lock,h.hid];exact hl),h.fix id hi hl]
 AV:=fun t ht=>by
  rcases k.AV t ht with h1 | h1
  ·exact h.AV t h1
  ·rw[h.lock,h.hid] at h1;exact .inr h1
theorem Stp.refl(X:Emb)(σ:St)(w:World):Stp X σ w X w where
 size:=av _
 os:=rfl
 tape:=rfl
 output:=rfl
 frame:=fun _ _ _=>rfl
 evo:=Evo.refl X
 same:=fun id bx bx' h h'=>by rw[h] at h';cases h';exact .inl rfl
 back:=fun id bx' h=>.inl ⟨bx',h,rfl,.inl rfl⟩
theorem Stp.trans'{X Y Z:Emb}{σ τ:St}{u v w:World}(h:Stp X σ u Y v)(al:τ.lock=σ.lock)(ah:τ.hid=σ.hid)(an:σ.heap.length<=τ.heap.length)(k:Stp Y τ v Z w):Stp X σ u Z w where
 size:=bh h.size k.size
 os:=k.os.trans h.os
 tape:=k.tape.trans h.tape
 output:=k.output.trans h.output
 frame:=fun b hb hx=>by
  rw[k.frame b (bg hb h.size) fun id bx' hy hl hh ho e=>?_,h.frame b hb hx];rw[al] at hl;rw[ah] at hh;rcases h.back id bx' hy with ⟨bx,h1,h2,h3⟩ | ⟨_,_,h3,_⟩
  ·rcases h3 with h3 | h3
   ·exact hx id bx h1 hl hh (by rw[<- h2];exact ho) (by rw[<- h3];exact e)
   ·omega
  ·omega
 evo:=h.evo.trans k.evo
 same:=fun id bx bz hx hz=>by
  obtain⟨by',hy,_⟩:=h.evo.up id bx hx;rcases h.same id bx by' hx hy with rfl | h1
  ·rcases k.same id by' bz hy hz with rfl | h2
   ·exact .inl rfl
   ·rw[al,ah] at h2;exact .inr h2
  ·exact .inr h1
 back:=fun id bz hz=>by
  rcases k.back id bz hz with ⟨by',h1,h2,h3⟩ | ⟨h1,h2,h3,h4⟩
  ·rcases h.back id by' h1 with ⟨bx,g1,g2,g3⟩ | ⟨g1,g2,g3,g4⟩
   ·refine .inl ⟨bx,g1,h2.trans g2,?_⟩;rcases h3 with h3 | h3
    ·rw[h3];exact g3
    ·exact .inr (bh h.size h3)
   ·refine .inr ⟨g1,h2.trans g2,?_,g4⟩;rcases h3 with h3 | h3
    ·rw[h3];exact g3
    ·exact bh h.size h3
  ·cases hx:X id with
   | none=>exact .inr ⟨rfl,h2,bh h.size h3,bh an h4⟩
   | some bx=>
    obtain⟨by',hy,_⟩:=h.evo.up id bx hx;rw[hy] at h1;cases h1
theorem Stp.trans{X Y Z:Emb}{σ τ:St}{u v w:World}(h:Stp X σ u Y v)(a:Ast σ τ)(k:Stp Y τ v Z w):Stp X σ u Z w:=h.trans' a.lock a.hid a.len k
end AM
namespace AM
open Go Go.RowKit
section
variable{σ σ':St}{v:Value}{fr:Fr}
theorem Io{a:Addr}{pl:Bool}{cs:List Value}(h:σ.blk a=some (pl,cs)):a.block∉σ.hid/\∃ g,σ.heap[a.block]?=some (.cells g pl cs)/\a.spot=some g:=by
 unfold St.blk at h;split at h
 ·cases h
 ·rename_i hh;split at h
  ·rename_i g pl' cs' e;split at h
   ·rename_i hs;cases h;exact⟨by simpa using hh,g,e,hs⟩
   ·cases h
  ·cases h
theorem l9(b:Blk):Ast σ { σ with heap:=σ.heap++[b] } where
 len:=by simp
 lock:=rfl
 hid:=rfl
 fA:=fun _ h=>h
 refs:=fun id hi _ r hr=>by simpa[fV,aA hi] using hr
 fix:=fun id hi _=>aA hi
 AV:=fun _ h=>.inl h
theorem oy{b:Nat}{vs:List Value} : (∀ t,t∈σ.fA->t∈gm σ b vs)/\(∀ t,t∈gm σ b vs->t∈σ.fA\/t=b)/\(b∉gm σ b vs->vs.all sc=true):=by
 unfold gm;split
 ·rename_i hc;refine⟨fun _ h=>h,fun _ h=>.inl h,fun h=>?_⟩;simp only[bF] at hc;rcases hc with hc | hc
  ·exact hc
  ·exact absurd (by simpa using hc) h
 ·exact⟨fun t h=>by simp[h],fun t h=>by simp at h;exact h.symm,fun h=>by simp at h⟩
theorem AW{v:Value}(h:sc v=true):fJ v=[]:=by unfold fJ;split<;>first | rfl | simp[sc] at h
theorem AX:∀ {vs l:List Value} {off:Nat} {x:Value},x∈putAt l off vs->x∈l\/x∈vs
 | [],l,off,x,h=>.inl h
 | v::vs,l,off,x,h=>by
  have h':x∈putAt (l.set off v) (off+1) vs:=h;rcases AX h' with h | h
  ·rcases eD h with h | h
   ·exact .inl h
   ·exact .inr (by simp[h])
  ·exact .inr (by simp[h])
theorem FN{id g g':Nat}{pl:Bool}{cs cs' vs:List Value}(hlk:σ.lock<=id)(hh:id∉σ.hid)(hc:σ.heap[id]?=some (.cells g pl cs))(hm:∀ x∈cs',x∈cs\/x∈vs) :
  Ast σ { σ with heap:=σ.heap.set id (.cells g' pl cs'),fA:=gm σ id vs }:=by
 have hlen:id < σ.heap.length:=(af.1 hc).1;refine⟨by simp,rfl,rfl,oy.1,fun j hj hnd r hr=>?_,fun j hj hl=>?_,fun t ht=>?_⟩
 ·by_cases hji:j=id
  ·subst hji;have hsc:=oy.2.2 hnd;unfold fV at hr ⊢;rw[aD hlen] at hr;rw[hc];cases pl with
   | true=>simp[iN] at hr
   | false=>
    simp only[iN,aY] at hr ⊢;obtain⟨x,hx,hr⟩:=hr;rcases hm x hx with h' | h'
    ·exact⟨x,h',hr⟩
    ·rw[AW (aF.1 hsc x h')] at hr;cases hr
  ·unfold fV at hr ⊢;rwa [aZ (Ne.symm hji)] at hr
 ·refine aZ fun e=>?_;subst e;rcases hl with hl | hl
  ·omega
  ·exact hh hl
 ·rcases oy.2.1 t ht with h | rfl
  ·exact .inl h
  ·exact .inr ⟨hlk,hh⟩
theorem tS{a:Addr}{vs:List Value}(h:σ.write a vs=some σ'):Ast σ σ':=by
 unfold St.write at h;split at h
 ·cases h
 ·rename_i hlk;simp only[aa] at h;obtain⟨⟨pl,cs⟩,hb,h⟩:=h;simp only at h;obtain⟨hh,g,hg,_⟩:=Io hb;split at h
  ·rw[hg] at h;simp only[ay] at h;subst h;exact FN om hh hg fun x hx=>AX hx
  ·cases h
theorem L5{pl:Bool}{esz m:Nat}{x:Value}{vs:List Value}(h:σ.append pl esz x m vs=some (v,σ')):Ast σ σ':=by
 unfold St.append at h;split at h
 ·split at h
  ·cases h;exact Ast.refl _
  ·split at h
   ·cases h;exact l9 _
   ·cases h
 ·split at h
  ·cases h;exact Ast.refl _
  ·split at h
   ·split at h
    ·split at h
     ·cases h;exact l9 _
     ·cases h
    ·split at h
     ·simp only[aa] at h;obtain⟨⟨pl',cs⟩,hb,h⟩:=h;simp only at h;split at h
      ·cases h;exact l9 _
      ·cases h
     ·cases h
   ·rename_i hlk;simp only[bF,decide_eq_true_eq,not_or] at hlk;simp only[aa] at h;obtain⟨⟨pl',cs⟩,hb,h⟩:=h;simp only at h;obtain⟨hh,g,hg,_⟩:=Io hb;split at h
    ·split at h
     ·split at h
      ·cases h;exact FN om hh hg fun x hx=>aP.1 hx
      ·split at h
       ·cases h;exact FN om hh hg fun x hx=>(aP.1 hx).imp (fun h=>eE h) id
       ·cases h
     ·split at h
      ·simp only[aj] at h;obtain⟨σ1,hw,h⟩:=h;cases h;exact tS hw
      ·cases h
    ·cases h
 ·cases h
def gK(fz:fD):Prop:=∀ g args σ v σ',σ.lock<=σ.heap.length->fz g args σ=some (v,σ')->Ast σ σ'
theorem Ip{r:Nat}{es:List (Value×Value)}(h:σ.oE r=some es):r∉σ.hid/\σ.heap[r]?=some (.map es):=by
 unfold St.oE at h;split at h
 ·cases h
 ·rename_i hh;split at h
  ·rename_i es' e;cases h;exact⟨by simpa using hh,e⟩
  ·cases h
theorem T4{v:Value}(h:sc v=true):fU v=[]:=by
 unfold fU;split
 ·simp[sc] at h
 ·rename_i g fi ca;cases g<;>simp[sc] at h;obtain⟨rfl,rfl⟩:=h;rfl
 ·exact AW h
theorem Iq{r:Nat}{es:List (Value×Value)}{k x:Value}(hlk:¬ r < σ.lock)(h:σ.oE r=some es):Ast σ { σ with heap:=σ.heap.set r (.map (es++[(k,x)])),fA:=gm σ r [x] }:=by
 obtain⟨hh,hc⟩:=Ip h;have hlen:r < σ.heap.length:=(af.1 hc).1;refine⟨by simp,rfl,rfl,oy.1,fun j hj hnd q hq=>?_,fun j hj hl=>?_,fun t ht=>?_⟩
 ·by_cases hji:j=r
  ·subst hji;have hsc:=oy.2.2 hnd;unfold fV at hq ⊢;rw[aD hlen] at hq;rw[hc];simp only[iN,List.flatMap_append,aP,dV,dK,bB] at hq ⊢;rcases hq with hq | hq
   ·exact hq
   ·rw[T4 (by simpa using hsc)] at hq;cases hq
  ·unfold fV at hq ⊢;rwa [aZ (Ne.symm hji)] at hq
 ·refine aZ fun e=>?_;subst e;rcases hl with hl | hl
  ·omega
  ·exact hh hl
 ·rcases oy.2.1 t ht with h | rfl
  ·exact .inl h
  ·exact .inr ⟨om,hh⟩
theorem lu{fz:fD}{ao:AOp}(hcf:gK fz)(hl:σ.lock<=σ.heap.length)(h:aop fz ao fr σ=some (v,σ')):Ast σ σ':=by
 have T5:∀ p:AOp,(gD p fr).map (fun v=>(v,σ))=some (v,σ')->Ast σ σ':=fun p h=>by simp only[aj] at h;obtain⟨u,_,h⟩:=h;cases h;exact Ast.refl _
 cases ao<;>simp only[aop] at h<;>first
  | exact T5 _ h
  | skip
 case native k=>
  simp only[aj] at h;obtain⟨u,_,h⟩:=h;cases h;exact Ast.refl _
 case alloc pl zs=>cases h;exact l9 _
 case box pl x=>
  simp only[aa] at h;obtain⟨p,_,h⟩:=h;split at h
  ·cases h;exact l9 _
  ·cases h
 case gV pl esz n zs ps=>
  simp only[aa] at h;obtain⟨p,_,cs,_,h⟩:=h;split at h
  ·cases h;exact l9 _
  ·cases h
 case load n a=>
  split at h
  ·simp only[aa,aj] at h;obtain⟨p,_,u,_,h⟩:=h;cases h;exact Ast.refl _
  ·cases h
 case store n a x=>
  simp only[aa] at h;obtain⟨p,_,h⟩:=h;split at h
  ·split at h
   ·simp only[aj] at h;obtain⟨σ1,hw,h⟩:=h;cases h;exact tS hw
   ·cases h
  ·cases h
 case Dw x=>
  split at h
  ·split at h
   ·cases h;exact l9 _
   ·cases h
  ·cases h
 case AP x=>
  split at h
  ·cases h;exact Ast.refl _
  ·simp only[aa] at h;obtain⟨p,_,h⟩:=h;split at h
   ·simp only[aj] at h;obtain⟨l,_,h⟩:=h;cases h;exact Ast.refl _
   ·cases h
  ·cases h
 case mark x=>
  split at h
  ·split at h
   ·cases h
   ·simp only[aj] at h;obtain⟨p,_,h⟩:=h;cases h;exact Ast.refl _
  ·cases h
 case l7 pl esz zs l c=>
  simp only[aa] at h;obtain⟨p,_,q,_,l',_,c',_,h⟩:=h;split at h
  ·cases h;exact l9 _
  ·cases h
 case call f args=>
  simp only[aa] at h;obtain⟨vs,_,h⟩:=h;exact hcf _ _ _ _ _ hl h
 case iP x args=>
  simp only[aa] at h;obtain⟨q,_,vs,_,h⟩:=h;split at h
  ·split at h
   ·cases h
   ·exact hcf _ _ _ _ _ hl h
  ·cases h
 case append pl esz x y=>
  simp only[aa] at h;obtain⟨p,_,q,_,r,_,h⟩:=h;exact L5 h
 case n6 x n=>
  simp only[aa] at h;obtain⟨p,_,q,_,h⟩:=h;unfold FG at h;split at h
  ·split at h
   ·cases h;exact Ast.refl _
   ·split at h
    ·cases h;exact l9 _
    ·cases h
  ·cases h
 case copy esz x y=>
  simp only[aa] at h;obtain⟨p,_,q,_,r,_,h⟩:=h;split at h
  ·cases h;exact Ast.refl _
  ·split at h
   ·cases h;exact Ast.refl _
   ·simp only[aj] at h;obtain⟨σ1,hw,h⟩:=h;cases h;exact tS hw
  ·cases h
 case clear esz zs x=>
  split at h
  ·cases h;exact Ast.refl _
  ·split at h
   ·cases h;exact Ast.refl _
   ·simp only[aj] at h;obtain⟨σ1,hw,h⟩:=h;cases h;exact tS hw
  ·cases h
 case nI=>cases h;exact l9 _
 case Dx tbl x args=>
  simp only[aa] at h;obtain⟨q,_,vs,_,h⟩:=h;split at h
  ·simp only[aa] at h;obtain⟨f,_,h⟩:=h;exact hcf _ _ _ _ _ hl h
  ·cases h
 case Dy x c=>
  simp only[aa] at h;obtain⟨q,_,p,_,h⟩:=h;split at h
  ·cases h;exact Ast.refl _
  ·simp only[aa] at h;obtain⟨r,_,h⟩:=h;split at h
   ·simp only[aj] at h;obtain⟨i,_,h⟩:=h;cases h;exact Ast.refl _
   ·cases h
  ·cases h
 case Ij n=>
  split at h
  ·split at h
   ·cases h;exact l9 _
   ·cases h
  ·cases h
 case jN ag sh m k x=>
  simp only[aa] at h;obtain⟨p,_,q,_,x',_,h⟩:=h;split at h
  ·split at h
   ·cases h
   ·rename_i hlk;simp only[aa] at h;obtain⟨es,he,f,_,h⟩:=h;split at h
    ·cases h;exact Iq hlk he
    ·cases h
  ·cases h
 case AR ag sh z ok m k=>
  simp only[aa] at h;obtain⟨p,_,q,_,h⟩:=h;split at h
  ·simp only[aa] at h;obtain⟨es,he,f,_,h⟩:=h;split at h
   ·cases h;exact Ast.refl _
   ·cases h
  ·cases h
 case AS m=>
  simp only[aa] at h;obtain⟨p,_,h⟩:=h;split at h
  ·simp only[aj] at h;obtain⟨es,he,h⟩:=h;cases h;exact Ast.refl _
  ·cases h
theorem AY{fz:fD}(hcf:gK fz):∀ (l:List fB) (fr:Fr) (σ:St) (fr':Fr) (σ':St),σ.lock<=σ.heap.length->lI fz l fr σ=some (fr',σ')->Ast σ σ'
 | [],fr,σ,fr',σ',_,h=>by
  simp only[lI,ay,bT] at h;rw[<- h.2];exact Ast.refl _
 | o::l,fr,σ,fr',σ',hl,h=>by
  simp only[lI,aa] at h;obtain⟨b,_,h⟩:=h;cases b with
  | true=>
   simp only[if_true,aa] at h;obtain⟨⟨v,σ1⟩,h1,h2⟩:=h;have a1:=lu hcf hl h1;exact a1.trans (AY hcf l _ _ _ _ (by rw[a1.lock];exact bh hl a1.len) h2)
  | false=>
   simp only[aO,if_false] at h;exact AY hcf l _ _ _ _ hl h
theorem Ast.unlock{τ:St}{L:Nat}{H:List Nat}(hL:σ.lock<=L)(h:Ast { σ with lock:=L,hid:=H++σ.hid } τ):Ast σ { τ with lock:=σ.lock,hid:=σ.hid } where
 len:=h.len
 lock:=rfl
 hid:=rfl
 fA:=h.fA
 refs:=h.refs
 fix:=fun id hi hk=>h.fix id hi (by
  simp only[aP];rcases hk with hk | hk
  ·left;omega
  ·exact .inr (.inr hk))
 AV:=fun t ht=>by
  rcases h.AV t ht with h1 | ⟨h1,h2⟩
  ·exact .inl h1
  ·simp only[aP,not_or] at h1 h2;exact .inr ⟨om,h2.2⟩
theorem AZ{fz:fD}(hcf:gK fz):∀ (l:List fB) (born:List (Nat×Nat×Nat)) (j:Nat) (fr:Fr) (σ:St) (fr':Fr) (σ':St),σ.lock<=σ.heap.length->lK fz born j l fr σ=some (fr',σ')->Ast σ σ'
 | [],born,j,fr,σ,fr',σ',_,h=>by
  simp only[lK,ay,bT] at h;rw[<- h.2];exact Ast.refl _
 | o::l,born,j,fr,σ,fr',σ',hl,h=>by
  simp only[lK,aa] at h;obtain⟨b,_,h⟩:=h;cases b with
  | true=>
   simp only[if_true,aa] at h;obtain⟨⟨v,σ1⟩,h1,h2⟩:=h;have a0:=lu hcf (lJ hl).2 h1;have a1:=Ast.unlock (lJ hl).1 a0;exact a1.trans (AZ hcf l _ _ _ _ _ _ (by rw[a1.lock];exact bh hl a1.len) h2)
  | false=>
   simp only[aO,if_false] at h;exact AZ hcf l _ _ _ _ _ _ hl h
theorem acs{base:Nat}{vs vs':List Value}(h:gc base vs σ=some (vs',σ')):σ'.lock=σ.lock/\σ'.hid=σ.hid/\(base<=σ.heap.length->base<=σ'.heap.length)/\(∀ t,t < base->(t∈σ'.fA↔t∈σ.fA))/\(∀ t,t∈σ'.fA->t∈σ.fA)/\(∀ id,id < base->id∉σ.fA->σ'.heap[id]?=σ.heap[id]?):=by
 have rl:∀ (f:Nat->Nat) (l:List Nat) (h:List Blk),(jq f l h).length=h.length:=fun f l=>by
  induction l with
  | nil=>intro h;rfl
  | cons t l ih=>intro h;rw[jq,ih];simp
 have rn:∀ (f:Nat->Nat) (l:List Nat) (h:List Blk) (i:Nat),i∉l->(jq f l h)[i]?=h[i]?:=fun f l=>by
  induction l with
  | nil=>intro h i _;rfl
  | cons t l ih=>
   intro h i hi;simp only[aJ,not_or] at hi;rw[jq,ih _ i hi.2,dz];have:¬ t=i:=fun e=>hi.1 e.symm;simp[this]
 unfold gc at h;split at h
 ·cases h;exact⟨rfl,rfl,fun h=>h,fun _ _=>Iff.rfl,fun _ h=>h,fun _ _ _=>rfl⟩
 ·simp only at h;split at h
  ·cases h;exact⟨rfl,rfl,fun _=>by simp;omega,fun t ht=>by simp[ht],fun t h=>by simp at h;exact h.1,fun id hi _=>by simp[hi]⟩
  ·unfold qN at h;simp only at h;split at h
   ·cases h;refine⟨rfl,rfl,fun _=>by simp[rl];omega,fun t ht=>by simp[ht],fun t h=>by simp at h;exact h.1,fun id hi hd=>?_⟩;rw[aA (by rw[rl];simp;omega),rn _ _ _ _ (by simp[hd])];exact bX hi
   ·cases h
theorem Ast.gc{τ0 τ1 τ2:St}{vs vs':List Value}(h:Ast τ0 τ1)(hd:τ0.fA=[])(hg:AM.gc τ0.heap.length vs τ1=some (vs',τ2)):Ast τ0 τ2:=by
 obtain⟨g1,g2,g3,g4,g5,g6⟩:=acs hg;refine⟨g3 h.len,g1.trans h.lock,g2.trans h.hid,fun t ht=>(by rw[hd] at ht;cases ht),fun id hi hn r hr=>?_,fun id hi hk=>?_,fun t ht=>h.AV t (g5 t ht)⟩
 ·have hn':id∉τ1.fA:=fun e=>hn ((g4 id hi).2 e);refine h.refs id hi hn' r ?_;unfold fV at hr ⊢;rwa [g6 id hi hn'] at hr
 ·have hn':id∉τ1.fA:=fun e=>by
   rcases h.AV id e with h1 | ⟨h1,h2⟩
   ·rw[hd] at h1;cases h1
   ·rcases hk with hk | hk
    ·omega
    ·exact h2 hk
  rw[g6 id hi hn',h.fix id hi hk]
theorem sC:∀ (b a:List Nat) (t:Nat),t∈fX a b↔t∈a\/t∈b
 | [],a,t=>by simp[fX]
 | d::b,a,t=>by
  unfold fX;split
  ·rename_i hc;rw[sC b a t];simp only[eF,decide_eq_true_eq] at hc;constructor
   ·rintro(h | h)
    ·exact .inl h
    ·exact .inr (by simp[h])
   ·rintro(h | h)
    ·exact .inl h
    ·rcases aJ.1 h with rfl | h
     ·exact .inl hc
     ·exact .inr h
  ·rw[sC b (d::a) t];simp only[aJ];constructor
   ·rintro((rfl | h) | h)
    ·exact .inr (.inl rfl)
    ·exact .inl h
    ·exact .inr (.inr h)
   ·rintro(h | rfl | h)
    ·exact .inl (.inr h)
    ·exact .inl (.inl rfl)
    ·exact .inr h
theorem Ast.join{τ:St}(h:Ast { σ with fA:=[] } τ):Ast σ { τ with fA:=fX σ.fA τ.fA } where
 len:=h.len
 lock:=h.lock
 hid:=h.hid
 fA:=fun t ht=>(sC _ _ _).2 (.inl ht)
 refs:=fun id hi hn r hr=>h.refs id hi (fun e=>hn ((sC _ _ _).2 (.inr e))) r hr
 fix:=h.fix
 AV:=fun t ht=>by
  rcases(sC _ _ _).1 ht with h1 | h1
  ·exact .inl h1
  ·rcases h.AV t h1 with h2 | h2
   ·cases h2
   ·exact .inr h2
theorem Ir{base:Nat}{fr fr':Fr}(h:kS base fr σ=some (fr',σ')):∃ vs,gc base (fr.map (·.2)) σ=some (vs,σ')/\fr'=(fr.map (·.1)).zip vs:=by simp only[kS,aj] at h;obtain⟨⟨vs,σ1⟩,h1,h2⟩:=h;cases h2;exact⟨vs,h1,rfl⟩
theorem Is{body:Fr->St->Option (Ex×Fr×St)}{live:List Nat}{τ0:St}(hd:τ0.fA=[])(hb:∀ fr σ e fr' σ',σ.lock<=σ.heap.length->body fr σ=some (e,fr',σ')->Ast σ σ'):∀ (n:Nat) (fr:Fr) (σ:St) (e:Ex) (fr':Fr) (σ':St),Ast τ0 σ->τ0.lock<=τ0.heap.length ->
  iter body live τ0.heap.length n fr σ=some (e,fr',σ')->Ast τ0 σ'
 | 0,_,_,_,_,_,_,_,h=>by simp[iter] at h
 | n+1,fr,σ,e,fr',σ',h0,hl,h=>by
  simp only[iter,aa] at h;obtain⟨⟨e1,fr1,σ1⟩,h1,h⟩:=h;have a1:=h0.trans (hb _ _ _ _ _ (by rw[h0.lock];exact bh hl h0.len) h1);split at h
  ·simp only[aa] at h;obtain⟨⟨fr2,σ2⟩,h2,h⟩:=h;obtain⟨vs,g1,_⟩:=Ir h2;exact Is hd hb n _ _ _ _ _ (a1.gc hd g1) hl h
  ·cases h;exact a1
theorem uU:gK iQ:=fun g args σ v σ' _ h=>by simp[iQ] at h
theorem vJ{fz:fD}(hcf:gK fz){m:Bool}{B:List Nat} : ∀ (l:List fB) (seen:List (Bool×Nat)) (fr:Fr) (σ:St) (fr':Fr) (σ':St),σ.lock<=σ.heap.length->j3 fz m B seen l fr σ=some (fr',σ')->Ast σ σ'
 | [],seen,fr,σ,fr',σ',hl,h=>by simp only[j3,ay,bT] at h;rw[h.2];exact Ast.refl _
 | o::l,seen,fr,σ,fr',σ',hl,h=>by
  simp only[j3,aa] at h;obtain⟨b,_,h⟩:=h;cases b with
  | false=>
   simp only[aO,if_false] at h;exact vJ hcf l _ _ _ _ _ hl h
  | true=>
   simp only[if_true] at h;split at h
   ·split at h
    ·simp only[aa] at h;obtain⟨⟨v,σ1⟩,h1,h2⟩:=h;have a0:=lu hcf (σ:={ σ with hid:=B++σ.hid }) hl h1;have a1:=Ast.unlock (L:=σ.lock) (av _) a0;have e:({ σ1 with lock:=σ.lock,hid:=σ.hid } : St) = { σ1 with hid:=σ.hid }:=by rw[<- a0.lock]
     rw[e] at a1;exact a1.trans (vJ hcf l _ _ _ _ _ (by rw[a1.lock];exact bh hl a1.len) h2)
    ·cases h
   ·simp only[aa] at h;obtain⟨tg,_,h⟩:=h;split at h
    ·simp only[aa] at h;obtain⟨⟨v,σ1⟩,h1,h2⟩:=h;have a1:=lu uU hl h1;exact a1.trans (vJ hcf l _ _ _ _ _ (by rw[a1.lock];exact bh hl a1.len) h2)
    ·cases h
theorem A9{fz:fD}(hcf:gK fz){n:Nat} : ∀ (l:List fB) (fr:Fr) (σ:St) (fr':Fr) (σ':St),σ.lock<=σ.heap.length->qO fz n l fr σ=some (fr',σ')->Ast σ σ'
 | [],fr,σ,fr',σ',_,h=>by
  simp only[qO,ay,bT] at h;rw[<- h.2];exact Ast.refl _
 | o::l,fr,σ,fr',σ',hl,h=>by
  simp only[qO] at h;split at h
  ·simp only[aa] at h;obtain⟨⟨v,σ1⟩,h1,h2⟩:=h;have a1:=lu uU hl h1;exact a1.trans (A9 hcf l _ _ _ _ (by rw[a1.lock];exact bh hl a1.len) h2)
  ·split at h
   ·simp only[aa] at h;obtain⟨⟨v,σ1⟩,h1,h2⟩:=h;split at h2
    ·exact A9 hcf l _ _ _ _ hl h2
    ·cases h2
   ·cases h
theorem pW{fz:fD}{y:List Value->St->Option (Value×St)}(hcf:gK fz)(hy:∀ args (σ:St) v σ',σ.lock<=σ.heap.length->y args σ=some (v,σ')->Ast σ σ'):gK (jh fz y):=fun g args σ v σ' hl h=>by
 cases g with
 | func f=>exact hcf _ _ _ _ _ hl h
 | yield l=>exact hy _ _ _ _ hl h
 | _=>simp[jh] at h
theorem pg{fz:fD}(hcf:gK fz):gK (gE fz):=pW hcf fun _ _ _ _ _ h=>by cases h
theorem OO{τ:St}{z:List Value×St}(h1:Ast { σ with fA:=[] } τ)(h2:gc σ.heap.length [] τ=some z):Ast σ { z.2 with fA:=fX σ.fA z.2.fA }:=
 (h1.gc (τ0:={ σ with fA:=[] }) rfl (vs':=z.1) (τ2:=z.2) h2).join
theorem Ba{ba b:Fr->St->Option (Ex×Fr×St)}{ps:List Nat}{fr:Fr}(ha:∀ fr σ e fr' σ',σ.lock<=σ.heap.length->ba fr σ=some (e,fr',σ')->Ast σ σ')(hb:∀ fr σ e fr' σ',σ.lock<=σ.heap.length->b fr σ=some (e,fr',σ')->Ast σ σ')
  {args:List Value} {v:Value} (hl:σ.lock<=σ.heap.length) (h:jJ ba b ps fr args σ=some (v,σ')):Ast σ σ':=by
 unfold jJ at h;split at h
 ·simp only[aa] at h;obtain⟨⟨e1,fr1,σ1⟩,h1,h⟩:=h;have a1:=ha _ { σ with fA:=[] } _ _ _ hl h1;cases e1 with
  | normal=>
   simp only[aa] at h;obtain⟨⟨e2,fr2,σ2⟩,h2,h⟩:=h;have a2:=a1.trans (hb _ _ _ _ _ (by rw[a1.lock];exact bh hl a1.len) h2);cases e2 with
   | normal=>
    simp only[aj] at h;obtain⟨z,h3,h⟩:=h;cases h;exact OO a2 h3
   | _=>cases h
  | _=>cases h
 ·cases h
theorem kD:∀ (c:fG) {fz:fD} (hcf:gK fz) (n:Nat) (fr:Fr) (σ:St) (e:Ex) (fr':Fr) (σ':St),σ.lock<=σ.heap.length->exec fz n c fr σ=some (e,fr',σ')->Ast σ σ'
 | .skip,fz,hcf,n,fr,σ,e,fr',σ',_,h=>by simp only[exec] at h;cases h;exact Ast.refl _
 | .ret,fz,hcf,n,fr,σ,e,fr',σ',_,h=>by simp only[exec] at h;cases h;exact Ast.refl _
 | .exit _,fz,hcf,n,fr,σ,e,fr',σ',_,h=>by simp only[exec] at h;cases h;exact Ast.refl _
 | .region ops,fz,hcf,n,fr,σ,e,fr',σ',hl,h=>by
  simp only[exec,aj] at h;obtain⟨⟨fr1,σ1⟩,h1,h⟩:=h;cases h;exact AY hcf _ _ _ _ _ hl h1
 | .drawn ops,fz,hcf,n,fr,σ,e,fr',σ',hl,h=>by
  simp only[exec,aj] at h;obtain⟨⟨fr1,σ1⟩,h1,h⟩:=h;cases h;exact AZ (pg hcf) _ _ _ _ _ _ _ hl h1
 | .lits ops,fz,hcf,n,fr,σ,e,fr',σ',hl,h=>by
  simp only[exec,aj] at h;obtain⟨⟨fr1,σ1⟩,h1,h⟩:=h;cases h;exact A9 (pg hcf) _ _ _ _ _ hl h1
 | .sv xs m ops,fz,hcf,n,fr,σ,e,fr',σ',hl,h=>by
  simp only[exec,aa,aj] at h;obtain⟨B,_,⟨fr1,σ1⟩,h1,h⟩:=h;cases h;exact vJ (pg hcf) _ _ _ _ _ _ hl h1
 | .seq x y,fz,hcf,n,fr,σ,e,fr',σ',hl,h=>by
  simp only[exec,aa] at h;obtain⟨⟨e1,fr1,σ1⟩,h1,h⟩:=h;have a1:=kD x hcf n _ _ _ _ _ hl h1;split at h
  ·exact a1.trans (kD y hcf n _ _ _ _ _ (by rw[a1.lock];exact bh hl a1.len) h)
  ·cases h;exact a1
 | .cond c x y,fz,hcf,n,fr,σ,e,fr',σ',hl,h=>by
  simp only[exec] at h;split at h
  ·exact kD x hcf n _ _ _ _ _ hl h
  ·exact kD y hcf n _ _ _ _ _ hl h
  ·cases h
 | .block id b,fz,hcf,n,fr,σ,e,fr',σ',hl,h=>by
  simp only[exec,aj] at h;obtain⟨⟨e1,fr1,σ1⟩,h1,h⟩:=h;have a1:=kD b hcf n _ _ _ _ _ hl h1;have:σ'=σ1:=by
   split at h
   ·split at h<;>(cases h;rfl)
   ·cases h;rfl
  rw[this];exact a1
 | .loop live b,fz,hcf,n,fr,σ,e,fr',σ',hl,h=>by
  simp only[exec,aj] at h;obtain⟨⟨e1,fr1,σ1⟩,h1,h⟩:=h;cases h;exact(Is (τ0:={ σ with fA:=[] }) rfl (fun fr σ e fr' σ' hl h=>kD b hcf n fr σ e fr' σ' hl h) n _ _ _ _ _ (Ast.refl _) hl h1).join
 | .each x g gc ps ba b,fz,hcf,n,fr,σ,e,fr',σ',hl,h=>by
  simp only[exec] at h;split at h
  ·split at h
   ·simp only[aa] at h;obtain⟨⟨e1,fr1,σ1⟩,h1,h⟩:=h;have hy:=pW hcf (y:=jJ (exec fz n ba) (exec fz n b) ps fr) fun args σ v σ' hl h=>Ba (fun fr σ e fr' σ' hl h=>kD ba hcf n fr σ e fr' σ' hl h) (fun fr σ e fr' σ' hl h=>kD b hcf n fr σ e fr' σ' hl h) hl h;have a1:=kD gc hy n _ { σ with fA:=[] } _ _ _ hl h1;unfold nC at h;split at h
    ·cases h
    ·simp only[aj] at h;obtain⟨z,h3,h⟩:=h;cases h;exact OO a1 h3
   ·cases h
  ·cases h
theorem jB{fz:fD}(hcf:gK fz)(n:Nat)(c:fG)(fr:Fr)(σ:St)(e:Ex)(fr':Fr)(σ':St)(hl:σ.lock<=σ.heap.length)(h:exec fz n c fr σ=some (e,fr',σ')):Ast σ σ':=kD c hcf n fr σ e fr' σ' hl h
theorem T6{fz:fD}(hcf:gK fz){n:Nat}{fn:AFn}{args:List Value}(hl:σ.lock<=σ.heap.length)(h:body fz n fn args σ=some (v,σ')):Ast σ σ':=by
 simp only[body,aa] at h;obtain⟨⟨e1,fr1,σ1⟩,h1,h⟩:=h;have a1:=jB hcf n fn.code _ { σ with fA:=[] } _ _ _ hl h1;split at h
 ·cases h
 ·simp only[aa] at h;obtain⟨vs,_,u,_,⟨q,σ2⟩,h2,h⟩:=h;split at h
  ·cases h;exact(a1.gc (τ0:={ σ with fA:=[] }) rfl h2).join
  ·cases h
theorem Bb(l:List (Nat×AFn)):∀ n,gK (nT l n)
 | 0=>fun g args σ v σ' _ h=>by simp[nT] at h
 | n+1=>fun g args σ v σ' hl h=>by
  cases g with
  | func f=>
   simp only[nT,aa] at h;obtain⟨fn,_,h⟩:=h;exact T6 (Bb l n) hl h
  | _=>simp[nT] at h
end
end AM
namespace AM
open Go Go.RowKit
section
variable{P:Program}
theorem fL{t:TypeId}{d:TypeDesc}(h:P.underlying t=some d)(w:World):(underlying t).run P w=.ok d w:=run_underlying h w
theorem iW{t:TypeId}{n:Nat}(h:gl P t=some n)(w:World):(sizeOf t).run P w=.ok n w:=by
 unfold gl at h;cases hi:P.info? t with
 | none=>rw[hi] at h;cases h
 | some i=>rw[hi] at h;simp at h;simp[sizeOf,typeInfo,hi,h]
theorem oz{t:TypeId}{b:Bool}(h:jw P t=some b)(w:World):(isAgg t).run P w=.ok b w:=by
 unfold jw at h;unfold isAgg;cases hu:P.underlying t with
 | none=>rw[hu] at h;cases h
 | some d=>
  rw[hu] at h;simp only[Sem.run_bind,fL hu,Result.andThen_ok];cases d<;>simp at h<;>subst h<;>rfl
theorem Bc{t:TypeId}{n:Nat}(h:mH P t=some (some n)):jw P t=some true/\gl P t=some n:=by
 unfold mH at h;split at h
 ·rename_i e;refine⟨e,?_⟩;cases hs:gl P t<;>rw[hs] at h<;>simp at h;rw[h]
 ·split at h<;>cases h
 ·cases h
theorem Bd{t:TypeId}(h:mH P t=some none):jw P t=some false/\gl P t=some 1:=by
 unfold mH at h;split at h
 ·cases hs:gl P t<;>rw[hs] at h<;>simp at h
 ·rename_i e;split at h
  ·rename_i e';exact⟨e,e'⟩
  ·cases h
 ·cases h
def gX(P:Program)(o:Oper)(a:Act)(w:World)(X:Emb)(v:Value):Prop:=∃ u,(execOp a.eval o).run P w=.ok (.value u) w/\fN X v u
theorem Be{X:Emb}{t:TypeId}{n:Option Nat}{cs rs:List Value}{off:Nat}{v:Value}(ht:mH P t=some n)(h:gI cs off n=some v)(hr:gq (gL X) cs rs)(w:World) :
  ∃ u,(part t rs.toArray off).run P w=.ok u w/\lg X v u:=by
 cases n with
 | none=>
  obtain⟨h1,h2⟩:=Bd ht;simp only[gI] at h;obtain⟨u,hu,hv⟩:=hr.get h;refine⟨u,?_,lq hv⟩;simp[part,oz h1,hu]
 | some n=>
  obtain⟨h1,h2⟩:=Bc ht;simp only[gI] at h;split at h
  ·rename_i hle;cases h;refine⟨.agg ((rs.drop off).take n).toArray,?_,?_⟩
   ·simp[part,oz h1,iW h2,List.take_drop]
   ·simp only[lg];exact⟨_,rfl,by simpa using (hr.drop off).take n⟩
  ·cases h
theorem tT{α:Type}{s:Sem α}{a:α}(h:jo s=some a):s=.pure a:=by cases s<;>simp[jo] at h;rw[h]
theorem It:∀ (x y:List UInt8),Op.bytesLess x y=uu x y
 | _,[]=>by unfold Op.bytesLess uu;rfl
 | [],_::_=>by unfold Op.bytesLess uu;rfl
 | a::x,b::y=>by unfold Op.bytesLess uu;rw[It x y]
theorem QV(op:BinOp)(t:TypeId)(k k':IntKind)(a b:Int):binOp op t (.int k a) (.int k' b)=binOp op 0 (.int k a) (.int k' b):=by cases op<;>simp only[binOp]
theorem QW(op:BinOp)(t:TypeId)(x y:Operand)(k k':IntKind)(a b:Int)(w:World):(eqGuard op t x y (.int k a) (.int k' b)).run P w=.ok () w:=by unfold eqGuard;split<;>simp
theorem QX(op:BinOp)(t:TypeId)(x y:Operand)(a b:ByteArray)(w:World):(eqGuard op t x y (.string a) (.string b)).run P w=.ok () w:=by unfold eqGuard;split<;>simp
theorem Y9{op:BinOp}{s t:ByteArray}{v:Value}(h:Ik op s t=some v)(w:World):(Op.stringOp op s t).run P w=.ok v w:=by
 cases op<;>simp only[Ik,reduceCtorEq,ay] at h<;>(try subst h)<;>simp[Op.stringOp,ByteArray.toList_eq,It];split at h
 ·rename_i hl;cases h;rw[if_neg (by
          have:IntKind.i64.max=9223372036854775807:=by decide
          omega)]
  congr 2;apply ByteArray.ext;simp
 ·cases h
theorem jr{X:Emb}{k:IntKind}{n:Int}{u:Value}(h:fN X (.int k n) u):u=.int k n:=(gw rfl).1 h
theorem kE{X:Emb}{b:Bool}{u:Value}(h:fN X (.bool b) u):u=.bool b:=(gw rfl).1 h
theorem kX{X:Emb}{s:ByteArray}{u:Value}(h:fN X (.string s) u):u=.string s:=(gw rfl).1 h
theorem gY{X:Emb}(k:IntKind)(n:Int):fN X (.int k n) (.int k n):=(gw rfl).2 rfl
theorem FO{X:Emb}(b:Bool):fN X (.bool b) (.bool b):=(gw rfl).2 rfl
theorem oH{X:Emb}(s:ByteArray):fN X (.string s) (.string s):=(gw rfl).2 rfl
theorem Za{op:BinOp}{k k':IntKind}{a b:Int}{v:Value}(h:jo (binOp op 0 (.int k a) (.int k' b))=some v):sc v=true:=by
 have h':=tT h;cases op<;>simp only[binOp,Op.shift,Op.intArith,Op.intDiv,Op.intBits,Op.intCmp] at h'<;>(repeat' split at h')<;>first
  | (cases h';rfl)
  | (simp only[pure] at h';cases h';rfl)
  | (exfalso;revert h';simp[stuck,runtimePanic,program,bind,Sem.bind];done)
theorem D3{X:Emb}{fr:Fr}{a:Act}{op:BinOp}{t yt:TypeId}{x y:Operand}{o:Oper}{v:Value}(ho:o.op=.binOp op t x y yt)
  (hx:∀ v,ev fr x=some v->fN X v (a.eval x)) (hy:∀ v,ev fr y=some v->fN X v (a.eval y)) (h:gD (.bin op x y) fr=some v) (w:World):gX P o a w X v:=by
 simp only[gD,aa] at h;obtain⟨p,hp,q,hq,h⟩:=h;have h1:=hx p hp;have h2:=hy q hq;unfold gT at h;split at h
 ·rename_i k n k' m;have h1:=jr h1;have h2:=jr h2;have hs:=Za h;refine⟨v,?_,(gw hs).2 rfl⟩;simp only[execOp,ho,h1,h2,Sem.run_bind,QW,Result.andThen_ok,QV op t,tT h,Sem.run_pure',Sem.run_pure]
 ·rename_i s u;have h1:=kX h1;have h2:=kX h2;refine⟨v,?_,?_⟩
  ·have:binOp op t (.string s) (.string u)=Op.stringOp op s u:=by cases op<;>rfl
   simp only[execOp,ho,h1,h2,Sem.run_bind,QX,Result.andThen_ok,this,Y9 h,Sem.run_pure]
  ·refine(gw ?_).2 rfl;cases op<;>simp[Ik] at h<;>(try (obtain⟨_,h⟩:=h))<;>(try subst h)<;>rfl
 ·cases h
theorem T7{X:Emb}{fr:Fr}{a:Act}{op:UnOp}{t:TypeId}{x:Operand}{o:Oper}{v:Value}(ho:o.op=.unOp op t x)
  (hx:∀ v,ev fr x=some v->fN X v (a.eval x)) (h:gD (.un op x) fr=some v) (w:World):gX P o a w X v:=by
 simp only[gD,aa] at h;obtain⟨p,hp,h⟩:=h;have h1:=hx p hp;unfold aun at h;split at h
 ·rename_i k n;have h1:=jr h1;have h':=tT h;refine⟨v,by simp only[execOp,ho,h1,Sem.run_bind,h',Sem.run_pure',Result.andThen_ok,Sem.run_pure],(gw ?_).2 rfl⟩;cases op<;>simp only[Op.unary,Op.intArith,Op.intBits] at h'<;>first
   | (simp only[pure] at h';cases h';rfl)
   | (exfalso;revert h';simp[stuck];done)
 ·rename_i b;have h1:=kE h1;have h':=tT h;refine⟨v,by simp only[execOp,ho,h1,Sem.run_bind,h',Sem.run_pure',Result.andThen_ok,Sem.run_pure],(gw ?_).2 rfl⟩;cases op<;>simp only[Op.unary] at h'<;>first
   | (simp only[pure] at h';cases h';rfl)
   | (exfalso;revert h';simp[stuck];done)
 ·cases h
theorem ng{v:Value}{y d n:Nat}(h:iG y (some v) d=some n):∃ k i,v=.int k i:=by cases v<;>simp only[iG] at h<;>first | cases h | exact⟨_,_,rfl⟩
theorem j5{v:Value}{y d n c:Nat}(h:iG y (some v) d=some n)(hc:y<=c)(code:BoundsCode)(w:World):(Instr.sliceBound v c code).run P w=.ok n w:=by
 obtain⟨k,i,rfl⟩:=ng h;simp only[iG] at h;split at h
 ·cases h;simp only[Instr.sliceBound,asIntOf,Sem.run_bind,Sem.run_pure,Result.andThen_ok];rw[if_pos om];rfl
 ·cases h
theorem oJ{v:Value}{y d n:Nat}(h:iG y (some v) d=some n):n<=y:=by
 obtain⟨k,i,rfl⟩:=ng h;simp only[iG] at h;split at h
 ·cases h;omega
 ·cases h
theorem sD{isS:Bool}{len cap:Nat}{lo hi mx:Option Value}{l h:Nat}{m:Option Nat}(hl:len<=cap)(hc:lH len lo hi mx=some (l,h,m))(w:World) :
  (Instr.sliceBounds isS len cap lo hi mx).run P w=.ok (l,h,m.getD cap) w/\l<=h/\h<=len/\(∀ k,m=some k->h<=k/\k<=len):=by
 cases mx with
 | none=>
  simp only[lH,aa,aj] at hc;obtain⟨h',hh,l',hl',he⟩:=hc;cases he;have h1:h<=len:=by
   cases hi with
   | none=>simp only[iG] at hh;cases hh;exact av _
   | some v=>exact oJ hh
  have h2:l<=h:=by
   cases lo with
   | none=>simp only[iG] at hl';cases hl';exact cm _
   | some v=>exact oJ hl'
  refine⟨?_,h2,h1,fun k hk=>by cases hk⟩;unfold Instr.sliceBounds;cases hi<;>cases lo<;>(try (simp only[iG] at hh;cases hh))<;>(try (simp only[iG] at hl';cases hl')) <;>
   simp only[Sem.run_bind,Sem.run_pure,Result.andThen_ok,Option.getD_none]
  ·rw[j5 hl' (av _)];rfl
  ·rw[j5 hh hl];rfl
  ·rw[j5 hh hl];simp only[Result.andThen_ok];rw[j5 hl' (av _)];rfl
 | some mv=>
  simp only[lH,aa,aj] at hc;obtain⟨m',hm,h',hh,l',hl',he⟩:=hc;cases he;cases hi with
  | none=>cases hh
  | some v=>
   simp only at hh;have h2:l<=h:=by
    cases lo with
    | none=>simp only[iG] at hl';cases hl';exact cm _
    | some v=>exact oJ hl'
   refine⟨?_,h2,bh (oJ hh) (oJ hm),fun k hk=>by cases hk;exact⟨oJ hh,oJ hm⟩⟩;unfold Instr.sliceBounds;cases lo<;>(try (simp only[iG] at hl';cases hl')) <;>
    simp only[Sem.run_bind,Sem.run_pure,Result.andThen_ok,dn]
   ·rw[j5 hm hl];simp only[Result.andThen_ok];rw[j5 hh (av _)];rfl
   ·rw[j5 hm hl];simp only[Result.andThen_ok];rw[j5 hh (av _)];simp only[Result.andThen_ok];rw[j5 hl' (av _)];rfl
theorem Zb{X:Emb}{fr:Fr}{a:Act}{x:Option Operand}{v:Option Value}(hx:∀ y,x=some y->∀ v,ev fr y=some v->fN X v (a.eval y))(h:evo fr x=some v) :
  (v=none/\x=none)\/∃ y q,x=some y/\v=some q/\fN X q (a.eval y):=by
 cases x with
 | none=>simp only[evo] at h;cases h;exact .inl ⟨rfl,rfl⟩
 | some y=>
  simp only[evo,aj] at h;obtain⟨q,hq,rfl⟩:=h;exact .inr ⟨y,q,rfl,rfl,hx y rfl q hq⟩
theorem jC{X:Emb}{fr:Fr}{a:Act}{x:Option Operand}{v:Option Value}(hx:∀ y,x=some y->∀ v,ev fr y=some v->fN X v (a.eval y))(h:evo fr x=some v)(hi:∀ q,v=some q->∃ k i,q=.int k i):x.map a.eval=v:=by
 rcases Zb hx h with ⟨rfl,rfl⟩ | ⟨y,q,rfl,rfl,hr⟩
 ·rfl
 ·obtain⟨k,i,rfl⟩:=hi q rfl;simp[jr hr]
theorem qj{len:Nat}{lo hi mx:Option Value}{r:Nat×Nat×Option Nat}(hc:lH len lo hi mx=some r):(∀ q,lo=some q->∃ k i,q=Value.int k i)/\(∀ q,hi=some q->∃ k i,q=Value.int k i)/\(∀ q,mx=some q->∃ k i,q=Value.int k i):=by
 cases mx with
 | none=>
  simp only[lH,aa,aj] at hc;obtain⟨h',hh,l',hl',he⟩:=hc;exact⟨fun q e=>by subst e;exact ng hl',fun q e=>by subst e;exact ng hh,fun q e=>by cases e⟩
 | some mv=>
  simp only[lH,aa,aj] at hc;obtain⟨m',hm,h',hh,l',hl',he⟩:=hc;refine⟨fun q e=>by subst e;exact ng hl',fun q e=>?_,fun q e=>by cases e;exact ng hm⟩;subst e;exact ng hh
theorem n3.cut{X:Emb}{a ra:Addr}{n e c l h m esz:Nat}{mx:Option Nat}(hs:n3 X a n e ra c)(hl:l<=h)(hh:h<=n)(hm:mx.getD c=m)(hmx:∀ k,mx=some k->h<=k/\k<=n)(he:e=0\/e=esz)(hz:0 < esz)(hz2:esz<=1048576) :
  n3 X { a with off:=a.off+l*esz } (h - l) (if mx.isSome then 0 else e) (if m=l then ra else ra.add (l*esz)) (m - l):=by
 obtain⟨h1,h2,bx,hx,s,hsp,hle,hr⟩:=hs;have hmc:h<=m/\m<=c:=by
  cases mx with
  | none=>simp at hm;omega
  | some k=>simp at hm;have:=hmx k rfl;omega
 refine⟨om,om,bx,hx,s,hsp,hle,fun e'=>?_⟩;obtain⟨g1,g2⟩:=hr e';constructor
 ·intro hpos;rcases dw l with rfl | hl0
  ·have hp:0 < n\/a.off=0\/0 < c:=by
    rcases hpos with h' | h' | h'
    ·exact .inl om
    ·exact .inr (.inl (by simpa using h'))
    ·exact .inr (.inr om)
   rw[g1 hp];simp[Addr.add]
  ·have hne:0 < l*esz:=Nat.mul_pos hl0 hz;have ain:0 < h - l\/0 < m - l:=by
    rcases hpos with h | h | h
    ·exact .inl h
    ·simp at h;omega
    ·exact .inr h
   rw[if_neg om,g1 om];simp[Addr.add,Nat.ne_of_gt hne,cA]
 ·intro hpos;cases mx with
  | some k=>simp at hpos
  | none=>
   simp at hpos hm;subst hm;have he':e=esz:=om
   subst he';obtain⟨q1,q2⟩:=(g2 hpos).get hz2;simp only[Option.isSome_none,aO,if_false];have hk:l*e+(c - l)*e=c*e:=by rw[<- bS];congr 1;omega
   refine .of hz2 ?_;show bx.known<=a.off+l*e+(c - l)*e/\a.off+l*e+(c - l)*e<=bx.size;constructor<;>omega
end
end AM
namespace AM
open Go Go.RowKit
section
variable{P:Program}{X:Emb}{fr:Fr}{a:Act}{o:Oper}{v:Value}
theorem Iu{x:Operand}(ho:o.op=.move x\/o.op=.assign x)(hx:∀ v,ev fr x=some v->fN X v (a.eval x))(h:gD (.mv x) fr=some v)(w:World):gX P o a w X v:=by rcases ho with ho | ho<;>exact⟨a.eval x,by simp[execOp,ho],hx v h⟩
theorem L6{c x y:Operand}(ho:o.op=.pick c x y)(hc:∀ v,ev fr c=some v->fN X v (a.eval c))(hx:∀ v,ev fr x=some v->fN X v (a.eval x))(hy:∀ v,ev fr y=some v->fN X v (a.eval y))
  (h:gD (.pick c x y) fr=some v) (w:World):gX P o a w X v:=by
 simp only[gD] at h;split at h
 ·rename_i e;have:=kE (hc _ e);exact⟨a.eval x,by simp[execOp,ho,this,asBool],hx v h⟩
 ·rename_i e;have:=kE (hc _ e);exact⟨a.eval y,by simp[execOp,ho,this,asBool],hy v h⟩
 ·cases h
theorem kY{b:Addr}{u:Value}(h:fN X (.pointer (some b)) u):∃ ra,u=.pointer (some ra)/\qi X b ra:=h
theorem iI{b:Addr}{n e:Nat}{u:Value}(h:fN X (.slice (some b) n e) u):∃ ra c,u=.slice (some ra) n c/\n3 X b n e ra c:=h
theorem xe{g:Fn}{fi ca:Array Value}{u:Value}(h:fN X (.func g fi ca) u):∃ rf rc,u=.func (X.name g) rf rc/\gq (gL X) fi.toList rf.toList/\gq (gL X) ca.toList rc.toList:=h
theorem Bf{f:FuncId}{fi ca:Array Value}{u:Value}(h:fN X (.func (.func f) fi ca) u):∃ rf rc,u=.func (.func f) rf rc/\gq (gL X) fi.toList rf.toList/\gq (gL X) ca.toList rc.toList:=h
theorem qk{cs:Array Value}{u:Value}(h:fN X (.agg cs) u):∃ rs,u=.agg rs/\gq (gL X) cs.toList rs.toList:=h
theorem Bg{cs:Array Value}{u:Value}(h:fN X (.tuple cs) u):∃ rs,u=.tuple rs/\gq (lg X) cs.toList rs.toList:=h
theorem iO{u:Value}(h:fN X (.slice none 0 0) u):u=.slice none 0 0:=(gw rfl).1 h
theorem Iv{x:Operand}(ho:o.op=.nilCheck x)(hx:∀ v,ev fr x=some v->fN X v (a.eval x))(h:gD (.kK x) fr=some v)(w:World):gX P o a w X v:=by
 simp only[gD] at h;split at h
 ·rename_i b e;cases h;have hr:=hx _ e;obtain⟨ra,h1,h2⟩:=kY hr;exact⟨a.eval x,by simp[execOp,ho,h1],hr⟩
 ·rename_i f fi ca e;cases h;have hr:=hx _ e;obtain⟨rf,rc,h1,h2⟩:=Bf hr;exact⟨a.eval x,by simp[execOp,ho,h1],hr⟩
 ·cases h
theorem QY{x:Operand}{i:Nat}(ho:o.op=.extract x i)(hx:∀ v,ev fr x=some v->fN X v (a.eval x))(h:gD (.ext x i) fr=some v)(w:World):gX P o a w X v:=by
 simp only[gD] at h;split at h
 ·rename_i vs e;obtain⟨rs,h1,h2⟩:=Bg (hx _ e);obtain⟨u,hu,hr⟩:=h2.get h;have hu':rs[i]?=some u:=by simpa using hu
  exact⟨u,by simp[execOp,ho,h1,Instr.extract,hu'],jA hr⟩
 ·cases h
theorem L7{x:Operand}{t e:TypeId}(ho:o.op=.makeInterface t x)(ht:P.underlying t=some (.pointer e))(hx:∀ v,ev fr x=some v->fN X v (a.eval x))(h:gD (.LZ t x) fr=some v)(w:World):gX P o a w X v:=by
 simp only[gD] at h;split at h
 ·rename_i p hp;cases h;have hr:=hx _ hp;refine⟨.iface t (a.eval x),by simp[execOp,ho,Instr.makeInterface,fL ht],?_⟩;cases p with
  | none=>
   have e:a.eval x=.pointer none:=(gw rfl).1 hr;rw[e];exact(gw rfl).2 rfl
  | some b=>
   obtain⟨ra,e,h2⟩:=kY hr;rw[e];exact show gL X (.iface t (.pointer (some b))) _ from ⟨ra,rfl,h2⟩
 ·cases h
theorem L8{x:Operand}{s d:TypeId}{k k0:IntKind}(ho:o.op=.convert s d x)(hs:P.underlying s=some (.int k0))(hd:P.underlying d=some (.int k))(hx:∀ v,ev fr x=some v->fN X v (a.eval x))(h:gD (.conv k x) fr=some v)(w:World):gX P o a w X v:=by
 simp only[gD] at h;split at h
 ·rename_i k' n e;cases h;have:=jr (hx _ e);refine⟨.int k (k.wrap n),?_,gY _ _⟩;simp[execOp,ho,this,convert,fL hs,fL hd,Conv.intToInt]
 ·cases h
theorem pq:∀ {xs:List Operand} {vs:List Value},(∀ x∈xs,∀ v,ev fr x=some v->fN X v (a.eval x))->evs fr xs=some vs->gq (fN X) vs (xs.map a.eval)
 | [],vs,_,h=>by simp only[evs] at h;cases h;exact gq.nil
 | x::xs,vs,hx,h=>by simp only[evs,aa,aj] at h;obtain⟨p,hp,q,hq,rfl⟩:=h;exact(pq (fun y hy=>hx y (by simp[hy])) hq).cons (hx x (by simp) p hp)
theorem Bh{vs us:List Value}(h:gq (fN X) vs us)(hc:vs.all fY=true):gq (gL X) vs us:=
 h.mono fun v hv _ hr=>vI hr (aF.1 hc v hv)
theorem L9{f:FuncId}{fi ca:Array Operand}(ho:o.op=.makeFunc (.func f) fi ca)(h1:∀ x∈fi.toList,∀ v,ev fr x=some v->fN X v (a.eval x))(h2:∀ x∈ca.toList,∀ v,ev fr x=some v->fN X v (a.eval x))
  (h:gD (.AQ f fi.toList ca.toList) fr=some v) (w:World):gX P o a w X v:=by
 simp only[gD,aa] at h;obtain⟨p,hp,q,hq,h⟩:=h;split at h
 ·rename_i hc;cases h;simp only[au] at hc;refine⟨.func (.func f) (fi.map a.eval) (ca.map a.eval),by simp[execOp,ho,Instr.makeFunc],?_⟩;simp only[fN,lg];exact⟨_,_,rfl,by simpa using Bh (pq h1 hp) hc.1,by simpa using Bh (pq h2 hq) hc.2⟩
 ·cases h
theorem qi.add{b ra:Addr}(h:qi X b ra)(k:Nat):qi X { b with off:=b.off+k } (ra.add k):=by obtain⟨bx,hx,s,hs,hl,hr⟩:=h;refine⟨bx,hx,s,hs,hl,fun e=>?_⟩;rw[hr e];unfold Addr.add;split<;>simp_all [cA]
theorem pE{b ra:Addr}(h:qi X b ra):fN X (.pointer (some b)) (.pointer (some ra)):=⟨ra,rfl,h⟩
theorem Iw{x:Operand}{t:TypeId}{i s:Nat}{fs:Array Field}{f:Field}(ho:o.op=.fieldAddr t x i)(ht:P.underlying t=some (.struct fs))(hf:fs[i]?=some f)(hs:gl P f.type=some s)(h0:0 < s)
  (hx:∀ v,ev fr x=some v->fN X v (a.eval x)) (h:gD (.fQ f.offset x) fr=some v) (w:World):gX P o a w X v:=by
 simp only[gD] at h;split at h
 ·rename_i b e;cases h;obtain⟨ra,h1,h2⟩:=kY (hx _ e);refine⟨.pointer (some (ra.add f.offset)),?_,pE (h2.add _)⟩;have hn:¬ s=0:=om
  simp[execOp,ho,h1,Instr.fieldAt,fL ht,hf,Instr.sureAddr,fieldPlace,iW hs,hn]
 ·cases h
theorem Iy{x:Operand}{t:TypeId}{i:Nat}{n:Option Nat}{fs:Array Field}{f:Field}(ho:o.op=.field t x i)(ht:P.underlying t=some (.struct fs))(hf:fs[i]?=some f)(hs:mH P f.type=some n)
  (hx:∀ v,ev fr x=some v->fN X v (a.eval x)) (h:gD (.field f.offset n x) fr=some v) (w:World):gX P o a w X v:=by
 simp only[gD] at h;split at h
 ·rename_i cs e;obtain⟨rs,h1,h2⟩:=qk (hx _ e);obtain⟨u,hu,hr⟩:=Be (P:=P) hs h h2 w;have hu':(part f.type rs f.offset).run P w=.ok u w:=by simpa using hu
  exact⟨u,by simp[execOp,ho,h1,Instr.field,fL ht,hf,asAgg,hu'],jA hr⟩
 ·cases h
theorem vK{n:Nat}{q:Value}{i:Nat}(h:uR n q=some i):∃ k z,q=.int k z/\0<=z/\z < n/\z.toNat=i:=by
 cases q<;>simp only[uR] at h<;>try cases h
 split at h
 ·rename_i hc;cases h;exact⟨_,_,rfl,hc.1,hc.2,rfl⟩
 ·cases h
theorem Iz{x y:Operand}{t e:TypeId}{s:Nat}(ho:o.op=.indexAddr t x y)(ht:P.underlying t=some (.slice e))(hs:gl P e=some s)
  (hx:∀ v,ev fr x=some v->fN X v (a.eval x)) (hy:∀ v,ev fr y=some v->fN X v (a.eval y)) (h:gD (.fK s x y) fr=some v) (w:World):gX P o a w X v:=by
 simp only[gD,aa] at h;obtain⟨p,hp,q,hq,h⟩:=h;split at h
 ·rename_i b n e';simp only[aj] at h;obtain⟨i,hi,rfl⟩:=h;obtain⟨k,z,rfl,hz0,hzn,rfl⟩:=vK hi;have h2:=jr (hy _ hq);obtain⟨ra,c,h1,h3⟩:=iI (hx _ hp);refine⟨.pointer (some (ra.add (z.toNat*s))),?_,?_⟩
  ·simp[execOp,ho,h1,h2,Instr.indexAt,asIntOf,fL ht,hz0,hzn,iW hs]
  ·obtain⟨_,_,bx,hx',s',hs',hl,hr⟩:=h3;refine pE (qi.add (b:=b) ⟨bx,hx',s',hs',hl,fun e=>(hr e).1 (.inl om)⟩ _)
 ·cases h
theorem FP{x y:Operand}{t e:TypeId}{s n:Nat}(ho:o.op=.indexAddr t x y)(ht:P.underlying t=some (.array n e))(hs:gl P e=some s)
  (hx:∀ v,ev fr x=some v->fN X v (a.eval x)) (hy:∀ v,ev fr y=some v->fN X v (a.eval y)) (h:gD (.gO s n x y) fr=some v) (w:World):gX P o a w X v:=by
 simp only[gD,aa] at h;obtain⟨p,hp,q,hq,h⟩:=h;split at h
 ·rename_i b;simp only[aj] at h;obtain⟨i,hi,rfl⟩:=h;obtain⟨k,z,rfl,hz0,hzn,rfl⟩:=vK hi;have h2:=jr (hy _ hq);obtain⟨ra,h1,h3⟩:=kY (hx _ hp);refine⟨.pointer (some (ra.add (z.toNat*s))),?_,pE (h3.add _)⟩;simp[execOp,ho,h1,h2,Instr.indexAt,asIntOf,fL ht,hz0,hzn,iW hs,Instr.sureAddr]
 ·cases h
theorem QZ{x y:Operand}{t e:TypeId}{s n:Nat}{m:Option Nat}(ho:o.op=.index t x y)(ht:P.underlying t=some (.array n e))(hs:gl P e=some s)(hm:mH P e=some m)
  (hx:∀ v,ev fr x=some v->fN X v (a.eval x)) (hy:∀ v,ev fr y=some v->fN X v (a.eval y)) (h:gD (.idx s n m x y) fr=some v) (w:World):gX P o a w X v:=by
 simp only[gD,aa] at h;obtain⟨p,hp,q,hq,h⟩:=h;split at h
 ·rename_i cs;simp only[aa] at h;obtain⟨i,hi,h⟩:=h;obtain⟨k,z,rfl,hz0,hzn,rfl⟩:=vK hi;have h2:=jr (hy _ hq);obtain⟨rs,h1,h3⟩:=qk (hx _ hp);obtain⟨u,hu,hr⟩:=Be (P:=P) hm h h3 w;refine⟨u,?_,jA hr⟩;have hu':(part e rs (z.toNat*s)).run P w=.ok u w:=by simpa using hu
  simp[execOp,ho,h1,h2,Instr.index,asIntOf,fL ht,hz0,hzn,iW hs,hu']
 ·cases h
theorem Ma{x y:Operand}{t:TypeId}(ho:o.op=.index t x y)(ht:P.underlying t=some .string)
  (hx:∀ v,ev fr x=some v->fN X v (a.eval x)) (hy:∀ v,ev fr y=some v->fN X v (a.eval y)) (h:gD (.idxs x y) fr=some v) (w:World):gX P o a w X v:=by
 simp only[gD,aa] at h;obtain⟨p,hp,q,hq,h⟩:=h;split at h
 ·rename_i s;simp only[aa,aj] at h;obtain⟨i,hi,b,hb,rfl⟩:=h;obtain⟨k,z,rfl,hz0,hzn,rfl⟩:=vK hi;have h2:=jr (hy _ hq);have h1:=kX (hx _ hp);refine⟨.int .u8 b.toNat,?_,gY _ _⟩;have hlt:z.toNat < s.size:=om
  have hb':s[z.toNat]?=some b:=by rw[getElem?_pos s z.toNat hlt];have:z.toNat < s.data.toList.length:=(af.1 hb).1;rw[aq this] at hb;simp at hb;exact congrArg some hb
  simp[execOp,ho,h1,h2,Instr.index,asIntOf,fL ht,hz0,hb']
 ·cases h
theorem FQ{x:Operand}{lo hi:Option Operand}{t:TypeId}(ho:o.op=.slice t x lo hi none)(ht:P.underlying t=some .string)
  (hx:∀ v,ev fr x=some v->fN X v (a.eval x)) (hl:∀ y,lo=some y->∀ v,ev fr y=some v->fN X v (a.eval y)) (hh:∀ y,hi=some y->∀ v,ev fr y=some v->fN X v (a.eval y))
  (h:gD (.pV x lo hi) fr=some v) (w:World):gX P o a w X v:=by
 simp only[gD,aa] at h;obtain⟨p,hp,l,hl',r,hr',h⟩:=h;split at h
 ·rename_i s;simp only[aj] at h;obtain⟨⟨l1,h1,m⟩,hc,rfl⟩:=h;obtain⟨c1,c2,_⟩:=qj hc;have e1:=jC hl hl' c1;have e2:=jC hh hr' c2;have e0:=kX (hx _ hp);have qU:=sD (P:=P) (isS:=false) (av s.size) hc w;refine⟨.string (s.extract l1 h1),?_,?_⟩
  ·simp[execOp,ho,e0,e1,e2,Instr.sliceAt,fL ht,Instr.slice,qU.1]
  ·have:s.extract l1 h1=⟨((s.data.toList.drop l1).take (h1 - l1)).toArray⟩:=by apply ByteArray.ext;apply bR.1;rw[ByteArray.data_extract,Array.toList_extract]
   rw[this];exact oH _
 ·cases h
theorem n3.ahk{X:Emb}{a ra:Addr}{n e c l h m esz:Nat}{mx:Option Nat}(hs:n3 X a n e ra c)(hl:l<=h)(hh:h<=n)(hm:mx.getD c=m)(hmx:∀ k,mx=some k->h<=k/\k<=n)(hz:0 < esz)(hz2:esz<=1048576) :
  n3 X { a with off:=a.off+l*esz } (h - l) (if mx=some h then 1048578 else 0) (if m=l then ra else ra.add (l*esz)) (m - l):=by
 have hs0:n3 X a n 0 ra c:=by obtain⟨h1,h2,bx,hx,s,hsp,hle,hr⟩:=hs;exact⟨h1,h2,bx,hx,s,hsp,hle,fun e=>⟨(hr e).1,fun h=>absurd h (Nat.lt_irrefl _)⟩⟩
 obtain⟨h1,h2,bx,hx,s,hsp,hle,hr⟩:=hs0.cut hl hh hm hmx (.inl rfl) hz hz2;refine⟨h1,h2,bx,hx,s,hsp,hle,fun e=>⟨(hr e).1,fun hp=>?_⟩⟩;split at hp
 ·rename_i he;rw[if_pos he];unfold nU;rw[if_pos (.inr rfl)];intro _;rw[he] at hm;simp at hm;omega
 ·exact absurd hp (Nat.lt_irrefl _)
theorem IA{x:Operand}{lo hi mx:Option Operand}{t e:TypeId}{s:Nat}(ho:o.op=.slice t x lo hi mx)(ht:P.underlying t=some (.slice e))(hs:gl P e=some s)(h0:0 < s)(h02:s<=1048576)
  (hx:∀ v,ev fr x=some v->fN X v (a.eval x)) (hl:∀ y,lo=some y->∀ v,ev fr y=some v->fN X v (a.eval y)) (hh:∀ y,hi=some y->∀ v,ev fr y=some v->fN X v (a.eval y)) (hm:∀ y,mx=some y->∀ v,ev fr y=some v->fN X v (a.eval y))
  (h:gD (.slice s x lo hi mx) fr=some v) (w:World):gX P o a w X v:=by
 simp only[gD,aa] at h;obtain⟨p,hp,l,hl',r,hr',q,hq',h⟩:=h;split at h
 ·simp only[aj] at h;obtain⟨⟨l1,h1,m⟩,hc,rfl⟩:=h;obtain⟨c1,c2,c3⟩:=qj hc;have e1:=jC hl hl' c1;have e2:=jC hh hr' c2;have e3:=jC hm hq' c3;have e0:=iO (hx _ hp);have qU:=sD (P:=P) (isS:=true) (av 0) hc w;refine⟨.slice none 0 0,?_,(gw rfl).2 rfl⟩;have z1:h1=0:=om
  have z2:l1=0:=om
  have z3:m.getD 0=0:=by
   cases m with
   | none=>rfl
   | some k=>have:=qU.2.2.2 k rfl;simp;omega
  subst z1;subst z2;simp[execOp,ho,e0,e1,e2,e3,Instr.sliceAt,fL ht,Instr.slice,qU.1,iW hs,z3]
 ·rename_i b n e';split at h
  ·rename_i he';simp only[aj] at h;obtain⟨⟨l1,h1,m⟩,hc,rfl⟩:=h;obtain⟨c1,c2,c3⟩:=qj hc;have e1:=jC hl hl' c1;have e2:=jC hh hr' c2;have e3:=jC hm hq' c3;obtain⟨ra,c,e0,hsl⟩:=iI (hx _ hp);have qU:=sD (P:=P) (isS:=true) hsl.1 hc w;refine⟨.slice (some (if m.getD c=l1 then ra else ra.add (l1*s))) (h1 - l1) (m.getD c - l1),?_,⟨_,_,rfl,hsl.cut qU.2.1 qU.2.2.1 rfl qU.2.2.2 he' h0 h02⟩⟩;simp only[execOp,ho,Sem.run_bind,Instr.sliceAt,fL ht,Result.andThen_ok,e0,e1,e2,e3,Instr.slice,qU.1,iW hs,Sem.run_pure];split<;>simp
  ·split at h
   ·simp only[aj] at h;obtain⟨⟨l1,h1,m⟩,hc,rfl⟩:=h;obtain⟨c1,c2,c3⟩:=qj hc;have e1:=jC hl hl' c1;have e2:=jC hh hr' c2;have e3:=jC hm hq' c3;obtain⟨ra,c,e0,hsl⟩:=iI (hx _ hp);have qU:=sD (P:=P) (isS:=true) hsl.1 hc w;refine⟨.slice (some (if m.getD c=l1 then ra else ra.add (l1*s))) (h1 - l1) (m.getD c - l1),?_,⟨_,_,rfl,hsl.ahk qU.2.1 qU.2.2.1 rfl qU.2.2.2 h0 h02⟩⟩;simp only[execOp,ho,Sem.run_bind,Instr.sliceAt,fL ht,Result.andThen_ok,e0,e1,e2,e3,Instr.slice,qU.1,iW hs,Sem.run_pure];split<;>simp
   ·cases h
 ·cases h
theorem FR{x:Operand}{lo hi mx:Option Operand}{t e:TypeId}{s n:Nat}(ho:o.op=.slice t x lo hi mx)(ht:P.underlying t=some (.array n e))(hs:gl P e=some s)(hn:n<=1048576)
  (hx:∀ v,ev fr x=some v->fN X v (a.eval x)) (hl:∀ y,lo=some y->∀ v,ev fr y=some v->fN X v (a.eval y)) (hh:∀ y,hi=some y->∀ v,ev fr y=some v->fN X v (a.eval y)) (hm:∀ y,mx=some y->∀ v,ev fr y=some v->fN X v (a.eval y))
  (h:gD (.m8 s n x lo hi mx) fr=some v) (w:World):gX P o a w X v:=by
 simp only[gD,aa] at h;obtain⟨p,hp,l,hl',r,hr',q,hq',h⟩:=h;split at h
 ·rename_i b;simp only[aj] at h;obtain⟨⟨l1,h1,m⟩,hc,rfl⟩:=h;obtain⟨c1,c2,c3⟩:=qj hc;have e1:=jC hl hl' c1;have e2:=jC hh hr' c2;have e3:=jC hm hq' c3;obtain⟨ra,e0,hra⟩:=kY (hx _ hp);have qU:=sD (P:=P) (isS:=false) (av n) hc w;have hmn:h1<=m.getD n/\m.getD n<=n:=by
   cases m with
   | none=>simp;omega
   | some k=>have:=qU.2.2.2 k rfl;simp;omega
  refine⟨.slice (some (if m.getD n=l1 then ra else ra.add (l1*s))) (h1 - l1) (m.getD n - l1),?_,?_⟩
  ·simp[execOp,ho,e0,e1,e2,e3,Instr.sliceAt,fL ht,Instr.sureAddr,qU.1,iW hs]
  ·obtain⟨bx,hx',s',hs',hl2,hr⟩:=hra;refine⟨_,_,rfl,?_⟩;dsimp only;refine⟨om,by simp only[maxLen];omega,?_⟩;refine⟨bx,hx',s',hs',hl2,fun e=>⟨fun hpos=>?_,fun h'=>absurd h' (Nat.lt_irrefl _)⟩⟩;have hr:=hr e;split
   ·rename_i hml;rcases hpos with hpos | hpos | hpos
    ·omega
    ·simp at hpos;rw[hr];simp;omega
    ·omega
   ·rw[hr];unfold Addr.add;split<;>simp_all [cA]
 ·cases h
end
end AM
namespace AM
open Go Go.RowKit
section
variable{P:Program}
def T8(P:Program)(t:TypeId)(v:Value)(cs:List Value):Prop:=(jw P t=some true/\v=.agg cs.toArray)\/(jw P t=some false/\cs=[v])
theorem vL{t:TypeId}{n off:Nat}{cs:List Value}(ha:jw P t=some true\/(jw P t=some false/\n=1))(hs:gl P t=some n)(hl:off+n<=cs.length)(w:World) :
  ∃ v,(part t cs.toArray off).run P w=.ok v w/\T8 P t v ((cs.drop off).take n):=by
 rcases ha with ha | ⟨ha,rfl⟩
 ·exact⟨.agg ((cs.drop off).take n).toArray,by simp[part,oz ha,iW hs,List.take_drop],.inl ⟨ha,rfl⟩⟩
 ·have h:off < cs.length:=om
  refine⟨cs[off],by simp[part,oz ha,h],.inr ⟨ha,?_⟩⟩;rw[bC h];rfl
theorem sE:∀ (s r:List Sh) {xs ys:List Value} {b:Bool},gz (s++r) xs ys=some b ->
  ∃ b1 b2,gz s (xs.take s.length) (ys.take s.length)=some b1/\gz r (xs.drop s.length) (ys.drop s.length)=some b2/\b=(b1&&b2)
 | [],r,xs,ys,b,h=>⟨true,b,by simp[gz],by simpa using h,by simp⟩
 | q::s,r,[],ys,b,h=>by simp[gz] at h
 | q::s,r,x::xs,[],b,h=>by simp[gz] at h
 | q::s,r,x::xs,y::ys,b,h=>by simp only[aS,gz,aa,aj] at h;obtain⟨c,hc,d,hd,rfl⟩:=h;obtain⟨b1,b2,h1,h2,rfl⟩:=sE s r hd;exact⟨c&&b1,b2,by simp[gz,hc,h1],by simpa using h2,by simp[Bool.and_assoc]⟩
theorem Bi{d:Nat}{t:TypeId}{s:List Sh}(h:vE P d t=some s):jw P t=some true\/(jw P t=some false/\s.length=1):=by
 cases d with
 | zero=>simp[vE] at h
 | succ d=>
  unfold vE at h;unfold jw;cases hu:P.underlying t with
  | none=>rw[hu] at h;simp at h
  | some q=>rw[hu] at h;cases q<;>simp at h<;>first | exact .inl rfl | (subst h;exact .inr ⟨rfl,rfl⟩)
def acu(P:Program)(D:Nat)(t:TypeId)(s:List Sh):Prop:=∀ (xs ys:List Value) (v u:Value) (b:Bool),xs.length=s.length->ys.length=s.length->T8 P t v xs->T8 P t u ys->gz s xs ys=some b->∀ w,(Op.equalIn D t v u).run P w=.ok b w
theorem vM{D:Nat}{f:TypeId->Option (List Sh)}(hf:∀ t s,f t=some s->acu P D t s/\(jw P t=some true\/(jw P t=some false/\s.length=1))):∀ (fs:List Field) (n:Nat) (s:List Sh) (xs ys:List Value) (b:Bool),TY P f fs n=some s->xs.length=n+s.length->ys.length=n+s.length ->
  gz s (xs.drop n) (ys.drop n)=some b->∀ w,(Op.eqFields D xs.toArray ys.toArray fs).run P w=.ok b w
 | [],n,s,xs,ys,b,h,hx,hy,he,w=>by
  simp only[TY,ay] at h;subst h;rw[eo (by simp at hx;omega),eo (by simp at hy;omega)] at he;simp only[gz,ay] at he;subst he;rfl
 | fd::l,n,s,xs,ys,b,h,hx,hy,he,w=>by
  simp only[TY] at h;split at h
  ·rename_i hc;simp only[au,decide_eq_true_eq,bne_iff_ne,ne_eq] at hc;simp only[aa] at h;obtain⟨s1,h1,h⟩:=h;split at h
   ·rename_i hs;simp only[aj] at h;obtain⟨s2,h2,rfl⟩:=h;obtain⟨b1,b2,e1,e2,rfl⟩:=sE s1 s2 he;obtain⟨g1,g2⟩:=hf _ _ h1;simp only[aB] at hx hy;obtain⟨p,hp,pv⟩:=vL (P:=P) (off:=n) (cs:=xs) g2 hs om w;obtain⟨q,hq,qv⟩:=vL (P:=P) (off:=n) (cs:=ys) g2 hs om w;have heq:=g1 _ _ p q b1 (by simp;omega) (by simp;omega) pv qv e1 w;have xg:=vM hf l (n+s1.length) s2 xs ys b2 h2 om om (by simpa[List.drop_drop,eW] using e2) w;rw[<- hc.1] at hp hq;simp only[Op.eqFields,ne_eq,hc.2,not_false_eq_true,if_true,Sem.run_bind,hp,hq,Result.andThen_ok,heq];cases b1<;>simp[xg]
   ·cases h
  ·cases h
theorem yx{D:Nat}{e:TypeId}{s:List Sh}(hf:acu P D e s/\(jw P e=some true\/(jw P e=some false/\s.length=1)))(hs:gl P e=some s.length):∀ (n j:Nat) (xs ys:List Value) (b:Bool),xs.length=(j+n)*s.length->ys.length=(j+n)*s.length ->
  gz (List.replicate n s).flatten (xs.drop (j*s.length)) (ys.drop (j*s.length))=some b->∀ w,(Op.eqItems D e s.length xs.toArray ys.toArray (List.range' j n)).run P w=.ok b w
 | 0,j,xs,ys,b,hx,hy,he,w=>by
  rw[eo (by simp at hx;omega),eo (by simp at hy;omega)] at he;simp only[eN,List.flatten_nil,gz,ay] at he;subst he;rfl
 | n+1,j,xs,ys,b,hx,hy,he,w=>by
  rw[bO,dc] at he;obtain⟨b1,b2,e1,e2,rfl⟩:=sE s _ he;have hm:(j+(n+1))*s.length=j*s.length+s.length+n*s.length:=by rw[bS,bS,dH];omega
  have hm2:(j+1+n)*s.length=j*s.length+s.length+n*s.length:=by rw[bS,bS,dH]
  obtain⟨p,hp,pv⟩:=vL (P:=P) (off:=j*s.length) (cs:=xs) hf.2 hs om w;obtain⟨q,hq,qv⟩:=vL (P:=P) (off:=j*s.length) (cs:=ys) hf.2 hs om w;have heq:=hf.1 _ _ p q b1 (by simp;omega) (by simp;omega) pv qv e1 w;have xg:=yx hf hs n (j+1) xs ys b2 om om (by
   have:(j+1)*s.length=j*s.length+s.length:=by rw[bS,dH]
   rw[this];simpa[List.drop_drop,eW] using e2) w
  simp only[List.range'_succ,Op.eqItems,Sem.run_bind,hp,hq,Result.andThen_ok,heq];cases b1<;>simp[xg]
theorem FT{e:TypeId}{n:Nat}(h:gl P e=some n):P.cellsOf e=n/\∃ i,P.info? e=some i:=by
 unfold gl at h;cases hi:P.info? e with
 | none=>rw[hi] at h;cases h
 | some i=>rw[hi] at h;simp at h;exact⟨by simp[Program.cellsOf,hi,h],i,rfl⟩
theorem n7:∀ (d:Nat) {t:TypeId} {s:List Sh},vE P d t=some s->∀ (D:Nat),d<=D->acu P D t s
 | 0,t,s,h,_,_=>by simp[vE] at h
 | d+1,t,s,h,0,hD=>by omega
 | d+1,t,s,h,D+1,hD=>by
  intro xs ys v u b hx hy hv hu he w;have ais:=Bi h;unfold vE at h;cases ht:P.underlying t with
  | none=>rw[ht] at h;simp at h
  | some q=>
   rw[ht] at h;have one:(∃ x,s=[x])->jw P t=some false->∃ x,s=[x]/\nS x v u=some b:=by
    rintro⟨x,rfl⟩ hf;rcases hv with ⟨h1,_⟩ | ⟨_,rfl⟩
    ·rw[hf] at h1;cases h1
    rcases hu with ⟨h1,_⟩ | ⟨_,rfl⟩
    ·rw[hf] at h1;cases h1
    simp only[gz,aa,bq,ay,dx] at he;obtain⟨c,hc,rfl⟩:=he;exact⟨x,rfl,hc⟩
   have two:jw P t=some true->v=.agg xs.toArray/\u=.agg ys.toArray:=by
    intro hf;rcases hv with ⟨_,rfl⟩ | ⟨h1,_⟩
    ·rcases hu with ⟨_,rfl⟩ | ⟨h1,_⟩
     ·exact⟨rfl,rfl⟩
     ·rw[hf] at h1;cases h1
    ·rw[hf] at h1;cases h1
   cases q<;>simp only[reduceCtorEq,ay] at h
   ·obtain⟨x,e1,e2⟩:=one ⟨_,h.symm⟩ (by unfold jw;rw[ht]);rw[<- h] at e1;cases e1;unfold nS at e2;split at e2<;>first | (cases e2;done) | (rename_i hh;cases hh;done) | (simp at *;done) | skip
    all_goals (first | (cases e2;exact run_equalIn_bool' w D t _ _ ht) | (exfalso;simp_all;done))
   ·obtain⟨x,e1,e2⟩:=one ⟨_,h.symm⟩ (by unfold jw;rw[ht]);rw[<- h] at e1;cases e1;unfold nS at e2;split at e2
    ·split at e2
     ·rename_i hk;subst hk;cases e2;exact run_equalIn_int w D t _ _ _ _ ht
     ·cases e2
    all_goals (exfalso;simp_all;done)
   ·obtain⟨x,e1,e2⟩:=one ⟨_,h.symm⟩ (by unfold jw;rw[ht]);rw[<- h] at e1;cases e1;unfold nS at e2;split at e2<;>first | (exfalso;simp_all;done) | (cases e2;rw[run_equalIn_string w D t _ _ ht,ByteArray.toList_eq,ByteArray.toList_eq]) 
   ·rename_i n e;simp only[aa] at h;obtain⟨s1,h1,h⟩:=h;split at h
    ·rename_i hs;cases h;obtain⟨rfl,rfl⟩:=two (by unfold jw;rw[ht]);obtain⟨hce,i,hi⟩:=FT hs;rw[run_equalIn_array w D _ _ ht hi,hce,List.range_eq_range'];have hlen:(List.replicate n s1).flatten.length=n*s1.length:=by simp
     exact yx ⟨n7 d h1 D om,Bi h1⟩ hs n 0 xs ys b (by rw[hx,hlen];simp) (by rw[hy,hlen];simp) (by simpa using he) w
    ·cases h
   ·rename_i fs;split at h
    ·cases h
    ·rename_i hst;obtain⟨rfl,rfl⟩:=two (by unfold jw;rw[ht]);have hfo:P.fieldsOf t=fs:=by unfold Program.fieldsOf;rw[ht]
     rw[run_equalIn_struct w D t _ _ (by rw[ht,hfo]) (by simpa using hst),hfo];exact vM (fun t' s' h'=>⟨n7 d h' D om,Bi h'⟩) fs.toList 0 s xs ys b h om om (by simpa using he) w
theorem Zc{s:Sh}{v w:Value}{b:Bool}(h:nS s v w=some b):sc v=true/\sc w=true:=by unfold nS at h;split at h<;>first | exact⟨rfl,rfl⟩ | cases h
theorem IB:∀ {s:List Sh} {xs ys:List Value} {b:Bool},gz s xs ys=some b->xs.length=s.length/\ys.length=s.length/\(∀ v∈xs,sc v=true)/\∀ v∈ys,sc v=true
 | [],[],[],b,_=>by simp
 | [],[],y::ys,b,h=>by simp[gz] at h
 | [],x::xs,ys,b,h=>by simp[gz] at h
 | s::r,[],ys,b,h=>by simp[gz] at h
 | s::r,x::xs,[],b,h=>by simp[gz] at h
 | s::r,x::xs,y::ys,b,h=>by
  simp only[gz,aa,aj] at h;obtain⟨c,hc,d,hd,rfl⟩:=h;obtain⟨h1,h2,h3,h4⟩:=IB hd;obtain⟨g1,g2⟩:=Zc hc;refine⟨by simp[h1],by simp[h2],fun v hv=>?_,fun v hv=>?_⟩
  ·rcases aJ.1 hv with rfl | hv
   ·exact g1
   ·exact h3 v hv
  ·rcases aJ.1 hv with rfl | hv
   ·exact g2
   ·exact h4 v hv
theorem qV{X:Emb} : ∀ {xs rs:List Value},gq (gL X) xs rs->(∀ v∈xs,sc v=true)->rs=xs
 | [],rs,h,_=>h.L4
 | x::xs,rs,h,hs=>by obtain⟨u,m,rfl,hu,ht⟩:=h.head;rw[(iR (hs x (by simp))).1 hu,qV ht fun v hv=>hs v (by simp[hv])]
theorem Q0{t:TypeId}(h:vF P t=some .bool):P.underlying t=some .bool:=by unfold vF at h;split at h<;>first | (cases h;done) | (split at h<;>first | (cases h;done) | (simp at h;done)) | (rename_i e;exact e) | skip
theorem IC{t:TypeId}(h:vF P t=some .ptr):∃ e,P.underlying t=some (.pointer e):=by unfold vF at h;split at h<;>first | (cases h;done) | (split at h<;>first | (cases h;done) | (simp at h;done)) | (rename_i e;exact⟨_,e⟩) | skip
theorem Bj{t:TypeId}(h:vF P t=some .slice):∃ e,P.underlying t=some (.slice e):=by unfold vF at h;split at h<;>first | (cases h;done) | (split at h<;>first | (cases h;done) | (simp at h;done)) | (rename_i e;exact⟨_,e⟩) | skip
theorem xh{t:TypeId}(h:vF P t=some .func):∃ a b c,P.underlying t=some (.func a b c):=by unfold vF at h;split at h<;>first | (cases h;done) | (split at h<;>first | (cases h;done) | (simp at h;done)) | (rename_i e;exact⟨_,_,_,e⟩) | skip
theorem T9{t e:TypeId}(h:P.underlying t=some (.pointer e))(d:Nat)(q:Option Addr)(w:World):(Op.equalIn (d+1) t (.pointer none) (.pointer q)).run P w=.ok q.isNone w:=by simp[Op.equalIn,fL h]
theorem Q1{t e:TypeId}(h:P.underlying t=some (.pointer e))(d:Nat)(q:Addr)(w:World):(Op.equalIn (d+1) t (.pointer (some q)) (.pointer none)).run P w=.ok false w:=by simp[Op.equalIn,fL h]
theorem Mb{t e:TypeId}(h:P.underlying t=some (.slice e))(d:Nat)(q:Option Addr)(n c n' c':Nat)(w:World):(Op.equalIn (d+1) t (.slice none n c) (.slice q n' c')).run P w=.ok q.isNone w:=by simp[Op.equalIn,fL h]
theorem ID{t e:TypeId}(h:P.underlying t=some (.slice e))(d:Nat)(q:Addr)(n c n' c':Nat)(w:World):(Op.equalIn (d+1) t (.slice (some q) n c) (.slice none n' c')).run P w=.ok false w:=by simp[Op.equalIn,fL h]
theorem Q2{t:TypeId}{x y:Array TypeId}{z:Bool}(h:P.underlying t=some (.func x y z))(d:Nat)(w:World):(Op.equalIn (d+1) t .nilFunc .nilFunc).run P w=.ok true w:=by simp[Op.equalIn,fL h]
theorem Mc{t:TypeId}{x y:Array TypeId}{z:Bool}(h:P.underlying t=some (.func x y z))(d:Nat)(f:Fn)(p q:Array Value)(w:World):(Op.equalIn (d+1) t .nilFunc (.func f p q)).run P w=.ok false w:=by simp[Op.equalIn,fL h]
theorem IE{t:TypeId}{x y:Array TypeId}{z:Bool}(h:P.underlying t=some (.func x y z))(d:Nat)(f:Fn)(p q:Array Value)(w:World):(Op.equalIn (d+1) t (.func f p q) .nilFunc).run P w=.ok false w:=by simp[Op.equalIn,fL h]
theorem uV{t:TypeId}(h:vF P t=some .iface):∃ m,P.underlying t=some (.interface m):=by unfold vF at h;split at h<;>first | (cases h;done) | (split at h<;>first | (cases h;done) | (simp at h;done)) | (rename_i e;exact⟨_,e⟩) | skip
theorem Md{t:TypeId}{m:_}(h:P.underlying t=some (.interface m))(d:Nat)(w:World):(Op.equalIn (d+1) t .nilIface .nilIface).run P w=.ok true w:=by simp[Op.equalIn,fL h]
theorem IF{t:TypeId}{m:_}(h:P.underlying t=some (.interface m))(d:Nat)(q:TypeId)(v:Value)(w:World):(Op.equalIn (d+1) t .nilIface (.iface q v)).run P w=.ok false w:=by simp[Op.equalIn,fL h]
theorem FU{t:TypeId}{m:_}(h:P.underlying t=some (.interface m))(d:Nat)(q:TypeId)(v:Value)(w:World):(Op.equalIn (d+1) t (.iface q v) .nilIface).run P w=.ok false w:=by simp[Op.equalIn,fL h]
theorem Bk{X:Emb}{t:TypeId}{v u:Value}(h:fN X (.iface t v) u):∃ q,u=.iface t q:=by
 have h':gL X (.iface t v) u:=h;unfold gL at h';split at h'
 ·rename_i e;cases e
 ·rename_i e;cases e
 ·rename_i e;cases e;obtain⟨ra,h1,_⟩:=h';exact⟨_,h1⟩
 ·rename_i e;cases e
 ·exact⟨_,h'.2⟩
theorem D4{X:Emb}{fr:Fr}{a:Act}{o:Oper}{v:Value}{op:BinOp}{t yt:TypeId}{x y:Operand}{neg:Bool}{sh:EqK}(ho:o.op=.binOp op t x y yt)(hop:(op=.eql/\neg=false)\/(op=.neq/\neg=true))(hsh:vF P t=some sh)(hic:sh=.iface->isConst x=true\/isConst y=true)
  (hx:∀ v,ev fr x=some v->fN X v (a.eval x)) (hy:∀ v,ev fr y=some v->fN X v (a.eval y)) (h:gD (.eqs neg sh x y) fr=some v) (w:World):gX P o a w X v:=by
 simp only[gD,aa,aj] at h;obtain⟨p,hp,q,hq,b,hb,rfl⟩:=h;have h1:=hx p hp;have h2:=hy q hq;refine⟨.bool (if neg then !b else b),?_,FO _⟩;have fin:(eqGuard op t x y (a.eval x) (a.eval y)).run P w=.ok () w->(Op.equal t (a.eval x) (a.eval y)).run P w=.ok b w ->
   (∀ op',op'=.eql->binOp op' t (a.eval x) (a.eval y)=do pure (.bool (<- Op.equal t (a.eval x) (a.eval y))))->(∀ op',op'=.neq->binOp op' t (a.eval x) (a.eval y)=do pure (.bool (!(<- Op.equal t (a.eval x) (a.eval y))))) ->
   (execOp a.eval o).run P w=.ok (.value (.bool (if neg then !b else b))) w:=by
  intro g1 g2 g3 g4;rcases hop with ⟨rfl,rfl⟩ | ⟨rfl,rfl⟩
  ·simp only[execOp,ho,Sem.run_bind,g1,Result.andThen_ok,g3 _ rfl,g2,Sem.run_pure,aO,if_false]
  ·simp only[execOp,ho,Sem.run_bind,g1,Result.andThen_ok,g4 _ rfl,g2,Sem.run_pure,if_true]
 have guard:∀ (v u:Value),(∀ cs,v≠.agg cs)->v≠.nilIface->(eqGuard op t x y v u).run P w=.ok () w:=by intro v u n1 n2;unfold eqGuard;cases op<;>cases v<;>first | exact absurd rfl (n1 _) | exact absurd rfl n2 | rfl
 unfold aeq at hb;split at hb
 ·rename_i s xs ys;obtain⟨rs,e1,r1⟩:=qk h1;obtain⟨us,e2,r2⟩:=qk h2;obtain⟨l1,l2,s1,s2⟩:=IB hb;have q1:rs=xs:=by apply bR.1;exact qV r1 s1
  have q2:us=ys:=by apply bR.1;exact qV r2 s2
  subst q1;subst q2;unfold vF at hsh;have hh:vE P 8 t=some s/\P.eqGuardType P.depth t=false/\jw P t=some true:=by
   cases ht:P.underlying t with
   | none=>rw[ht] at hsh;cases hsh
   | some d=>
    rw[ht] at hsh;have ha:(∃ fs,d=.struct fs)\/(∃ n e,d=.array n e)->jw P t=some true:=by unfold jw;rw[ht];rintro(⟨_,rfl⟩ | ⟨_,_,rfl⟩)<;>rfl
    cases d<;>simp at hsh
    ·exact⟨hsh.2,hsh.1,ha (.inr ⟨_,_,rfl⟩)⟩
    ·exact⟨hsh.2,hsh.1,ha (.inl ⟨_,rfl⟩)⟩
  refine fin ?_ ?_ ?_ ?_
  ·rw[e1,e2];exact run_eqGuard_agg w op t x y rs us hh.2.1
  ·rw[e1,e2];exact n7 8 hh.1 10000 om rs.toList us.toList (.agg rs) (.agg us) b l1 l2 (.inl ⟨hh.2.2,by simp⟩) (.inl ⟨hh.2.2,by simp⟩) hb w
  ·rw[e1,e2];rintro _ rfl;rfl
  ·rw[e1,e2];rintro _ rfl;rfl
 ·rename_i c d;cases hb;have e1:=kE h1;have e2:=kE h2;have ht:=Q0 hsh;refine fin ?_ ?_ ?_ ?_
  ·rw[e1];exact guard _ _ (by simp) (by simp)
  ·rw[e1,e2];exact run_equal_bool w t _ _ ht
  ·rw[e1,e2];rintro _ rfl;rfl
  ·rw[e1,e2];rintro _ rfl;rfl
 ·rename_i q;cases hb;obtain⟨e,ht⟩:=IC hsh;have e1:a.eval x=.pointer none:=(gw rfl).1 h1;obtain⟨q',e2,hq'⟩:∃ q',a.eval y=.pointer q'/\q'.isNone=q.isNone:=by
   cases q with
   | none=>exact⟨none,(gw rfl).1 h2,rfl⟩
   | some c=>obtain⟨ra,e,_⟩:=kY h2;exact⟨some ra,e,rfl⟩
  refine fin ?_ ?_ ?_ ?_
  ·rw[e1];exact guard _ _ (by simp) (by simp)
  ·rw[e1,e2,<- hq'];exact T9 ht 9999 _ w
  ·rw[e1,e2];rintro _ rfl;rfl
  ·rw[e1,e2];rintro _ rfl;rfl
 ·cases hb;obtain⟨e,ht⟩:=IC hsh;obtain⟨ra,e1,_⟩:=kY h1;have e2:a.eval y=.pointer none:=(gw rfl).1 h2;refine fin ?_ ?_ ?_ ?_
  ·rw[e1];exact guard _ _ (by simp) (by simp)
  ·rw[e1,e2];exact Q1 ht 9999 _ w
  ·rw[e1,e2];rintro _ rfl;rfl
  ·rw[e1,e2];rintro _ rfl;rfl
 ·rename_i n c q n' c';cases hb;obtain⟨e,ht⟩:=Bj hsh;obtain⟨n1,c1,e1⟩:∃ n c,a.eval x=.slice none n c:=by have h1':gL X (.slice none n c) (a.eval x):=h1;exact⟨n,c,h1'.2⟩
  obtain⟨q',n2,c2,e2,hq'⟩:∃ q' n c,a.eval y=.slice q' n c/\q'.isNone=q.isNone:=by
   cases q with
   | none=>have h2':gL X (.slice none n' c') (a.eval y):=h2;exact⟨none,n',c',h2'.2,rfl⟩
   | some b=>obtain⟨ra,c,e,_⟩:=iI h2;exact⟨some ra,_,_,e,rfl⟩
  refine fin ?_ ?_ ?_ ?_
  ·rw[e1];exact guard _ _ (by simp) (by simp)
  ·rw[e1,e2,<- hq'];exact Mb ht 9999 _ _ _ _ _ w
  ·rw[e1,e2];rintro _ rfl;rfl
  ·rw[e1,e2];rintro _ rfl;rfl
 ·rename_i b n c n' c';cases hb;obtain⟨e,ht⟩:=Bj hsh;obtain⟨ra,c1,e1,_⟩:=iI h1;have h2':gL X (.slice none n' c') (a.eval y):=h2;have e2:=h2'.2;refine fin ?_ ?_ ?_ ?_
  ·rw[e1];exact guard _ _ (by simp) (by simp)
  ·rw[e1,e2];exact ID ht 9999 _ _ _ _ _ w
  ·rw[e1,e2];rintro _ rfl;rfl
  ·rw[e1,e2];rintro _ rfl;rfl
 ·cases hb;obtain⟨_,_,_,ht⟩:=xh hsh;have e1:a.eval x=.nilFunc:=(gw rfl).1 h1;have e2:a.eval y=.nilFunc:=(gw rfl).1 h2;refine fin ?_ ?_ ?_ ?_
  ·rw[e1];exact guard _ _ (by simp) (by simp)
  ·rw[e1,e2];exact Q2 ht 9999 w
  ·rw[e1,e2];rintro _ rfl;rfl
  ·rw[e1,e2];rintro _ rfl;rfl
 ·cases hb;obtain⟨_,_,_,ht⟩:=xh hsh;have e1:a.eval x=.nilFunc:=(gw rfl).1 h1;obtain⟨rf,rc,e2,_⟩:=xe h2;refine fin ?_ ?_ ?_ ?_
  ·rw[e1];exact guard _ _ (by simp) (by simp)
  ·rw[e1,e2];exact Mc ht 9999 _ _ _ w
  ·rw[e1,e2];rintro _ rfl;rfl
  ·rw[e1,e2];rintro _ rfl;rfl
 ·cases hb;obtain⟨_,_,_,ht⟩:=xh hsh;obtain⟨rf,rc,e1,_⟩:=xe h1;have e2:a.eval y=.nilFunc:=(gw rfl).1 h2;refine fin ?_ ?_ ?_ ?_
  ·rw[e1];exact guard _ _ (by simp) (by simp)
  ·rw[e1,e2];exact IE ht 9999 _ _ _ w
  ·rw[e1,e2];rintro _ rfl;rfl
  ·rw[e1,e2];rintro _ rfl;rfl
 ·cases hb;obtain⟨_,ht⟩:=uV hsh;have e1:a.eval x=.nilIface:=(gw rfl).1 h1;have e2:a.eval y=.nilIface:=(gw rfl).1 h2;refine fin ?_ ?_ ?_ ?_
  ·rw[e1,e2];clear fin guard ho hx hy hp hq h1 h2 e1 e2;rcases hic rfl with h | h
   ·cases x<;>simp[isConst] at h;unfold eqGuard;rcases hop with ⟨rfl,_⟩ | ⟨rfl,_⟩<;>rfl
   ·cases y<;>simp[isConst] at h;unfold eqGuard;cases x<;>rcases hop with ⟨rfl,_⟩ | ⟨rfl,_⟩<;>rfl
  ·rw[e1,e2];exact Md ht 9999 w
  ·rw[e1,e2];rintro _ rfl;rfl
  ·rw[e1,e2];rintro _ rfl;rfl
 ·cases hb;obtain⟨_,ht⟩:=uV hsh;have e1:a.eval x=.nilIface:=(gw rfl).1 h1;obtain⟨q,e2⟩:=Bk h2;refine fin ?_ ?_ ?_ ?_
  ·rw[e1,e2];unfold eqGuard;cases op<;>rfl
  ·rw[e1,e2];exact IF ht 9999 _ _ w
  ·rw[e1,e2];rintro _ rfl;rfl
  ·rw[e1,e2];rintro _ rfl;rfl
 ·cases hb;obtain⟨_,ht⟩:=uV hsh;obtain⟨q,e1⟩:=Bk h1;have e2:a.eval y=.nilIface:=(gw rfl).1 h2;refine fin ?_ ?_ ?_ ?_
  ·rw[e1,e2];unfold eqGuard;cases op<;>rfl
  ·rw[e1,e2];exact FU ht 9999 _ _ w
  ·rw[e1,e2];rintro _ rfl;rfl
  ·rw[e1,e2];rintro _ rfl;rfl
 ·cases hb
end
end AM
namespace AM
open Go Go.RowKit
section
variable{P:Program}{X:Emb}{fr:Fr}{a:Act}{o:Oper}{v:Value}
theorem vN(off:Nat):∀ (l:List Value) (k:Nat) (cs:Array Value),((l.zipIdx k).foldl (fun cs (p:Value×Nat)=>cs.setIfInBounds (off+p.2) p.1) cs).toList=putAt cs.toList (off+k) l
 | [],k,cs=>rfl
 | x::l,k,cs=>by simp only[List.zipIdx_cons,dg,putAt];rw[vN off l (k+1)];simp[cA]
theorem IG(off:Nat)(l cs:Array Value):(l.zipIdx.foldl (fun cs (p:Value×Nat)=>cs.setIfInBounds (off+p.2) p.1) cs).toList=putAt cs.toList off l.toList:=by have:=vN off l.toList 0 cs;rw[<- Array.toList_zipIdx,Array.foldl_toList] at this;simpa using this
theorem jD:∀ (vs cs:List Value) (off:Nat),(putAt cs off vs).length=cs.length
 | [],_,_=>rfl
 | v::vs,cs,off=>by rw[putAt,jD];simp
theorem Bm{pl place:Nat->Option (Nat×Nat)}(hp:∀ i q,pl i=some q->place i=some q):∀ (ps:List (Nat×Operand)) (ps':List (Nat×Nat×Operand)) (vals:List (Nat×Nat×Value)) (cs0 cs:List Value) (rs0:Array Value),
  (∀ q∈ps,∀ v,ev fr q.2=some v->fN X v (a.eval q.2))->sA pl ps=some ps'->uQ fr ps'=some vals->fill cs0 vals=some cs->gq (gL X) cs0 rs0.toList ->
  ∃ rs,Instr.fill place rs0 (ps.map fun q=>(q.1,a.eval q.2))=some rs/\gq (gL X) cs rs.toList
 | [],ps',vals,cs0,cs,rs0,_,h1,h2,h3,hr=>by
  simp only[sA,ay] at h1;subst h1;simp only[uQ,ay] at h2;subst h2;simp only[fill,ay] at h3;subst h3;exact⟨rs0,rfl,hr⟩
 | (i,x)::ps,ps',vals,cs0,cs,rs0,hx,h1,h2,h3,hr=>by
  simp only[sA,aa,aj] at h1;obtain⟨⟨off,size⟩,hq,r,hr1,rfl⟩:=h1;simp only[uQ,aa,aj] at h2;obtain⟨v,hv,vs,hvs,rfl⟩:=h2;simp only[fill] at h3;split at h3
  ·rename_i hc;simp only[au,decide_eq_true_eq] at hc;have pX:=hx (i,x) (by simp) v hv;have Bn:=xd pX hc.2;have hl:(a.eval x).cells.size=size:=by rw[<- hc.1.1,Bn.1];simp
   have hput:gq (gL X) (putAt cs0 off (cellsOf v)) ((a.eval x).cells.zipIdx.foldl (fun cs (p:Value×Nat)=>cs.setIfInBounds (off+p.2) p.1) rs0).toList:=by rw[IG];exact hr.putAt off Bn
   obtain⟨rs,e1,e2⟩:=Bm hp ps r vs _ cs _ (fun q hq=>hx q (by simp[hq])) hr1 hvs h3 hput;refine⟨rs,?_,e2⟩;have hle:rs0.size=cs0.length:=by rw[hr.1];simp
   simp only[aK,Instr.fill,hp _ _ hq];rw[if_neg (by simp[hl];omega)];exact e1
  ·cases h3
theorem II{t:TypeId}{zs:List Value}(h:kU P t=some zs)(w:World):∃ z,(zeroValue t).run P w=.ok z w/\z.cells.toList=zs/\(∀ v∈zs,sc v=true)/\gl P t=some zs.length:=by
 unfold kU at h;cases hi:P.info? t with
 | none=>rw[hi] at h;cases h
 | some i=>
  rw[hi] at h;cases hz:i.zero with
  | none=>simp[hz] at h
  | some z=>
   simp only[hz] at h;split at h
   ·rename_i hc;cases h;simp only[au,decide_eq_true_eq] at hc;exact⟨z,by simp[zeroValue,typeInfo,hi,hz],rfl,fun v hv=>aF.1 hc.2 v hv,by simp[gl,hi,hc.1]⟩
   ·cases h
theorem jE{xs:List Value}(h:∀ v∈xs,sc v=true):gq (gL X) xs xs:=gq.refl fun v hv=>(iR (h v hv)).2 rfl
theorem ux{α:Type}{f:α->Sem (Nat×Nat)}{g:α->Nat×Nat}{w:World} : ∀ (l:List α),(∀ x∈l,(f x).run P w=.ok (g x) w)->(l.mapM f).run P w=.ok (l.map g) w
 | [],_=>by simp
 | x::l,h=>by rw[List.mapM_cons];simp[h x (by simp),ux l fun y hy=>h y (by simp[hy])]
theorem IJ{t:TypeId}{ps:Array (Nat×Operand)}{zs:List Value}{pl:Nat->Option (Nat×Nat)}{ps':List (Nat×Nat×Operand)}(ho:o.op=.build t ps)(hz:kU P t=some zs)(hpl:AT P t=some pl)(hps:sA pl ps.toList=some ps')
  (hx:∀ q∈ps.toList,∀ v,ev fr q.2=some v->fN X v (a.eval q.2)) (h:gD (.build zs ps') fr=some v) (w:World):gX P o a w X v:=by
 simp only[gD,aa,aj] at h;obtain⟨vals,hv,cs,hc,rfl⟩:=h;obtain⟨z,hz1,hz2,hz3,_⟩:=II hz w;have abw:=fun place hp=>Bm (X:=X) (a:=a) (place:=place) hp ps.toList ps' vals zs cs z.cells hx hps hv hc (by rw[hz2];exact jE hz3);unfold AT at hpl;split at hpl
 ·rename_i fs ht;split at hpl
  ·rename_i hall;cases hpl;have hmap:(fs.mapM fun f=>(do pure (f.offset,<- sizeOf f.type):Sem (Nat×Nat))).run P w=.ok (fs.map fun f=>(f.offset,(gl P f.type).getD 0)) w:=by
    rw[Array.mapM_eq_mapM_toList];have:=ux (P:=P) (w:=w) (f:=fun f=>(do pure (f.offset,<- sizeOf f.type):Sem (Nat×Nat))) (g:=fun f:Field=>(f.offset,(gl P f.type).getD 0)) fs.toList (fun f hf=>by have hs:=aF.1 hall f hf;obtain⟨s,hs⟩:=Option.isSome_iff_exists.1 hs;simp[iW hs,hs])
    rw[map_eq_pure_bind,Sem.run_bind,this];simp only[Result.andThen_ok,Sem.run_pure];congr 1;apply bR.1;simp
   obtain⟨rs,e1,e2⟩:=abw ((fs.map fun f=>(f.offset,(gl P f.type).getD 0))[·]?) (fun i q hq=>by simp only[aa,aj] at hq;obtain⟨f,hf,s,hs,rfl⟩:=hq;simp[hf,hs])
   refine⟨.agg rs,?_,⟨rs,rfl,e2⟩⟩;have e1':Instr.fill (fun x=>(fs.map fun f=>(f.offset,(gl P f.type).getD 0))[x]?) z.cells (ps.map fun x=>(x.1,a.eval x.2)).toList=some rs:=by simpa using e1
   simp only[execOp,ho,Instr.build,Sem.run_bind,hz1,Result.andThen_ok,fL ht,hmap,e1',Sem.run_pure]
  ·cases hpl
 ·rename_i n e ht;simp only[aj] at hpl;obtain⟨s,hs,rfl⟩:=hpl;obtain⟨rs,e1,e2⟩:=abw (fun i=>some (i*s,s)) (fun i q hq=>hq);refine⟨.agg rs,?_,⟨rs,rfl,e2⟩⟩;have e1':Instr.fill (fun i=>some (i*s,s)) z.cells (ps.map fun x=>(x.1,a.eval x.2)).toList=some rs:=by simpa using e1
  simp only[execOp,ho,Instr.build,Sem.run_bind,hz1,Result.andThen_ok,fL ht,iW hs,e1',Sem.run_pure]
 ·cases hpl
theorem jd{c:Call}{b:Builtin}(ho:o.op=.call c)(hb:c.callee=.builtin b)(w:World) :
  ∃ cs,(execOp a.eval o).run P w=(builtin b c.argTypes o.type cs (c.args.map a.eval)).run P w:=by simp only[execOp,ho,resolve,hb,Sem.run_bind,Sem.run_pure,Result.andThen_ok,invoke];exact⟨_,rfl⟩
theorem oK{c:Call}{x:Operand}(h:c.args.toList=[x]):c.args=#[x]:=by apply bR.1;simpa using h
theorem vO{c:Call}{x y:Operand}(h:c.args.toList=[x,y]):c.args=#[x,y]:=by apply bR.1;simpa using h
theorem oA{c:Call}{x:TypeId}(h:c.argTypes.toList=[x]):c.argTypes=#[x]:=by apply bR.1;simpa using h
theorem xj{c:Call}{x y:TypeId}(h:c.argTypes.toList=[x,y]):c.argTypes=#[x,y]:=by apply bR.1;simpa using h
theorem Q3{c:Call}{x:Operand}{t e:TypeId}(ho:o.op=.call c)(hb:c.callee=.builtin .len)(hc:c.args.toList=[x])(ht:c.argTypes.toList=[t])(hu:P.underlying t=some (.slice e))
  (hx:∀ v,ev fr x=some v->fN X v (a.eval x)) (h:gD (.len x) fr=some v) (w:World):gX P o a w X v:=by
 simp only[gD] at h;unfold gX;obtain⟨ks,hks⟩:=jd (P:=P) (a:=a) ho hb w;rw[hks,oK hc,oA ht];split at h
 ·rename_i p n e he;cases h;have hr:=hx _ he;obtain⟨q,c',e1⟩:∃ q c',a.eval x=.slice q n c':=by
   cases p with
   | none=>have hr':gL X (.slice none n e) (a.eval x):=hr;exact⟨none,e,hr'.2⟩
   | some b=>obtain⟨ra,c',e1,_⟩:=iI hr;exact⟨_,_,e1⟩
  exact⟨.int .i64 n,by simp[builtin,Builtin.len_,e1,fL hu,goInt],gY _ _⟩
 ·cases h
theorem Me{c:Call}{x:Operand}{t:TypeId}(ho:o.op=.call c)(hb:c.callee=.builtin .len)(hc:c.args.toList=[x])(ht:c.argTypes.toList=[t])(hu:P.underlying t=some .string)
  (hx:∀ v,ev fr x=some v->fN X v (a.eval x)) (h:gD (.lens x) fr=some v) (w:World):gX P o a w X v:=by
 simp only[gD] at h;unfold gX;obtain⟨ks,hks⟩:=jd (P:=P) (a:=a) ho hb w;rw[hks,oK hc,oA ht];split at h
 ·rename_i s he;cases h;have e1:=kX (hx _ he);exact⟨.int .i64 s.size,by simp[builtin,Builtin.len_,e1,fL hu,goInt],gY _ _⟩
 ·cases h
theorem Mf{c:Call}{x:Operand}{t e:TypeId}{n:Nat}(ho:o.op=.call c)(hb:c.callee=.builtin .len)(hc:c.args.toList=[x])(ht:c.argTypes.toList=[t])(hu:P.underlying t=some (.array n e))
  (h:gD (.FF n) fr=some v) (w:World):gX P o a w X v:=by simp only[gD,ay] at h;subst h;unfold gX;obtain⟨ks,hks⟩:=jd (P:=P) (a:=a) ho hb w;rw[hks,oK hc,oA ht];refine⟨.int .i64 n,?_,gY _ _⟩;simp only[fq,aK,br,builtin,Builtin.len_];simp only[Sem.run_bind,List.getElem?_toArray,cI,fL hu,Result.andThen_ok];generalize a.eval x=q;cases q<;>rfl
theorem Q4{c:Call}{x:Operand}{t e:TypeId}(ho:o.op=.call c)(hb:c.callee=.builtin .cap)(hc:c.args.toList=[x])(ht:c.argTypes.toList=[t])(hu:P.underlying t=some (.slice e))
  (hx:∀ v,ev fr x=some v->fN X v (a.eval x)) (h:gD (.cap x) fr=some v) (w:World):gX P o a w X v:=by
 simp only[gD] at h;unfold gX;obtain⟨ks,hks⟩:=jd (P:=P) (a:=a) ho hb w;rw[hks,oK hc,oA ht];split at h
 ·rename_i he;cases h;have e1:=iO (hx _ he);exact⟨.int .i64 0,by simp[builtin,Builtin.cap_,e1,fL hu,goInt],gY _ _⟩
 ·cases h
theorem Zd{mx:Bool}{p q r:Value}(h:mm2 mx p q=some r):∃ k n,p=.int k n/\∃ m,q=.int k m/\∃ l,r=.int k l:=by
 unfold mm2 at h;split at h
 ·split at h
  ·rename_i hk;subst hk;cases h;exact⟨_,_,rfl,_,rfl,_,rfl⟩
  ·cases h
 ·cases h
theorem Ze{mx:Bool}{p q r:Value}(h:mm2 mx p q=some r)(w:World):(if mx then Builtin.max2 p q else Builtin.min2 p q).run P w=.ok r w:=by
 unfold mm2 at h;split at h
 ·split at h
  ·rename_i hk;subst hk;cases h;cases mx<;>simp[Builtin.max2,Builtin.min2]
  ·cases h
 ·cases h
theorem OP{mx:Bool} : ∀ (l:List Value) (p r:Value),mmf mx p l=some r->∀ w,(l.foldlM (if mx then Builtin.max2 else Builtin.min2) p).run P w=.ok r w
 | [],p,r,h,w=>by simp only[mmf,ay] at h;subst h;simp
 | q::l,p,r,h,w=>by simp only[mmf,aa] at h;obtain⟨u,hu,h⟩:=h;have h1:=Ze (P:=P) hu w;have h2:=OP l u r h w;rw[List.foldlM_cons];cases mx<;>simp_all
theorem FV{mx:Bool} : ∀ (l:List Value) (p r:Value),mmf mx p l=some r->l≠[]->(∃ k n,p=.int k n)/\(∀ q∈l,∃ k n,q=.int k n)/\∃ k n,r=.int k n
 | [],p,r,_,h0=>absurd rfl h0
 | q::l,p,r,h,_=>by
  simp only[mmf,aa] at h;obtain⟨u,hu,h⟩:=h;obtain⟨k,n,rfl,m,rfl,j,rfl⟩:=Zd hu;refine⟨⟨_,_,rfl⟩,fun q hq=>?_,?_⟩
  ·rcases aJ.1 hq with rfl | hq
   ·exact⟨_,_,rfl⟩
   ·cases l with
    | nil=>cases hq
    | cons y l=>exact(FV (y::l) _ r h (by simp)).2.1 q hq
  ·cases l with
   | nil=>simp only[mmf,ay] at h;exact⟨k,j,h.symm⟩
   | cons y l=>exact(FV (y::l) _ r h (by simp)).2.2
theorem Ua:∀ {xs:List Operand} {vs:List Value},(∀ x∈xs,∀ v,ev fr x=some v->fN X v (a.eval x))->evs fr xs=some vs->(∀ q∈vs,∃ k n,q=Value.int k n)->xs.map a.eval=vs:=by
 intro xs vs hx h hi;have hr:=pq hx h;clear h hx;induction xs generalizing vs with
 | nil=>have:=hr.1;simp at this;simp[this]
 | cons x xs ih=>
  cases vs with
  | nil=>have:=hr.1;simp at this
  | cons q vs=>
   simp only[aK] at hr ⊢;obtain⟨u,m,e,h1,h2⟩:=hr.head;cases e;obtain⟨k,n,rfl⟩:=hi q (by simp);rw[jr h1,ih (fun q hq=>hi q (by simp[hq])) h2]
theorem IK{c:Call}{mx:Bool}(ho:o.op=.call c)(hb:c.callee=.builtin (if mx then .max else .min))
  (hx:∀ x∈c.args.toList,∀ v,ev fr x=some v->fN X v (a.eval x)) (h:gD (.mm mx c.args.toList) fr=some v) (w:World):gX P o a w X v:=by
 simp only[gD,aa] at h;obtain⟨vs,hv,h⟩:=h;unfold gX;obtain⟨ks,hks⟩:=jd (P:=P) (a:=a) ho hb w;rw[hks];cases vs with
 | nil=>cases h
 | cons p l=>
  have hall:l≠[]->(∃ k n,v=Value.int k n)/\c.args.toList.map a.eval=p::l:=fun h0=>by
   obtain⟨g1,g2,g3⟩:=FV l p v h h0;exact⟨g3,Ua hx hv fun q hq=>by
    rcases aJ.1 hq with rfl | hq
    ·exact g1
    ·exact g2 q hq⟩
  cases l with
  | nil=>
   simp only[mmf,ay] at h;subst h;have hr:=pq hx hv;obtain⟨u,m,e1,h1,h2⟩:=hr.head;have:=h2.L4;subst this;refine⟨u,?_,h1⟩;cases mx<;>simp[builtin,Builtin.max_,Builtin.min_,e1]
  | cons y l=>
   obtain⟨⟨k,n,rfl⟩,e⟩:=hall (by simp);refine⟨.int k n,?_,gY _ _⟩;have hrun:=OP (P:=P) (y::l) p _ h w;cases mx<;>(simp only[if_true,aO,if_false] at hrun;simp only[builtin,Builtin.max_,Builtin.min_,Array.toList_map,e,Sem.run_bind,aO,if_false,if_true,hrun,Result.andThen_ok,Sem.run_pure])
end
end AM
namespace AM
open Go Go.RowKit
theorem qW{σ:St}{a:Addr}{pl:Bool}{cs:List Value}(h:σ.blk a=some (pl,cs)):a.block∉σ.hid/\∃ g,σ.heap[a.block]?=some (.cells g pl cs)/\a.spot=some g:=by
 unfold St.blk at h;split at h
 ·cases h
 ·rename_i hh;split at h
  ·rename_i g pl' cs' e;split at h
   ·rename_i hs;cases h;exact⟨by simpa using hh,g,e,hs⟩
   ·cases h
  ·cases h
theorem Sim.read{w0 w:World}{X:Emb}{σ:St}(S:Sim w0 X σ w){a ra:Addr}{pl:Bool}{cs:List Value}(hb:σ.blk a=some (pl,cs))(hr:qi X a ra) :
  ∃ bx,X a.block=some bx/\a.spot=some bx.gen/\ra=⟨bx.b,bx.o+a.off,none⟩/\∀ j v,cs[j]?=some v->∃ u,w.cell? ⟨bx.b,bx.o+j,none⟩=some u/\gL X v u:=by obtain⟨hh,g,hg,hs⟩:=qW hb;obtain⟨bx,hx,s,hs',hl,hra⟩:=hr;obtain⟨h1,h2,h3,h4,h5,h6⟩:=S.cell _ bx g pl cs hx hh hg;rw[hs] at hs';cases hs';exact⟨bx,hx,by rw[hs,h1],hra h1,h5⟩
theorem Sim.oB{w0 w:World}{X:Emb}{σ:St}(S:Sim w0 X σ w){a ra:Addr}{pl:Bool}{cs:List Value}(hb:σ.blk a=some (pl,cs))(hr:qi X a ra){n:Nat}(hn:a.off+n<=cs.length) :
  ∃ rs:List Value,gq (gL X) ((cs.drop a.off).take n) rs/\∀ j u,rs[j]?=some u->w.cell? (ra.add j)=some u:=by
 obtain⟨bx,hx,hs,rfl,hc⟩:=S.read hb hr;have key:∀ m,m<=n->∃ rs:List Value,gq (gL X) ((cs.drop a.off).take m) rs/\∀ j u,rs[j]?=some u->w.cell? ((⟨bx.b,bx.o+a.off,none⟩:Addr).add j)=some u:=by
  intro m;induction m with
  | zero=>intro _;exact⟨[],by simpa using gq.nil,by simp⟩
  | succ m ih=>
   intro hm;obtain⟨rs,h1,h2⟩:=ih om;have hlt:a.off+m < cs.length:=om
   obtain⟨u,hu,hr'⟩:=hc (a.off+m) cs[a.off+m] (aq hlt);refine⟨rs++[u],?_,fun j u' hj=>?_⟩
   ·rw[b9 (by simp;omega)];refine h1.append ?_;have:(cs.drop a.off)[m]'(by simp;omega)=cs[a.off+m]:=by simp
    rw[this];exact gq.nil.cons hr'
   ·have hl:rs.length=m:=by rw[<- h1.1];simp;omega
    rcases bu j rs.length with hj' | hj'
    ·rw[aA hj'] at hj;exact h2 j u' hj
    ·rw[aM hj'] at hj;have:j=m:=by have:=(af.1 hj).1;simp at this;omega
     subst this;rw[hl] at hj;simp at hj;subst hj;rw[add_lit,<- hu];congr 2;omega
 exact key n (av _)
theorem qX{w0 w w':World}{X:Emb}{σ:St}(S:Sim w0 X σ w){rcs:Array Value}{ty:TypeId}{lo hi g:Nat}{pl:Bool}{cs:List Value}
  (hh:w'.heap=w.heap.push (.cells rcs ty (lo,hi))) (h1:w'.os=w.os) (h2:w'.tape=w.tape) (h3:w'.output=w.output) (hf:hi=lo\/rcs.size<=lo) (hg:g<=cs.length) (hl:cs.length<=rcs.size)
  (hp:pl=true->cs.all sc=true) (hr:∀ (j:Nat) (v:Value),cs[j]?=some v->∃ u,rcs[j]?=some u/\gL X v u) (hz:cs.length=0->rcs.size=0) :
  let X':Emb:=⟨fun id=>if id=σ.heap.length then some ⟨w.heap.size,0,true,g,cs.length,rcs.size⟩ else X id,X.y⟩
  Sim w0 X' { σ with heap:=σ.heap++[.cells g pl cs] } w'/\Stp X σ w X' w'/\Ast σ { σ with heap:=σ.heap++[.cells g pl cs] }:=by
 intro X';have hnone:X σ.heap.length=none:=by
  cases hx:X σ.heap.length with
  | none=>rfl
  | some bx=>have:=S.dom _ _ hx;omega
 have hX:∀ id bx,X id=some bx->X' id=some bx:=fun id bx hx=>by have:=S.dom _ _ hx;simp only[X'];rw[if_neg om];exact hx
 have sq:Evo X X':=Evo.mk' rfl fun id bx hx=>⟨bx,hX id bx hx,.inl rfl⟩;have hold:∀ k,k < w.heap.size->w'.heap[k]?=w.heap[k]?:=fun k hk=>by rw[hh,eO,if_neg om]
 have hcell:∀ (b:Nat) (o:Nat),b < w.heap.size->w'.cell? ⟨b,o,none⟩=w.cell? ⟨b,o,none⟩:=fun b o hb=>World.cell?_of_block (w:=w) (hold b hb);have hsz:w'.heap.size=w.heap.size+1:=by rw[hh];simp
 have kq:∀ id bx',X' id=some bx'->(id=σ.heap.length/\bx'=⟨w.heap.size,0,true,g,cs.length,rcs.size⟩)\/(id≠σ.heap.length/\X id=some bx'):=fun id bx' h=>by
  simp only[X'] at h;split at h
  ·rename_i e;cases h;exact .inl ⟨e,rfl⟩
  ·rename_i e;exact .inr ⟨e,h⟩
 refine⟨⟨?_,?_,?_,?_,?_,?_,?_,?_⟩,⟨om,h1,h2,h3,fun k hk _=>hold k hk,sq,?_,?_⟩,⟨by simp,rfl,rfl,fun _ h=>h,?_,?_,fun t h=>.inl h⟩⟩
 ·exact S.bel.trans ⟨h1,h2,h3,om,fun k hk=>hold k (by have:=S.bel.size;omega)⟩
 ·intro id bx h;rcases kq id bx h with ⟨rfl,_⟩ | ⟨_,h⟩
  ·simp
  ·have:=S.dom _ _ h;simp;omega
 ·intro id bx h;rcases kq id bx h with ⟨rfl,rfl⟩ | ⟨_,h⟩
  ·simp;exact⟨om,S.bel.size⟩
  ·have:=S.place _ _ h;exact⟨om,this.2⟩
 ·intro id bx g' pl' cs' h hh' hc;rcases kq id bx h with ⟨rfl,rfl⟩ | ⟨hne,h⟩
  ·simp only[aM (av _),cL,cI,ay,Blk.cells.injEq] at hc;obtain⟨rfl,rfl,rfl⟩:=hc;have hnew:w'.heap[w.heap.size]?=some (.cells rcs ty (lo,hi)):=by rw[hh];simp
   refine⟨rfl,rfl,cm _,hp,fun j v hv=>?_,fun _=>⟨av _,rcs,ty,lo,hi,hnew,(aX _).symm,hl,by simpa using hf⟩⟩;obtain⟨u,hu,hr'⟩:=hr j v hv;exact⟨u,by simp[World.cell?,hnew,hu],hr'.evo sq⟩
  ·have hlt:=S.dom _ _ h;rw[aA hlt] at hc;obtain⟨c1,c2,c3,c4,c5,c6⟩:=S.cell id bx g' pl' cs' h hh' hc;have hb:=(S.place _ _ h).1;refine⟨c1,c2,c3,c4,fun j v hv=>?_,fun ho=>?_⟩
   ·obtain⟨u,hu,hr'⟩:=c5 j v hv;exact⟨u,by rw[hcell _ _ hb];exact hu,hr'.evo sq⟩
   ·obtain⟨o1,rs,ty',lo',hi',o2,o3⟩:=c6 ho;exact⟨o1,rs,ty',lo',hi',by rw[hold _ hb];exact o2,o3⟩
 ·intro i j bi bj hi hj oi oj e;rcases kq i bi hi with ⟨rfl,rfl⟩ | ⟨_,hi⟩<;>rcases kq j bj hj with ⟨rfl,rfl⟩ | ⟨_,hj⟩
  ·rfl
  ·have:=(S.place _ _ hj).1;simp at e;omega
  ·have:=(S.place _ _ hi).1;simp at e;omega
  ·exact S.inj i j bi bj hi hj oi oj e
 ·intro id bx h hl';rcases kq id bx h with ⟨rfl,rfl⟩ | ⟨_,h⟩
  ·rfl
  ·exact S.lock id bx h hl'
 ·intro id bx h h0;rcases kq id bx h with ⟨rfl,rfl⟩ | ⟨_,h⟩
  ·exact hz h0
  ·exact S.zero id bx h h0
 ·intro id bx es h hh' hc;rcases kq id bx h with ⟨rfl,rfl⟩ | ⟨_,h⟩
  ·simp only[aM (av _),cL,cI,ay] at hc;cases hc
  ·rw[aA (S.dom _ _ h)] at hc;obtain⟨c1,c2,res,ck,c3,c4⟩:=S.j4 id bx es h hh' hc;exact⟨c1,c2,res,ck,by rw[hold _ (S.place _ _ h).1];exact c3,c4.evo sq⟩
 ·intro id bx bx' h h';rw[hX id bx h] at h';cases h';exact .inl rfl
 ·intro id bx' h;rcases kq id bx' h with ⟨rfl,rfl⟩ | ⟨_,h⟩
  ·exact .inr ⟨hnone,rfl,av _,av _⟩
  ·exact .inl ⟨bx',h,rfl,.inl rfl⟩
 ·intro id hi _ r hr;simpa[fV,aA hi] using hr
 ·intro id hi _;exact aA hi
theorem Q5{w0 w w':World}{X:Emb}{σ:St}(S:Sim w0 X σ w){id:Nat}{bx:Bx}{g:Nat}{pl:Bool}{cs cs':List Value}{d:List Nat}{rs rs':Array Value}{ty:TypeId}{lo hi:Nat}
  (hx:X id=some bx) (hlk:σ.lock<=id) (iJ:id∉σ.hid) (hc:σ.heap[id]?=some (.cells g pl cs)) (hr0:w.heap[bx.b]?=some (.cells rs ty (lo,hi)))
  (hh:w'.heap[bx.b]?=some (.cells rs' ty (lo,hi))) (hsz:w'.heap.size=w.heap.size) (hold:∀ k,k≠bx.b->w'.heap[k]?=w.heap[k]?) (h1:w'.os=w.os) (h2:w'.tape=w.tape) (h3:w'.output=w.output)
  (hl:cs'.length=cs.length) (hrl:rs'.size=rs.size) (hp:pl=true->cs'.all sc=true) (hr:∀ (j:Nat) (v:Value),cs'[j]?=some v->∃ u,rs'[bx.o+j]?=some u/\gL X v u)
  (hd1:∀ t,t∈σ.fA->t∈d) (hd2:∀ t,t∈d->t∈σ.fA\/t=id) (hd3:id∉d->∀ r,r∈iN (.cells g pl cs')->r∈iN (.cells g pl cs)) :
  Sim w0 X { σ with heap:=σ.heap.set id (.cells g pl cs'),fA:=d } w'/\Stp X σ w X w'/\Ast σ { σ with heap:=σ.heap.set id (.cells g pl cs'),fA:=d }:=by
 have hown:=S.lock id bx hx hlk;obtain⟨c1,c2,c3,c4,c5,c6⟩:=S.cell id bx g pl cs hx iJ hc;obtain⟨o1,rs0,ty0,lo0,hi0,o2,o3,o4,o5⟩:=c6 hown;rw[hr0] at o2;cases o2;have hbp:=S.place id bx hx;rw[hown] at hbp;simp only[if_true] at hbp;have hlen:id < σ.heap.length:=S.dom _ _ hx;have pY:∀ j bj,X j=some bj->j≠id->bj.b≠bx.b:=fun j bj hj hne e=>by
  cases ho:bj.own with
  | true=>exact hne (S.inj j id bj bx hj hx ho hown e)
  | false=>
   have:=(S.place j bj hj).2;rw[ho] at this;simp at this;omega
 refine⟨⟨?_,?_,?_,?_,S.inj,S.lock,S.zero,fun j bj es hj hh' hc'=>?_⟩,⟨om,h1,h2,h3,fun k _ hk=>hold k fun e=>hk id bx hx hlk iJ hown e.symm,Evo.refl X,fun id bx bx' h h'=>by rw[h] at h';cases h';exact .inl rfl,fun id bx' h=>.inl ⟨bx',h,rfl,.inl rfl⟩⟩,
  ⟨by simp,rfl,rfl,hd1,?_,?_,?_⟩⟩
 ·exact S.bel.trans ⟨h1,h2,h3,om,fun k hk=>hold k om⟩
 ·intro j bj hj;simpa using S.dom j bj hj
 ·intro j bj hj;have:=S.place j bj hj;rw[hsz];exact this
 ·intro j bj g' pl' cs'' hj hh' hc';by_cases hji:j=id
  ·subst hji;rw[hx] at hj;cases hj;rw[aD hlen] at hc';cases hc';refine⟨c1,om,om,hp,fun j v hv=>?_,fun _=>⟨o1,rs',ty,lo,hi,hh,om,o4,o5⟩⟩;obtain⟨u,hu,hr'⟩:=hr j v hv;exact⟨u,by simp[World.cell?,hh,hu],hr'⟩
  ·rw[aZ (Ne.symm hji)] at hc';obtain⟨k1,k2,k3,k4,k5,k6⟩:=S.cell j bj g' pl' cs'' hj hh' hc';have hne:=pY j bj hj hji;refine⟨k1,k2,k3,k4,fun i v hv=>?_,fun ho=>?_⟩
   ·obtain⟨u,hu,hr'⟩:=k5 i v hv;exact⟨u,by rw[World.cell?_of_block (w:=w) (hold bj.b hne)];exact hu,hr'⟩
   ·obtain⟨q1,q2,q3,q4,q5,q6,q7⟩:=k6 ho;exact⟨q1,q2,q3,q4,q5,by rw[hold _ hne];exact q6,q7⟩
 ·have hji:j≠id:=fun e=>by subst e;rw[aD hlen] at hc';cases hc'
  rw[aZ (Ne.symm hji)] at hc';obtain⟨k1,k2,res,ck,k3,k4⟩:=S.j4 j bj es hj hh' hc';exact⟨k1,k2,res,ck,by rw[hold _ (pY j bj hj hji)];exact k3,k4⟩
 ·intro j hj hnd r hr';by_cases hji:j=id
  ·subst hji;have h:=hd3 hnd r;unfold fV at hr' ⊢;rw[aD hlen] at hr';rw[hc];exact h hr'
  ·unfold fV at hr' ⊢;rwa [aZ (Ne.symm hji)] at hr'
 ·intro j hj hl';refine aZ fun e=>?_;subst e;rcases hl' with hl' | hl'
  ·omega
  ·exact iJ hl'
 ·intro t ht;rcases hd2 t ht with h | rfl
  ·exact .inl h
  ·exact .inr ⟨hlk,iJ⟩
theorem Ub{w0 w w':World}{X:Emb}{σ:St}(S:Sim w0 X σ w){id:Nat}{bx:Bx}{rs:Array Value}{ty:TypeId}{lo hi lo' hi':Nat}
  (hx:X id=some bx) (hlk:σ.lock<=id) (iJ:id∉σ.hid) (hr0:w.heap[bx.b]?=some (.cells rs ty (lo,hi)))
  (hh:w'.heap[bx.b]?=some (.cells rs ty (lo',hi'))) (hf:hi'=lo'\/rs.size<=lo') (hsz:w'.heap.size=w.heap.size) (hold:∀ k,k≠bx.b->w'.heap[k]?=w.heap[k]?) (h1:w'.os=w.os) (h2:w'.tape=w.tape) (h3:w'.output=w.output) :
  Sim w0 X σ w'/\Stp X σ w X w':=by
 have hown:=S.lock id bx hx hlk;have hbp:=S.place id bx hx;rw[hown] at hbp;simp only[if_true] at hbp;have hcell:∀ (b o:Nat),w'.cell? ⟨b,o,none⟩=w.cell? ⟨b,o,none⟩:=fun b o=>by
  by_cases e:b=bx.b
  ·subst e;simp[World.cell?,hh,hr0]
  ·exact World.cell?_of_block (w:=w) (hold b e)
 refine⟨⟨?_,S.dom,?_,?_,S.inj,S.lock,S.zero,fun j bj es hj hh' hc'=>?_⟩,⟨om,h1,h2,h3,fun k _ hk=>hold k fun e=>hk id bx hx hlk iJ hown e.symm,Evo.refl X,fun id bx bx' h h'=>by rw[h] at h';cases h';exact .inl rfl,fun id bx' h=>.inl ⟨bx',h,rfl,.inl rfl⟩⟩⟩
 ·exact S.bel.trans ⟨h1,h2,h3,om,fun k hk=>hold k om⟩
 ·intro j bj hj;have:=S.place j bj hj;rw[hsz];exact this
 ·intro j bj g pl cs hj hh' hc';obtain⟨k1,k2,k3,k4,k5,k6⟩:=S.cell j bj g pl cs hj hh' hc';refine⟨k1,k2,k3,k4,fun i v hv=>?_,fun ho=>?_⟩
  ·rw[hcell];exact k5 i v hv
  ·obtain⟨q1,q2,q3,q4,q5,q6,q7,q8⟩:=k6 ho;by_cases e:bj.b=bx.b
   ·rw[e,hr0] at q6;cases q6;exact⟨q1,rs,ty,lo',hi',by rw[e];exact hh,q7,q8.1,by rw[<- q7];exact hf⟩
   ·exact⟨q1,q2,q3,q4,q5,by rw[hold _ e];exact q6,q7,q8⟩
 ·obtain⟨k1,k2,res,ck,k3,k4⟩:=S.j4 j bj es hj hh' hc';refine⟨k1,k2,res,ck,?_,k4⟩;rw[hold _ fun e=>by rw[e,hr0] at k3;cases k3];exact k3
theorem IL{w0 w w':World}{X:Emb}{σ:St}(S:Sim w0 X σ w){id:Nat}{bx:Bx}{g g' b' o' sz:Nat}{pl:Bool}{cs cs':List Value}{d:List Nat}{rs':Array Value}{ty:TypeId}{lo hi:Nat}
  (hx:X id=some bx) (hlk:σ.lock<=id) (iJ:id∉σ.hid) (hc:σ.heap[id]?=some (.cells g pl cs))
  (hh:w'.heap[b']?=some (.cells rs' ty (lo,hi))) (hsz:w.heap.size<=w'.heap.size) (hb:b'=bx.b\/w.heap.size<=b') (hold:∀ k,k < w.heap.size->k≠bx.b->w'.heap[k]?=w.heap[k]?) (h1:w'.os=w.os) (h2:w'.tape=w.tape) (h3:w'.output=w.output)
  (hg:g < g') (hn:0 < cs'.length) (hs':rs'.size=o'+sz) (hf:hi=lo\/rs'.size<=lo) (hl:cs'.length<=sz) (hp:pl=true->cs'.all sc=true) (hr:∀ (j:Nat) (v:Value),cs'[j]?=some v->∃ u,rs'[o'+j]?=some u/\gL X v u)
  (hd1:∀ t,t∈σ.fA->t∈d) (hd2:∀ t,t∈d->t∈σ.fA\/t=id) (hd3:id∉d->∀ r,r∈iN (.cells g' pl cs')->r∈iN (.cells g pl cs)) :
  let X':Emb:=⟨fun i=>if i=id then some ⟨b',o',true,g',cs'.length,sz⟩ else X i,X.y⟩
  Sim w0 X' { σ with heap:=σ.heap.set id (.cells g' pl cs'),fA:=d } w'/\Stp X σ w X' w'/\Ast σ { σ with heap:=σ.heap.set id (.cells g' pl cs'),fA:=d }:=by
 intro X';have hown:=S.lock id bx hx hlk;obtain⟨c1,c2,c3,c4,c5,c6⟩:=S.cell id bx g pl cs hx iJ hc;have hbp:=S.place id bx hx;rw[hown] at hbp;simp only[if_true] at hbp;have hlen:id < σ.heap.length:=S.dom _ _ hx;have aeM:b' < w'.heap.size:=by
  rcases bu b' w'.heap.size with h | h
  ·exact h
  ·rw[Array.getElem?_eq_none h] at hh;cases hh
 have pY:∀ j bj,X j=some bj->j≠id->bj.b≠bx.b:=fun j bj hj hne e=>by
  cases ho:bj.own with
  | true=>exact hne (S.inj j id bj bx hj hx ho hown e)
  | false=>
   have:=(S.place j bj hj).2;rw[ho] at this;simp at this;omega
 have IM:X' id=some ⟨b',o',true,g',cs'.length,sz⟩:=by simp[X']
 have xk:∀ j,j≠id->X' j=X j:=fun j hj=>by simp[X',hj]
 have sq:Evo X X':=Evo.mk' rfl fun j bj hj=>by
  by_cases hji:j=id
  ·subst hji;rw[hx] at hj;cases hj;exact⟨_,IM,.inr (by simp only;omega)⟩
  ·exact⟨bj,by rw[xk j hji];exact hj,.inl rfl⟩
 refine⟨⟨?_,?_,?_,?_,?_,?_,?_,?_⟩,⟨hsz,h1,h2,h3,fun k hk hk'=>hold k hk fun e=>hk' id bx hx hlk iJ hown e.symm,sq,?_,?_⟩,⟨by simp,rfl,rfl,hd1,?_,?_,?_⟩⟩
 ·exact S.bel.trans ⟨h1,h2,h3,hsz,fun k hk=>hold k (by have:=S.bel.size;omega) om⟩
 ·intro j bj hj;by_cases hji:j=id
  ·subst hji;simpa using hlen
  ·rw[xk j hji] at hj;simpa using S.dom j bj hj
 ·intro j bj hj;by_cases hji:j=id
  ·subst hji;rw[IM] at hj;cases hj;refine⟨aeM,?_⟩;simp only[if_true];have:=S.bel.size;rcases hb with rfl | hb<;>omega
  ·rw[xk j hji] at hj;have:=S.place j bj hj;exact⟨om,this.2⟩
 ·intro j bj g2 pl2 cs2 hj hh' hc';by_cases hji:j=id
  ·subst hji;rw[IM] at hj;cases hj;rw[aD hlen] at hc';cases hc';refine⟨rfl,rfl,cm _,hp,fun i v hv=>?_,fun _=>⟨cm _,rs',ty,lo,hi,hh,hs',hl,by rw[<- hs'];exact hf⟩⟩
   ·obtain⟨u,hu,hr'⟩:=hr i v hv;exact⟨u,by simp[World.cell?,hh,hu],hr'.evo sq⟩
  ·rw[xk j hji] at hj;rw[aZ (Ne.symm hji)] at hc';obtain⟨k1,k2,k3,k4,k5,k6⟩:=S.cell j bj g2 pl2 cs2 hj hh' hc';have hne:=pY j bj hj hji;have hlt:=(S.place j bj hj).1;refine⟨k1,k2,k3,k4,fun i v hv=>?_,fun ho=>?_⟩
   ·obtain⟨u,hu,hr'⟩:=k5 i v hv;exact⟨u,by rw[World.cell?_of_block (w:=w) (hold bj.b hlt hne)];exact hu,hr'.evo sq⟩
   ·obtain⟨q1,q2,q3,q4,q5,q6,q7⟩:=k6 ho;exact⟨q1,q2,q3,q4,q5,by rw[hold _ hlt hne];exact q6,q7⟩
 ·intro i j bi bj hi hj oi oj e;by_cases hii:i=id<;>by_cases hjj:j=id
  ·rw[hii,hjj]
  ·subst hii;rw[IM] at hi;cases hi;rw[xk j hjj] at hj;have h1:=pY j bj hj hjj;have h2:=(S.place j bj hj).1;simp at e;rcases hb with rfl | hb
   ·exact absurd e.symm h1
   ·omega
  ·subst hjj;rw[IM] at hj;cases hj;rw[xk i hii] at hi;have h1:=pY i bi hi hii;have h2:=(S.place i bi hi).1;simp at e;rcases hb with rfl | hb
   ·exact absurd e h1
   ·omega
  ·rw[xk i hii] at hi;rw[xk j hjj] at hj;exact S.inj i j bi bj hi hj oi oj e
 ·intro j bj hj hl';by_cases hji:j=id
  ·subst hji;rw[IM] at hj;cases hj;rfl
  ·rw[xk j hji] at hj;exact S.lock j bj hj hl'
 ·intro j bj hj h0;by_cases hji:j=id
  ·subst hji;rw[IM] at hj;cases hj;simp only at h0;omega
  ·rw[xk j hji] at hj;exact S.zero j bj hj h0
 ·intro j bj es hj hh' hc';have hji:j≠id:=fun e=>by subst e;rw[aD hlen] at hc';cases hc'
  rw[xk j hji] at hj;rw[aZ (Ne.symm hji)] at hc';obtain⟨k1,k2,res,ck,k3,k4⟩:=S.j4 j bj es hj hh' hc';exact⟨k1,k2,res,ck,by rw[hold _ (S.place j bj hj).1 (pY j bj hj hji)];exact k3,k4.evo sq⟩
 ·intro j bj bj' hj hj';by_cases hji:j=id
  ·subst hji;exact .inr ⟨hlk,iJ⟩
  ·rw[xk j hji,hj] at hj';cases hj';exact .inl rfl
 ·intro j bj' hj;by_cases hji:j=id
  ·subst hji;rw[IM] at hj;cases hj;exact .inl ⟨bx,hx,hown.symm,hb⟩
  ·rw[xk j hji] at hj;exact .inl ⟨bj',hj,rfl,.inl rfl⟩
 ·intro j hj hnd r hr';by_cases hji:j=id
  ·subst hji;have h:=hd3 hnd;unfold fV at hr' ⊢;rw[aD hlen] at hr';rw[hc];exact h r hr'
  ·unfold fV at hr' ⊢;rwa [aZ (Ne.symm hji)] at hr'
 ·intro j hj hl';refine aZ fun e=>?_;subst e;rcases hl' with hl' | hl'
  ·omega
  ·exact iJ hl'
 ·intro t ht;rcases hd2 t ht with h | rfl
  ·exact .inl h
  ·exact .inr ⟨hlk,iJ⟩
end AM
namespace AM
open Go Go.RowKit
section
variable{P:Program}{X:Emb}{fr:Fr}{a:Act}{o:Oper}{v:Value}{w0 w:World}{σ σ':St}
def n8(P:Program)(w0:World)(o:Oper)(a:Act)(X:Emb)(σ:St)(w:World)(v:Value)(σ':St):Prop:=
 Ast σ σ'/\∃ n u w' X',(execOp a.eval o).run P w=.ok n w'/\(n=.value u\/(n=.skip/\u=undef))/\fN X' v u/\Sim w0 X' σ' w'/\Stp X σ w X' w'
theorem gX.uk(S:Sim w0 X σ w)(h:gX P o a w X v):n8 P w0 o a X σ w v σ:=by obtain⟨u,h1,h2⟩:=h;exact⟨Ast.refl _,_,u,w,X,h1,.inl rfl,h2,S,Stp.refl _ _ _⟩
theorem mJ(b off:Nat)(ty:TypeId)(lo hi:Nat):∀ (us:List Value) (i:Nat) (rs:Array Value) (w:World),w.heap[b]?=some (.cells rs ty (lo,hi))->(hi=lo\/rs.size<=lo)->off+i+us.length<=rs.size->(∀ u∈us,u.oneCell'=true) ->
  ∃ w',(storeCells ⟨b,off,none⟩ us i).run P w=.ok () w'/\w'.heap[b]?=some (.cells (putAt rs.toList (off+i) us).toArray ty (lo,hi))/\w'.heap.size=w.heap.size/\(∀ k,k≠b->w'.heap[k]?=w.heap[k]?)/\w'.os=w.os/\w'.tape=w.tape/\w'.output=w.output
 | [],i,rs,w,hg,_,_,_=>⟨w,rfl,by simpa[putAt] using hg,rfl,fun _ _=>rfl,rfl,rfl,rfl⟩
 | u::us,i,rs,w,hg,hf,hl,h1=>by
  have hi':off+i < rs.size:=by simp at hl;omega
  have acv:(⟨b,off,none⟩:Addr).add i=⟨b,off+i,none⟩:=add_lit b off i;have hcell:w.cell? ⟨b,off+i,none⟩=some rs[off+i]:=by simp[World.cell?,hg,hi']
  have ahl:w.frozen? ⟨b,off+i,none⟩=false:=by simp only[World.frozen?,hg,Bool.and_eq_false_iff,decide_eq_false_iff_not];omega
  have hst:(store ((⟨b,off,none⟩:Addr).add i) u).run P w=.ok () (w.setCell ⟨b,off+i,none⟩ u):=by rw[acv,run_store P w _ u _ (h1 u (by simp)),hcell];simp[ahl]
  have iK:(w.setCell ⟨b,off+i,none⟩ u).heap[b]?=some (.cells (rs.setIfInBounds (off+i) u) ty (lo,hi)):=by simp[World.setCell,eX,hg]
  obtain⟨w',e1,e2,e3,e4,e5,e6,e7⟩:=mJ b off ty lo hi us (i+1) (rs.setIfInBounds (off+i) u) (w.setCell ⟨b,off+i,none⟩ u) iK (by simpa using hf) (by simp at hl ⊢;omega) (fun x hx=>h1 x (by simp[hx]));refine⟨w',by simp only[storeCells,Sem.run_bind,hst,Result.andThen_ok,e1],?_,by rw[e3];simp[World.setCell],fun k hk=>?_,e5,e6,e7⟩
  ·rw[e2];simp[putAt,cA]
  ·rw[e4 k hk,Below.heap_setCell _ _ _ _ hk]
theorem rZ{t:TypeId}{n:Option Nat}{ad ra:Addr}{pl:Bool}{cs:List Value}(ht:mH P t=some n)(S:Sim w0 X σ w)(hb:σ.blk ad=some (pl,cs))(hr:qi X ad ra)(h:gI cs ad.off n=some v) :
  ∃ u,(loadVar t ra).run P w=.ok u w/\lg X v u:=by
 cases n with
 | none=>
  obtain⟨h1,h2⟩:=Bd ht;obtain⟨bx,hx,hs,rfl,hc⟩:=S.read hb hr;simp only[gI] at h;obtain⟨u,hu,hv⟩:=hc _ _ h;exact⟨u,by simp[loadVar,oz h1,hu],lq hv⟩
 | some n=>
  obtain⟨h1,h2⟩:=Bc ht;simp only[gI] at h;split at h
  ·rename_i hle;cases h;obtain⟨rs,h3,h4⟩:=S.oB hb hr hle;have hl:rs.length=n:=by rw[<- h3.1];simp;omega
   have:=run_loadCells_list (P:=P) w ra rs h4;rw[hl] at this;refine⟨.agg rs.toArray,by simp[loadVar,oz h1,iW h2,this],?_⟩;simp only[lg];exact⟨_,rfl,h3⟩
  ·cases h
theorem Q6{t:TypeId}{n:Option Nat}{x:Operand}{fz:fD}(ho:o.op=.load t x)(ht:mH P t=some n)(S:Sim w0 X σ w)(hx:∀ v,ev fr x=some v->fN X v (a.eval x))(h:aop fz (.load n x) fr σ=some (v,σ')):n8 P w0 o a X σ w v σ':=by
 simp only[aop] at h;split at h
 ·rename_i ad e;simp only[aa,aj] at h;obtain⟨⟨pl,cs⟩,hb,q,hq,h⟩:=h;cases h;obtain⟨ra,h1,h2⟩:=kY (hx _ e);obtain⟨u,hu,hr⟩:=rZ (P:=P) ht S hb h2 hq;exact gX.uk S ⟨u,by simp[execOp,ho,h1,Instr.loadAt,Instr.sureAddr,hu],jA hr⟩
 ·cases h
theorem nJ{σ:St}{b:Nat}{vs:List Value} : (∀ t,t∈σ.fA->t∈gm σ b vs)/\(∀ t,t∈gm σ b vs->t∈σ.fA\/t=b)/\(b∉gm σ b vs->vs.all sc=true):=by
 unfold gm;split
 ·rename_i hc;refine⟨fun _ h=>h,fun _ h=>.inl h,fun h=>?_⟩;simp only[bF] at hc;rcases hc with hc | hc
  ·exact hc
  ·exact absurd (by simpa using hc) h
 ·exact⟨fun t h=>by simp[h],fun t h=>by simp at h;exact h.symm,fun h=>by simp at h⟩
theorem OQ{v:Value}(h:sc v=true):fJ v=[]:=by unfold fJ;split<;>first | rfl | simp[sc] at h
theorem qY{vs:List Value}(h:vs.all sc=true):vs.flatMap fJ=[]:=by rw[cW];intro v hv;exact OQ (aF.1 h v hv)
theorem mem_set{l:List Value}{i:Nat}{v x:Value}(h:x∈l.set i v):x∈l\/x=v:=by
 rcases eD h with h | h
 ·exact .inl h
 ·exact .inr h
theorem xl:∀ {vs l:List Value} {off:Nat} {x:Value},x∈putAt l off vs->x∈l\/x∈vs
 | [],l,off,x,h=>.inl h
 | v::vs,l,off,x,h=>by
  have h':x∈putAt (l.set off v) (off+1) vs:=h;rcases xl h' with h | h
  ·rcases mem_set h with h | h
   ·exact .inl h
   ·exact .inr (by simp[h])
  ·exact .inr (by simp[h])
theorem kF:∀ (us l:List Value) (off j:Nat),off+us.length<=l.length->(putAt l off us)[j]?=if off<=j/\j < off+us.length then us[j - off]? else l[j]?
 | [],l,off,j,_=>by simp[putAt];omega
 | u::us,l,off,j,h=>by
  simp only[az] at h;rw[putAt,kF us (l.set off u) (off+1) j (by simp;omega)];simp only[az];by_cases h1:off+1<=j/\j < off+1+us.length
  ·rw[if_pos h1,if_pos om,show j - off=(j - (off+1))+1 by omega,cJ]
  ·rw[if_neg h1];by_cases h2:j=off
   ·subst h2;rw[if_pos om,aD om,cL,cI]
   ·rw[if_neg om,aZ (fun e=>h2 e.symm)]
theorem qZ{ad ra:Addr}{vs us:List Value}(S:Sim w0 X σ w)(hr:qi X ad ra)(pX:gq (gL X) vs us)(h:σ.write ad vs=some σ') :
  Ast σ σ'/\∃ w',(storeCells ra us).run P w=.ok () w'/\Sim w0 X σ' w'/\Stp X σ w X w':=by
 unfold St.write at h;split at h
 ·cases h
 ·rename_i hlk;simp only[aa] at h;obtain⟨⟨pl,cs⟩,hb,h⟩:=h;simp only at h;split at h
  ·rename_i hc;simp only[au,decide_eq_true_eq,bF,bU] at hc;split at h
   ·rename_i g pl' cs' hg;cases h;obtain⟨iJ,g0,hg0,hsp⟩:=qW hb;rw[hg] at hg0;cases hg0;obtain⟨bx,hx,hs,rfl,hcell⟩:=S.read hb hr;have hown:=S.lock _ bx hx om;obtain⟨c1,c2,c3,c4,c5,c6⟩:=S.cell _ bx g pl cs hx iJ hg;obtain⟨o1,rs,ty,lo,hi,o2,o3,o4,o5⟩:=c6 hown;have hlen:us.length=vs.length:=pX.1.symm;obtain⟨w',e1,e2,e3,e4,e5,e6,e7⟩:=mJ (P:=P) bx.b (bx.o+ad.off) ty lo hi us 0 rs w o2 om om (fun u hu=>by
     obtain⟨i,hi⟩:=cS.1 hu;have hil:i < vs.length:=by rw[<- hlen];exact(af.1 hi).1
     exact AU (pX.2 i _ u (aq hil) hi))
    have FW:=Q5 S (cs':=putAt cs ad.off vs) (d:=gm σ ad.block vs) hx om iJ hg o2 e2 e3 e4 e5 e6 e7 (jD _ _ _) (by simp[jD]) (fun e=>by
      rw[aF];intro x hx';rcases xl hx' with h' | h'
      ·exact aF.1 (c4 e) x h'
      ·exact aF.1 (hc.2.resolve_left (by simp[e])) x h')
     (fun j p hp=>by
      have hjl:j < cs.length:=by rw[<- jD vs cs ad.off];exact(af.1 hp).1
      have hput:(putAt rs.toList (bx.o+ad.off+0) us).toArray[bx.o+j]?=if bx.o+ad.off<=bx.o+j/\bx.o+j < bx.o+ad.off+us.length then us[bx.o+j - (bx.o+ad.off)]? else rs.toList[bx.o+j]?:=by have:=kF us rs.toList (bx.o+ad.off) (bx.o+j) (by simp;omega);simpa using this
      have aeN:=kF vs cs ad.off j om;rw[aeN] at hp;rw[hput];split at hp
      ·rename_i hin;rw[if_pos om,show bx.o+j - (bx.o+ad.off)=j - ad.off by omega];exact pX.get hp
      ·rename_i hin;rw[if_neg om];obtain⟨u,hu,hr'⟩:=c5 j p hp;simp only[World.cell?,o2] at hu;exact⟨u,by simpa using hu,hr'⟩)
     nJ.1 nJ.2.1 (fun hnd r hr'=>by
      have hsc:=nJ.2.2 hnd;cases pl with
      | true=>simp[iN] at hr'
      | false=>
       simp only[iN,aY] at hr' ⊢;obtain⟨x,hx',hr'⟩:=hr';rcases xl hx' with h' | h'
       ·exact⟨x,h',hr'⟩
       ·rw[OQ (aF.1 hsc x h')] at hr';cases hr')
    exact⟨FW.2.2,w',e1,FW.1,FW.2.1⟩
   ·cases h
  ·cases h
theorem nh{X:Emb} : fN X (.tuple #[]) undef:=⟨#[],rfl,gq.nil⟩
theorem Mh{t:TypeId}{n:Nat}{x y:Operand}{fz:fD}(ho:o.op=.store t x y)(ht:gl P t=some n)(S:Sim w0 X σ w)(hx:∀ v,ev fr x=some v->fN X v (a.eval x))(hy:∀ v,ev fr y=some v->fN X v (a.eval y))
  (h:aop fz (.store n x y) fr σ=some (v,σ')):n8 P w0 o a X σ w v σ':=by
 simp only[aop,aa] at h;obtain⟨p,hp,h⟩:=h;split at h
 ·rename_i ad e;split at h
  ·rename_i hn;simp only[aj] at h;obtain⟨σ1,hw,h⟩:=h;cases h;obtain⟨ra,h1,h2⟩:=kY (hx _ e);have hall:(cellsOf p).all fY=true:=by
    unfold St.write at hw;split at hw
    ·cases hw
    ·simp only[aa] at hw;obtain⟨⟨pl,cs⟩,hb,hw⟩:=hw;simp only at hw;split at hw
     ·rename_i hc;simp only[au] at hc;exact hc.1.2
     ·cases hw
   have Bn:=xd (hy p hp) hall;obtain⟨ha,w',e1,e2,e3⟩:=qZ (P:=P) S h2 Bn hw;refine⟨ha,.skip,undef,w',X,?_,.inr ⟨rfl,rfl⟩,nh,e2,e3⟩;have hsz:(a.eval y).cells.size=n:=by rw[<- hn,Bn.1];simp
   simp[execOp,ho,h1,Instr.storeAt,Instr.sureAddr,storeVar,iW ht,hsz,e1]
  ·cases h
 ·cases h
theorem OR{X:Emb}{n g k s:Nat}{b:Nat}(h:X n=some ⟨b,0,true,g,k,s⟩):qi X ⟨n,0,some g⟩ ⟨b,0,none⟩:=⟨_,h,g,rfl,av _,fun _=>rfl⟩
theorem ni{X:Emb}{id n e g k s b c:Nat}(h:X id=some ⟨b,0,true,g,k,s⟩)(h1:n<=c)(h2:c<=maxLen)(h4:e<=1048576)(h3:0 < e->k<=c*e/\c*e<=s):n3 X ⟨id,0,some g⟩ n e ⟨b,0,none⟩ c:=
 ⟨h1,h2,_,h,g,rfl,av _,fun _=>⟨fun _=>rfl,fun he=>.of h4 (by simpa using h3 he)⟩⟩
theorem heap_alloc(w:World)(ob:Obj):(w.alloc ob).heap=w.heap.push ob:=rfl
theorem pZ{rcs:Array Value}{ty:TypeId}{pl:Bool}{cs:List Value}(S:Sim w0 X σ w)(pX:gq (gL X) cs rcs.toList)(hp:pl=true->cs.all sc=true) :
  let X':Emb:=⟨fun id=>if id=σ.heap.length then some ⟨w.heap.size,0,true,0,cs.length,rcs.size⟩ else X id,X.y⟩
  Sim w0 X' (σ.new (.cells 0 pl cs)).2 (w.alloc (.cells rcs ty))/\Stp X σ w X' (w.alloc (.cells rcs ty))/\Ast σ (σ.new (.cells 0 pl cs)).2:=
 qX S (heap_alloc w _) rfl rfl rfl (.inl rfl) (cm _) (by rw[pX.1];simp) hp (fun j v hv=>by
  obtain⟨u,hu,hr⟩:=pX.get hv;exact⟨u,by simpa using hu,hr⟩) (fun h0=>by have:=pX.1;simp only[bZ] at this;omega)
theorem Mi{e:TypeId}{zs:List Value}{fz:fD}(ho:o.op=.alloc e)(hz:kU P e=some zs)(S:Sim w0 X σ w)(h:aop fz (.alloc (nD P 8 e) zs) fr σ=some (v,σ')):n8 P w0 o a X σ w v σ':=by simp only[aop,ay,bT] at h;obtain⟨rfl,rfl⟩:=h;obtain⟨z,hz1,hz2,hz3,_⟩:=II hz w;obtain⟨e1,e2,e3⟩:=pZ (ty:=e) (rcs:=z.cells) (pl:=nD P 8 e) (cs:=zs) S (by rw[hz2];exact jE hz3) (fun _=>aF.2 hz3);refine⟨e3,.value (.pointer (some ⟨w.heap.size,0,none⟩)),_,_,_,?_,.inl rfl,⟨_,rfl,OR (if_pos rfl)⟩,e1,e2⟩;simp[execOp,ho,Instr.alloc,hz1,newVar,newRow]
theorem Uc{e:TypeId}{x:Operand}{pl:Bool}{fz:fD}(ho:o.op=.box e x)(S:Sim w0 X σ w)(hx:∀ v,ev fr x=some v->fN X v (a.eval x))(h:aop fz (.box pl x) fr σ=some (v,σ')):n8 P w0 o a X σ w v σ':=by
 simp only[aop,aa] at h;obtain⟨p,hp,h⟩:=h;split at h
 ·rename_i hc;simp only[ay,bT] at h;obtain⟨rfl,rfl⟩:=h;simp only[au,bF,bU] at hc;obtain⟨e1,e2,e3⟩:=pZ (ty:=e) (rcs:=(a.eval x).cells) (pl:=pl) (cs:=cellsOf p) S (xd (hx p hp) hc.1) (fun e=>hc.2.resolve_left (by simp[e]));refine⟨e3,.value (.pointer (some ⟨w.heap.size,0,none⟩)),_,_,_,?_,.inl rfl,⟨_,rfl,OR (if_pos rfl)⟩,e1,e2⟩;simp[execOp,ho,Instr.box,newVar,newRow]
 ·cases h
end
end AM
namespace AM
open Go Go.RowKit
section
variable{P:Program}{X:Emb}{fr:Fr}{a:Act}{o:Oper}{v:Value}{w0 w:World}{σ σ':St}
theorem ql{e:TypeId}{zs:List Value}(h:kU P e=some zs):∃ i z,P.info? e=some i/\i.zero=some z/\z.cells.toList=zs/\i.size=zs.length/\z.cells.size=i.size/\∀ v∈zs,sc v=true:=by
 unfold kU at h;cases hi:P.info? e with
 | none=>rw[hi] at h;cases h
 | some i=>
  rw[hi] at h;cases hz:i.zero with
  | none=>simp[hz] at h
  | some z=>
   simp only[hz] at h;split at h
   ·rename_i hc;cases h;simp only[au,decide_eq_true_eq] at hc;exact⟨i,z,rfl,hz,rfl,by rw[<- hc.1];simp,hc.1,fun v hv=>aF.1 hc.2 v hv⟩
   ·cases h
theorem Bo(z:Array Value)(hz:0 < z.size):∀ (n k:Nat),(List.range' (k*z.size) (n*z.size)).map (fun i=>z[i%z.size]!)=(List.replicate n z.toList).flatten
 | 0,k=>by simp
 | n+1,k=>by
  have e:(n+1)*z.size=z.size+n*z.size:=by rw[bS];omega
  have e2:k*z.size+1*z.size=(k+1)*z.size:=by rw[bS]
  rw[e,<- List.range'_append,dh,bO,dc,e2,Bo z hz n (k+1)];congr 1;apply cY
  ·simp
  ·intro i h1 h2;have hi:i < z.size:=by simpa using h1
   simp[bE k,eJ hi,hi]
theorem xm(z:Array Value)(n:Nat)(hz:0 < z.size):((Array.range (n*z.size)).map fun i=>z[i%z.size]!).toList=(List.replicate n z.toList).flatten:=by have:=Bo z hz n 0;simpa[List.range_eq_range'] using this
theorem zO{zs:List Value}(h:∀ v∈zs,sc v=true)(n:Nat):∀ v∈(List.replicate n zs).flatten,sc v=true:=fun v hv=>by simp only[List.mem_flatten,List.mem_replicate] at hv;obtain⟨l,⟨_,rfl⟩,hv⟩:=hv;exact h v hv
theorem sF(n:Nat)(zs:List Value):(List.replicate n zs).flatten.length=n*zs.length:=by simp
theorem nj{t e:TypeId}(h:qQ P t=some e):P.underlying t=some (.slice e):=by
 unfold qQ at h;split at h
 ·rename_i q;cases h;exact q
 ·cases h
theorem IN{t e:TypeId}{n s:Nat}{ps:Array (Nat×Operand)}{ps':List (Nat×Nat×Operand)}{zs:List Value}{pl:Bool}{fz:fD}(ho:o.op=.buildSlice t n ps)(he:qQ P t=some e)(hs:gl P e=some s)(hz:kU P e=some zs)(h0:0 < s)(h02:s<=1048576)(hn:n*s<=1048576)
  (hps:sA (fun i=>some (i*s,s)) ps.toList=some ps') (S:Sim w0 X σ w) (hx:∀ q∈ps.toList,∀ v,ev fr q.2=some v->fN X v (a.eval q.2))
  (h:aop fz (.gV pl s n (List.replicate n zs).flatten ps') fr σ=some (v,σ')):n8 P w0 o a X σ w v σ':=by
 simp only[aop,aa] at h;obtain⟨vals,hv,cs,hc,h⟩:=h;split at h
 ·rename_i hk;simp only[ay,bT] at h;obtain⟨rfl,rfl⟩:=h;simp only[au,decide_eq_true_eq,bF,bU,small] at hk;obtain⟨i,z,hi,hz1,hz2,hz3,hz4,hz5⟩:=ql hz;have hss:s=zs.length:=by simp[gl,hi] at hs;omega
  have hu:=nj he;have hnm:n<=n*s:=eR n h0;have aeO:gq (gL X) (List.replicate n zs).flatten ((Array.range (n*s)).map fun i=>z.cells[i%z.cells.size]!).toList:=by have:=xm z.cells n om;rw[hz4,hz3,<- hss] at this;rw[hz4,hz3,<- hss,this,hz2];exact jE (zO hz5 n)
  obtain⟨rs,e1,e2⟩:=Bm (X:=X) (a:=a) (place:=fun i=>some (i*s,s)) (fun i q hq=>hq) ps.toList ps' vals _ cs _ hx hps hv hc aeO;obtain⟨g1,g2,g3⟩:=pZ (ty:=e) (rcs:=rs) (pl:=pl) (cs:=cs) S e2 (fun e=>hk.2.resolve_left (by simp[e]));have hrl:rs.size=n*s:=by rw[<- hk.1.1,e2.1];simp
  refine⟨g3,.value (.slice (some ⟨w.heap.size,0,none⟩) n n),_,_,_,?_,.inl rfl,⟨_,_,rfl,ni (if_pos rfl) (av _) (by simp only[maxLen];omega) h02 (fun _=>by omega)⟩,g1,g2⟩;have e1':Instr.fill (fun i=>some (i*s,s)) ((Array.range (n*s)).map fun i=>z.cells[i%z.cells.size]!) (ps.map fun x=>(x.1,a.eval x.2)).toList=some rs:=by simpa using e1
  have n24:¬ 16777216 < n*s:=om
  have his:i.size=s:=om
  have hrun:(Instr.buildSlice t n (ps.map fun x=>(x.1,a.eval x.2))).run P w=.ok (.slice (some ⟨w.heap.size,0,none⟩) n n) (w.alloc (.cells rs e)):=by
   by_cases hn0:n*s=0
   ·have h':Instr.fill (fun i=>some (i*s,s)) #[] (ps.map fun x=>(x.1,a.eval x.2)).toList=some rs:=by rw[hn0] at e1';rw[<- e1',Array.range_zero',Array.map_empty]
    have h2:¬ n*i.size > 2 ^ 24:=by rw[his];omega
    have h3:n*i.size=0:=by rw[his];exact hn0
    rw[<- his] at h';simp only[Instr.buildSlice,Sem.run_bind,run_underlying hu,Result.andThen_ok,sizeOf,typeInfo,run_program,hi,Sem.run_pure];rw[if_neg h2,if_pos h3];simp only[Sem.run_bind,Sem.run_pure,Result.andThen_ok,h3,Array.range_zero',Array.map_empty];rw[h'];simp[newRow]
   ·rw[<- his] at e1' n24 hn0;exact run_buildSlice w t e n _ rs i z hu hi hz1 om hn0 e1'
  simp[execOp,ho,hrun]
 ·cases h
theorem FX{t e:TypeId}{s:Nat}{x y:Operand}{zs:List Value}{pl:Bool}{fz:fD}(ho:o.op=.makeSlice t x y)(he:qQ P t=some e)(hs:gl P e=some s)(hz:kU P e=some zs)(h0:0 < s)(h02:s<=1048576)(hb:jK P e=true)
  (S:Sim w0 X σ w) (hx:∀ v,ev fr x=some v->fN X v (a.eval x)) (hy:∀ v,ev fr y=some v->fN X v (a.eval y))
  (h:aop fz (.l7 pl s zs x y) fr σ=some (v,σ')):n8 P w0 o a X σ w v σ':=by
 simp only[aop,aa] at h;obtain⟨lv,hlv,cv,hcv,l,hl,c,hc,h⟩:=h;split at h
 ·rename_i hk;simp only[ay,bT] at h;obtain⟨rfl,rfl⟩:=h;simp only[au,decide_eq_true_eq] at hk;obtain⟨i,z,hi,hz1,hz2,hz3,hz4,hz5⟩:=ql hz;have hss:s=zs.length:=by simp[gl,hi] at hs;omega
  obtain⟨k1,rfl⟩:∃ k,lv=.int k l:=by cases lv<;>simp[Y4] at hl;exact⟨_,by rw[hl]⟩
  obtain⟨k2,rfl⟩:∃ k,cv=.int k c:=by cases cv<;>simp[Y4] at hc;exact⟨_,by rw[hc]⟩
  have h1:=jr (hx _ hlv);have h2:=jr (hy _ hcv);have hu:=nj he;have hby:i.bytes<=4194304:=by simpa[jK,zM,hi] using hb
  have hle:(i.bytes:Int)*c<=281474976710656:=by have:(i.bytes:Int)*c<=4194304*1048576:=Int.mul_le_mul om om om om;omega
  have hrun:=run_make (P:=P) (w:=w) t e i z hu hi hz1 k1 k2 l c om om hle om;have aeP:(madeCells z.cells (c.toNat*i.size)).toList=(List.replicate c.toNat zs).flatten:=by have:=xm z.cells c.toNat om;rw[hz4] at this;rw[<- hz2,<- this];unfold madeCells;rw[hz4]
  have hcl:c.toNat=l.toNat+(c.toNat - l.toNat):=om
  have FW:=qX (w':=w.alloc (.cells (madeCells z.cells (c.toNat*i.size)) e)) (g:=0) (pl:=pl) (cs:=(List.replicate l.toNat zs).flatten) S (heap_alloc w _) rfl rfl rfl (.inl rfl) (cm _)
   (by rw[sF,size_madeCells,hz3];exact cq _ om) (fun _=>aF.2 (zO hz5 _)) (fun j p hp=>by
    refine⟨p,?_,(iR (zO hz5 _ p (aW hp))).2 rfl⟩;have hjl:=(af.1 hp).1;rw[<- ez,aeP,hcl,<- List.replicate_append_replicate,List.flatten_append,aA hjl];exact hp) (fun h0=>by
    rw[sF] at h0;rw[size_madeCells,hz3];have hc0:l.toNat=0:=by
     rcases Nat.mul_eq_zero.1 h0 with h | h
     ·exact h
     ·omega
    have:c.toNat=0:=by have hk2:=hk.2;simp only[bF,decide_eq_true_eq,ne_eq,decide_not,bU,decide_eq_false_iff_not] at hk2;omega
    rw[this];simp)
  obtain⟨g1,g2,g3⟩:=FW;refine⟨g3,.value (.slice (some ⟨w.heap.size,0,none⟩) l.toNat c.toNat),_,_,_,?_,.inl rfl,⟨_,_,rfl,ni (if_pos rfl) om (by simp only[maxLen];omega) h02 (fun _=>?_)⟩,g1,g2⟩
  ·simp[execOp,ho,h1,h2,hrun]
  ·rw[sF,size_madeCells,hz3,<- hss];exact⟨cq _ om,av _⟩
 ·cases h
theorem uW{e:TypeId}(h:nE P e=true):P.underlying e=some (.int .u8)/\gl P e=some 1:=by
 unfold nE at h;split at h
 ·rename_i q;exact⟨q,by simpa using h⟩
 ·cases h
theorem Ud(w:World)(e:TypeId)(st:ByteArray) :
  ∃ w',(Conv.stringToBytes e st).run P w=.ok (.slice (some ⟨w.heap.size,0,none⟩) st.size (grownCap w st.size 0 e)) w' /\
   w'.heap=w.heap.push (.cells (st.data.map (fun b=>Value.int .u8 b.toNat)++Array.replicate (grownCap w st.size 0 e - st.size) (.int .u8 0)) e
    ((st.data.map (fun b=>Value.int .u8 b.toNat)++Array.replicate (grownCap w st.size 0 e - st.size) (Value.int .u8 0)).size,(st.data.map (fun b=>Value.int .u8 b.toNat)++Array.replicate (grownCap w st.size 0 e - st.size) (Value.int .u8 0)).size+1))/\w'.os=w.os/\w'.tape=w.tape/\w'.output=w.output:=by
 have hsh:∀ (w:World) (r:Nat),(shape r).run P w=.ok (w.shape? r) w:=fun _ _=>rfl;have hfr:∀ (w:World) (a:Addr) (n:Nat),(freeze a n).run P w=.ok () (w.freeze a n):=fun _ _ _=>rfl;have hch:(choose (.appendCap st.size 0 e)).run P w=.ok (grownCap w st.size 0 e) w.drew:=rfl;simp only[Conv.stringToBytes,Sem.run_bind,hch,Result.andThen_ok,newRow,run_newObj,Sem.run_pure,markStringish,hsh];generalize st.data.map (fun b=>Value.int .u8 b.toNat)++Array.replicate (grownCap w st.size 0 e - st.size) (Value.int .u8 0)=R;have hs2:({ w.drew with heap:=w.drew.heap.push (.cells R e) } : World).shape? w.drew.heap.size=some (e,R.size):=by unfold World.shape?;show(match (w.drew.heap.push (Obj.cells R e))[w.drew.heap.size]? with | some (Obj.cells c elem _)=>some (elem,c.size) | _=>none)=_;rw[eK]
 simp only[hs2,hfr,Result.andThen_ok];refine⟨_,rfl,?_,rfl,rfl,rfl⟩;show(if (1:Nat)=0 then _ else _:World).heap=_;rw[if_neg om];change Array.modify (w.heap.push (Obj.cells R e)) w.heap.size (fun x=>match x with | Obj.cells c elem (lo,hi)=>Obj.cells c elem (if (lo==hi)=true then (R.size,R.size+1) else (min lo R.size,max hi (R.size+1))) | o=>o)=_;apply Array.ext_getElem?;intro i;rw[eX];by_cases hi:w.heap.size=i
 ·subst hi;rw[if_pos rfl,eK,eK];simp
 ·rw[if_neg hi,eO,eO,if_neg (fun e=>hi e.symm),if_neg (fun e=>hi e.symm)]
theorem ku(s:ByteArray):(jz s).length=s.size:=by simp[jz]
theorem sG(s:ByteArray):∀ v∈jz s,sc v=true:=fun v hv=>by simp only[jz,bw] at hv;obtain⟨b,_,rfl⟩:=hv;rfl
theorem Q7{s d e:TypeId}{x:Operand}{fz:fD}(ho:o.op=.convert s d x)(hs:P.underlying s=some .string)(hd:P.underlying d=some (.slice e))(he:nE P e=true)
  (S:Sim w0 X σ w) (hx:∀ v,ev fr x=some v->fN X v (a.eval x)) (h:aop fz (.Dw x) fr σ=some (v,σ')):n8 P w0 o a X σ w v σ':=by
 simp only[aop] at h;split at h
 ·rename_i st hst;split at h
  ·rename_i hsm;simp only[ay,bT] at h;obtain⟨rfl,rfl⟩:=h;simp only[small,decide_eq_true_eq,au] at hsm;obtain⟨hsm,hpos⟩:=hsm;obtain⟨hu,hsz⟩:=uW he;have h1:=kX (hx _ hst);have hcap:st.size<=grownCap w st.size 0 e/\grownCap w st.size 0 e<=maxLen:=⟨grownCap_ge w _ _ _,grownCap_le_maxLen w _ _ _ (by simp only[maxLen];omega)⟩;obtain⟨w',hrun,hheap,q1,q2,q3⟩:=Ud (P:=P) w e st;have hR:(st.data.map (fun b=>Value.int .u8 b.toNat)++Array.replicate (grownCap w st.size 0 e - st.size) (Value.int .u8 0)).size=grownCap w st.size 0 e:=by have hd:st.data.size=st.size:=rfl;simp only[eV,Array.size_map,Array.size_replicate,hd];omega
   generalize grownCap w st.size 0 e=cap at *;have hpre:∀ (j:Nat) (p:Value),(jz st)[j]?=some p->(st.data.map (fun b=>Value.int .u8 b.toNat)++Array.replicate (cap - st.size) (Value.int .u8 0))[j]?=some p:=fun j p hp=>by
    have hjl:j < st.data.size:=by have:=(af.1 hp).1;rw[ku] at this;exact this
    rw[cK (by simpa using hjl),<- ez,Array.toList_map];exact hp
   generalize st.data.map (fun b=>Value.int .u8 b.toNat)++Array.replicate (cap - st.size) (Value.int .u8 0)=R at *;obtain⟨g1,g2,g3⟩:=qX (w':=w') (g:=0) (pl:=true) (cs:=jz st) S hheap q1 q2 q3 (.inr (av _)) (cm _) (by rw[hR,ku];exact hcap.1) (fun _=>aF.2 (sG st))
    (fun j p hp=>⟨p,hpre j p hp,(iR (sG st p (aW hp))).2 rfl⟩) (fun h0=>by rw[ku] at h0;omega)
   refine⟨g3,.value (.slice (some ⟨w.heap.size,0,none⟩) st.size cap),_,w',_,?_,.inl rfl,⟨_,_,rfl,ni (if_pos rfl) hcap.1 hcap.2 (by first | exact h02 | omega) (fun _=>?_)⟩,g1,g2⟩
   ·simp only[execOp,ho,h1,convert,Sem.run_bind,fL hs,fL hd,fL hu,Result.andThen_ok,hrun,Sem.run_pure]
   ·rw[hR,ku];omega
  ·cases h
 ·cases h
theorem sH:∀ {l:List Value} {m:List UInt8},kG l=some m->∃ ns:List Int,l=ns.map (Value.int .u8)/\m=ns.map fun n=>UInt8.ofNat n.toNat
 | [],m,h=>by simp only[kG,ay] at h;exact⟨[],rfl,by simp[<- h]⟩
 | x::l,m,h=>by
  cases x with
  | int k n=>
   cases k with
   | u8=>
    simp only[kG,aj] at h;obtain⟨m',h1,rfl⟩:=h;obtain⟨ns,rfl,rfl⟩:=sH h1;exact⟨n::ns,rfl,rfl⟩
   | _=>simp[kG] at h
  | _=>simp[kG] at h
theorem Q8{s d e:TypeId}{x:Operand}{fz:fD}(ho:o.op=.convert s d x)(hs:P.underlying s=some (.slice e))(hd:P.underlying d=some .string)(he:nE P e=true)
  (S:Sim w0 X σ w) (hx:∀ v,ev fr x=some v->fN X v (a.eval x)) (h:aop fz (.AP x) fr σ=some (v,σ')):n8 P w0 o a X σ w v σ':=by
 obtain⟨hu,hsz⟩:=uW he;simp only[aop] at h;split at h
 ·rename_i xp;cases h;have h1:=iO (hx _ xp);refine gX.uk S ⟨.string ⟨#[]⟩,?_,oH _⟩;simp only[execOp,ho,h1,convert,Sem.run_bind,fL hs,fL hd,fL hu,Result.andThen_ok,Conv.bytesToString,Sem.run_pure];rfl
 ·rename_i ad n e' hsl;simp only[aa] at h;obtain⟨⟨pl,cs⟩,hb,h⟩:=h;simp only at h;split at h
  ·rename_i hle;simp only[aj] at h;obtain⟨l,hl,h⟩:=h;cases h;obtain⟨ra,c,h1,h2⟩:=iI (hx _ hsl);obtain⟨ns,e1,rfl⟩:=sH hl;refine gX.uk S ⟨.string ⟨(ns.map fun n=>UInt8.ofNat n.toNat).toArray⟩,?_,oH _⟩;have aeQ:(loadCells ra n).run P w=.ok (ns.map (Value.int .u8)).toArray w:=by
    rcases dw n with rfl | hn
    ·have:ns=[]:=by simpa using e1
     subst this;rfl
    ·obtain⟨hn',hm,bx,hx',s',hs',hl',hr⟩:=h2;obtain⟨rs,r1,r2⟩:=S.oB (ra:=ra) hb ⟨bx,hx',s',hs',hl',fun e=>(hr e).1 (.inl hn)⟩ hle;have hrs:rs=ns.map (Value.int .u8):=by rw[e1] at r1;exact qV r1 (fun v hv=>by simp only[bw] at hv;obtain⟨_,_,rfl⟩:=hv;rfl)
     have hrl:rs.length=n:=by rw[<- r1.1];simp;omega
     have:=run_loadCells_list (P:=P) w ra rs r2;rw[hrl,hrs] at this;exact this
   simp only[execOp,ho,h1,convert,Sem.run_bind,fL hs,fL hd,fL hu,Result.andThen_ok,run_bytesToString w ra n c ns aeQ,Sem.run_pure,foldl_push_bytes];congr 3;simp[ByteArray.empty,ByteArray.emptyWithCapacity];rfl
  ·cases h
 ·cases h
theorem Q9{s d e e':TypeId}{x:Operand}{fz:fD}(ho:o.op=.convert s d x)(hs:P.underlying s=some (.slice e'))(hd:P.underlying d=some (.slice e))(he:nE P e=true)(hsd:(s==d)=true)
  (S:Sim w0 X σ w) (hx:∀ v,ev fr x=some v->fN X v (a.eval x)) (h:aop fz (.mark x) fr σ=some (v,σ')):n8 P w0 o a X σ w v σ':=by
 obtain⟨hu,hsz⟩:=uW he;simp only[aop] at h;split at h
 ·rename_i ad n e'' hsl;split at h
  ·cases h
  ·rename_i hc;simp only[bF,decide_eq_true_eq,not_or] at hc;simp only[aj] at h;obtain⟨⟨pl,cs⟩,hb,h⟩:=h;cases h;obtain⟨ra,c,h1,h2⟩:=iI (hx _ hsl);have hR:=hx _ hsl;obtain⟨hn',hm,bx,hx',s',hs',hl',hr⟩:=h2;have hrA:qi X ad ra:=⟨bx,hx',s',hs',hl',fun e=>(hr e).1 (.inl om)⟩;obtain⟨iJ,g,hg,hsp⟩:=qW hb;obtain⟨bx2,hx2,hs2,hra,hcell⟩:=S.read hb hrA;have hown:=S.lock _ bx2 hx2 om;obtain⟨c1,c2,c3,c4,c5,c6⟩:=S.cell _ bx2 g pl cs hx2 iJ hg;obtain⟨o1,rs,ty,lo,hi,o2,o3,o4,o5⟩:=c6 hown;subst hra;have acw:w.shape? bx2.b=some (ty,rs.size):=by simp[World.shape?,o2]
   have hrun:(markStringish ⟨bx2.b,bx2.o+ad.off,none⟩).run P w=.ok () (w.freeze ⟨bx2.b,rs.size,none⟩ 1):=by have hsh:∀ (w:World) (r:Nat),(shape r).run P w=.ok (w.shape? r) w:=fun _ _=>rfl;have hfr:∀ (w:World) (a:Addr) (n:Nat),(freeze a n).run P w=.ok () (w.freeze a n):=fun _ _ _=>rfl;simp only[markStringish,Sem.run_bind,hsh,acw,Result.andThen_ok,hfr]
   have hbl:bx2.b < w.heap.size:=(bA.1 o2).1;have hheap:(w.freeze ⟨bx2.b,rs.size,none⟩ 1).heap=w.heap.modify bx2.b (fun x=>match x with | Obj.cells c elem (lo,hi)=>Obj.cells c elem (if (lo==hi)=true then (rs.size,rs.size+1) else (min lo rs.size,max hi (rs.size+1))) | o=>o):=rfl;have hnew:(w.freeze ⟨bx2.b,rs.size,none⟩ 1).heap[bx2.b]?=some (.cells rs ty (if (lo==hi)=true then (rs.size,rs.size+1) else (min lo rs.size,max hi (rs.size+1)))):=by rw[hheap,eX,if_pos rfl,o2];rfl
   obtain⟨lo',hi',hlh,hf⟩:∃ lo' hi',(if (lo==hi)=true then (rs.size,rs.size+1) else (min lo rs.size,max hi (rs.size+1)))=(lo',hi')/\(hi'=lo'\/rs.size<=lo'):=by
    split
    ·exact⟨_,_,rfl,.inr (av _)⟩
    ·rename_i hne;simp only[beq_iff_eq] at hne;refine⟨_,_,rfl,.inr ?_⟩;omega
   rw[hlh] at hnew;obtain⟨g1,g2⟩:=Ub (w':=w.freeze ⟨bx2.b,rs.size,none⟩ 1) S hx2 om iJ o2 hnew hf (by rw[hheap,Array.size_modify]) (fun k hk=>by rw[hheap,eX,if_neg (fun e=>hk e.symm)]) rfl rfl rfl;refine⟨Ast.refl _,_,_,_,X,?_,.inl rfl,hR,g1,g2⟩;simp only[execOp,ho,h1,convert,Sem.run_bind,fL hs,fL hd,fL hu,Result.andThen_ok,hsd,hrun,Sem.run_pure]
 ·cases h
end
end AM
namespace AM
open Go Go.RowKit
section
variable{P:Program}{X:Emb}{fr:Fr}{a:Act}{o:Oper}{v:Value}{w0 w:World}{σ σ':St}
theorem IP{esz m:Nat}{y u:Value}{vs:List Value}(S:Sim w0 X σ w)(hr:fN X y u)(h:σ.news esz y=some (m,vs))(h0:0 < esz) :
  ∃ us:List Value,gq (gL X) vs us/\vs.length=m*esz/\(∀ w',(Builtin.lenOf u).run P w'=.ok m w')/\∀ k,k<=m->∀ w':World,w'.heap=w.heap->(Builtin.firstCells esz k u).run P w'=.ok (us.take (k*esz)).toArray w':=by
 unfold St.news at h;split at h
 ·cases h;have:=iO hr;subst this;exact⟨[],gq.nil,by simp,fun w'=>rfl,fun k _ w' _=>by simp[Builtin.firstCells]⟩
 ·rename_i b n e;simp only[aa] at h;obtain⟨⟨pl,cs⟩,hb,h⟩:=h;simp only at h;split at h
  ·rename_i hle;cases h;obtain⟨ra,c,rfl,h2⟩:=iI hr;have hlen:((cs.drop b.off).take (m*esz)).length=m*esz:=by simp;omega
   rcases dw m with rfl | hm
   ·refine⟨[],by simpa using gq.nil,hlen,fun w'=>rfl,fun k hk w' _=>?_⟩;obtain rfl:k=0:=om
    simp[Builtin.firstCells,loadCells,loadCellsFrom]
   ·obtain⟨hn',hmx,bx,hx',s',hs',hl',hr'⟩:=h2;obtain⟨rs,r1,r2⟩:=S.oB (ra:=ra) hb ⟨bx,hx',s',hs',hl',fun e=>(hr' e).1 (.inl hm)⟩ hle;refine⟨rs,r1,hlen,fun w'=>rfl,fun k hk w' hw=>?_⟩;have hkm:k*esz<=m*esz:=cq _ hk;have hl2:(rs.take (k*esz)).length=k*esz:=by rw[cP,<- r1.1,hlen];omega
    have:=run_loadCells_list (P:=P) w' ra (rs.take (k*esz)) (fun j v hv=>by
     have hj:j < k*esz:=by rw[<- hl2];exact(af.1 hv).1
     rw[bX hj] at hv;rw[World.cell?_of_block (w:=w) (by rw[hw])];exact r2 j v hv)
    rw[hl2] at this;simpa[Builtin.firstCells] using this
  ·cases h
 ·rename_i s;split at h
  ·rename_i he;subst he;cases h;have:=kX hr;subst this;refine⟨jz s,jE (sG s),by rw[ku];omega,fun w'=>rfl,fun k hk w' _=>?_⟩;have:(Array.map (fun b:UInt8=>Value.int .u8 b.toNat) (s.extract 0 k).data)=((jz s).take (k*1)).toArray:=by apply bR.1;rw[Array.toList_map,ByteArray.data_extract,Array.toList_extract];simp[jz,List.map_take]
   simp only[Builtin.firstCells,this,Sem.run_pure]
  ·cases h
 ·cases h
theorem nV{t u ty e:TypeId}{q:TypeDesc}{i:TypeInfo}{z:Value}(ht:P.underlying t=some (.slice e))(hu:P.underlying u=some q)(hq:∀ k,q≠.int k)(hi:P.info? e=some i)(hz:i.zero=some z)(base:Option Addr)(n c m:Nat)(y:Value)(olds news:List Value)
  (hlen:∀ w',(Builtin.lenOf y).run P w'=.ok m w') (hnew:∀ w':World,w'.heap=w.heap->(Builtin.firstCells i.size m y).run P w'=.ok news.toArray w') (hold:∀ w':World,w'.heap=w.heap->(Builtin.firstCells i.size n (.slice base n c)).run P w'=.ok olds.toArray w')
  (hg:c < n+m) (h63:n+m<=1048576) (hby:i.bytes<=4194304) :
  (Builtin.append_ #[t,u] ty #[.slice base n c,y]).run P w=.ok (.slice (some ⟨w.heap.size,0,none⟩) (n+m) (grownCap w (n+m) c e))
   (w.drew.alloc (.cells (olds.toArray++news.toArray++Builtin.zeroCells z.cells (grownCap w (n+m) c e - (n+m))) e)):=by
 have hn:¬ (n+m<=c):=om
 have h63':¬ (9223372036854775807 < ((n:Int)+(m:Int))):=om
 have hfit:Builtin.nextslicecap (n+m) c*i.bytes<=281474976710656:=growslice_fits hg (bh (eY h63 hby) om);have acy:¬ (281474976710656 < Builtin.nextslicecap (n+m) c*i.bytes):=om
 have hnew1:=hnew w.drew rfl;have aeR:=hold w.drew rfl;simp[Builtin.append_,run_underlying ht,run_underlying hu,sizeOf,typeInfo,zeroValue,hi,hz,hlen,hn,h63',acy,Question.forced,hnew1,aeR,newRow,grownCap];congr 2;apply Array.ext';simp[aR]
theorem run_append_fits{t u ty e:TypeId}{q:TypeDesc}{i:TypeInfo}(ht:P.underlying t=some (.slice e))(hu:P.underlying u=some q)(hq:∀ k,q≠.int k)(hi:P.info? e=some i)(base:Option Addr)(n c m:Nat)(y:Value)(news:List Value){w':World}
  (hlen:∀ w',(Builtin.lenOf y).run P w'=.ok m w') (hnew:(Builtin.firstCells i.size m y).run P w=.ok news.toArray w) (hst:match base with | some b=>(storeCells (b.add (n*i.size)) news).run P w=.ok () w' | none=>w'=w)
  (hg:n+m<=c):(Builtin.append_ #[t,u] ty #[.slice base n c,y]).run P w=.ok (.slice base (n+m) c) w':=by
 cases base with
 | none=>simp only at hst;subst hst;simp[Builtin.append_,run_underlying ht,run_underlying hu,sizeOf,typeInfo,hi,hlen,hg,hnew]
 | some b=>simp only at hst;simp[Builtin.append_,run_underlying ht,run_underlying hu,sizeOf,typeInfo,hi,hlen,hg,hnew,hst]
theorem kZ(z:Array Value)(n:Nat):(Builtin.zeroCells z n).size=n*z.size:=size_zeroCells z n
theorem je{b ra:Addr}{n e c:Nat}(h:n3 X b n e ra c):fN X (.slice (some b) n e) (.slice (some ra) n c):=⟨ra,c,rfl,h⟩
theorem xq{t u ty e:TypeId}{i:TypeInfo}{z:Value}(ht:P.underlying t=some (.slice e))(hu:P.underlying u=some (.int .i64))(hi:P.info? e=some i)(hz:i.zero=some z)(m:Nat)(h0:0 < m)(hm:m<=1048576)(hs:i.size=1)(hby:i.bytes<=4194304) :
  (Builtin.append_ #[t,u] ty #[.slice none 0 0,.int .i64 m]).run P w=.ok (.slice (some ⟨w.heap.size,0,none⟩) m (grownCap w m 0 e))
   (w.drew.alloc (.cells (Builtin.zeroCells z.cells m++Builtin.zeroCells z.cells (grownCap w m 0 e - m)) e)):=by
 have hw:IntKind.i64.wrap (m:Int)=(m:Int):=by simp[IntKind.wrap,IntKind.signed,IntKind.bits];omega
 have hfit:Builtin.nextslicecap m 0*i.bytes<=281474976710656:=growslice_fits om (bh (eY hm hby) om);have acy:¬ (281474976710656 < Builtin.nextslicecap m 0*i.bytes):=om
 have h48:¬ (281474976710656 < (m:Int)*(i.bytes:Int)):=by
  have:=eY hm hby;have h2:((m*i.bytes:Nat):Int)=(m:Int)*(i.bytes:Int):=by simp
  omega
 have hn:¬ m<=0:=om
 have hm0:¬ m=0:=om
 have h63:¬ (9223372036854775807 < (m:Int)):=om
 have hneg:¬ (m:Int) < 0:=om
 simp[Builtin.append_,run_underlying ht,run_underlying hu,sizeOf,typeInfo,zeroValue,hi,hz,asInt,asIntOf,hw,h48,acy,hn,hm0,h63,hneg,hs,Question.forced,newRow,grownCap,Builtin.firstCells]
theorem zA{t u ty e:TypeId}{i:TypeInfo}{z:Value}(ht:P.underlying t=some (.slice e))(hu:P.underlying u=some (.int .i64))(hi:P.info? e=some i)(hz:i.zero=some z) :
  (Builtin.append_ #[t,u] ty #[.slice none 0 0,.int .i64 0]).run P w=.ok (.slice none 0 0) w:=by
 have hw:IntKind.i64.wrap (0:Int)=(0:Int):=by decide
 simp[Builtin.append_,run_underlying ht,run_underlying hu,sizeOf,typeInfo,zeroValue,hi,hz,asInt,asIntOf,hw]
set_option maxHeartbeats 1000000 in
theorem FY{c:Call}{x y:Operand}{t u e:TypeId}{zs:List Value}{fz:fD}(ho:o.op=.call c)(hb:c.callee=.builtin .append)(hc:c.args.toList=[x,y])(hct:c.argTypes.toList=[t,u])(ht:P.underlying t=some (.slice e))(hu:P.underlying u=some (.int .i64))
  (he:nE P e=true) (hz:kU P e=some zs) (hz0:zs=[.int .u8 0]) (hsb:jK P e=true) (S:Sim w0 X σ w) (hx:∀ v,ev fr x=some v->fN X v (a.eval x)) (hy:∀ v,ev fr y=some v->fN X v (a.eval y))
  (h:aop fz (.n6 x y) fr σ=some (v,σ')):n8 P w0 o a X σ w v σ':=by
 simp only[aop,aa] at h;obtain⟨x0,hx0,y0,hy0,h⟩:=h;obtain⟨i,z,hi,hz1,hz2,hz3,hz4,hz5⟩:=ql hz;have his:i.size=1:=by rw[hz3,hz0];rfl
 have hby:i.bytes<=4194304:=by simpa[jK,zM,hi] using hsb
 obtain⟨ks,hks⟩:=jd (P:=P) (a:=a) ho hb w;rw[vO hc,xj hct] at hks;simp only[fq,aK,br,builtin] at hks;have fin:∀ {r:Value} {w':World},(Builtin.append_ #[t,u] o.type #[a.eval x,a.eval y]).run P w=.ok r w'->(execOp a.eval o).run P w=.ok (.value r) w':=fun hr=>by rw[hks];simp only[Sem.run_bind,hr,Result.andThen_ok,Sem.run_pure]
 unfold FG at h;split at h
 ·rename_i k;have e1:=iO (hx _ hx0);have e2:=(gw (v:=.int .i64 k) rfl).1 (hy _ hy0);split at h
  ·rename_i hk;subst hk;cases h;exact⟨Ast.refl _,_,.slice none 0 0,w,X,fin (by rw[e1,e2];exact zA ht hu hi hz1),.inl rfl,(gw rfl).2 rfl,S,Stp.refl _ _ _⟩
  ·split at h
   ·rename_i hk;obtain⟨m,rfl⟩:=cX (by omega:0<=k);rw[dD] at h;cases h;have hm0:0 < m:=om
    have hrun:=xq (P:=P) (w:=w) (ty:=o.type) ht hu hi hz1 m hm0 om his hby;have hcap:m<=grownCap w m 0 e/\grownCap w m 0 e<=maxLen:=⟨grownCap_ge w _ _ _,grownCap_le_maxLen w _ _ _ (by simp only[maxLen];omega)⟩;generalize grownCap w m 0 e=cap at *;have Ra:z.cells.size=1:=om
    have hsz:(Builtin.zeroCells z.cells m++Builtin.zeroCells z.cells (cap - m)).size=cap:=by simp only[eV,kZ,Ra];omega
    have hzc:z.cells=#[.int .u8 0]:=by apply bR.1;rw[hz2,hz0]
    obtain⟨g1,g2,g3⟩:=qX (w':=w.drew.alloc (.cells (Builtin.zeroCells z.cells m++Builtin.zeroCells z.cells (cap - m)) e)) (g:=m) (pl:=true) (cs:=List.replicate m (.int .u8 0)) S (heap_alloc w.drew _) rfl rfl rfl (.inl rfl) (by simp)
     (by rw[hsz];simpa using hcap.1) (fun _=>by simp[AM.sc]) (fun j p hp=>by have hj:=(af.1 hp).1;rw[dj] at hj;rw[dB,if_pos hj] at hp;cases hp;refine⟨.int .u8 0,?_,(iR rfl).2 rfl⟩;rw[cK (by rw[kZ,Ra];omega)];simp[Builtin.zeroCells,hzc,hj,Nat.mod_one]) (fun h0'=>by simp at h0';omega)
    refine⟨g3,_,_,_,_,fin (by rw[e1,e2];exact hrun),.inl rfl,je (ni (if_pos rfl) hcap.1 hcap.2 (by first | exact h02 | omega) (fun _=>?_)),g1,g2⟩;rw[hsz];simp;exact hcap.1
   ·cases h
 ·cases h
set_option maxHeartbeats 1000000 in
theorem yy{c:Call}{x y:Operand}{t u e:TypeId}{q:TypeDesc}{s:Nat}{zs:List Value}{pl:Bool}{fz:fD}(ho:o.op=.call c)(hb:c.callee=.builtin .append)(hc:c.args.toList=[x,y])(hct:c.argTypes.toList=[t,u])(ht:P.underlying t=some (.slice e))(hu:P.underlying u=some q)(hq:∀ k,q≠.int k)
  (hs:gl P e=some s) (hz:kU P e=some zs) (h0:0 < s) (h02:s<=1048576) (hsb:jK P e=true) (S:Sim w0 X σ w) (hx:∀ v,ev fr x=some v->fN X v (a.eval x)) (hy:∀ v,ev fr y=some v->fN X v (a.eval y))
  (h:aop fz (.append pl s x y) fr σ=some (v,σ')):n8 P w0 o a X σ w v σ':=by
 simp only[aop,aa] at h;obtain⟨x0,hx0,y0,hy0,⟨m,vs⟩,hn,h⟩:=h;simp only at h;obtain⟨i,z,hi,hz1,hz2,hz3,hz4,hz5⟩:=ql hz;have his:i.size=s:=by simp[gl,hi] at hs;exact hs
 have Ra:z.cells.size=s:=om
 have hby:i.bytes<=4194304:=by simpa[jK,zM,hi] using hsb
 obtain⟨us,r1,r2,r3,r4⟩:=IP (P:=P) S (hy y0 hy0) hn h0;have hul:us.length=m*s:=by rw[<- r1.1,r2]
 have uX:∀ w':World,w'.heap=w.heap->(Builtin.firstCells i.size m (a.eval y)).run P w'=.ok us.toArray w':=fun w' hw=>by have:=r4 m (av _) w' hw;rw[his,this,bt om]
 obtain⟨ks,hks⟩:=jd (P:=P) (a:=a) ho hb w;rw[vO hc,xj hct] at hks;simp only[fq,aK,br,builtin] at hks;have fin:∀ {r:Value} {w':World},(Builtin.append_ #[t,u] o.type #[a.eval x,a.eval y]).run P w=.ok r w'->(execOp a.eval o).run P w=.ok (.value r) w':=fun hr=>by rw[hks];simp only[Sem.run_bind,hr,Result.andThen_ok,Sem.run_pure]
 have Mj:∀ k,k*s<=1048576->k<=1048576:=fun k hk=>bh (eR k h0) hk;have Ue:∀ (A0:Option Addr),a.eval x=.slice A0 0 0->¬ m=0->(small (m*s)&&vs.all fY&&(!pl||vs.all sc))=true->(v,σ')=(Value.slice (some ⟨σ.heap.length,0,some (m*s)⟩) m s,{ σ with heap:=σ.heap++[.cells (m*s) pl vs] })->n8 P w0 o a X σ w v σ':=by
  intro A0 e1 hm hk heq;cases heq;simp only[au,decide_eq_true_eq,bF,bU,small] at hk;have hm1:=Mj m hk.1.1;have hrun:=nV (P:=P) (w:=w) (ty:=o.type) ht hu hq hi hz1 A0 0 0 m (a.eval y) [] us r3 uX (fun w' _=>by
   cases A0 with
   | none=>simp[Builtin.firstCells]
   | some ra=>
    have:=run_loadCells_list (P:=P) w' ra [] (fun j v hv=>by simp at hv);simpa[Builtin.firstCells] using this) om om hby
  simp only[aX] at hrun;have hcap:m<=grownCap w m 0 e/\grownCap w m 0 e<=maxLen:=⟨grownCap_ge w _ _ _,grownCap_le_maxLen w _ _ _ (by simp only[maxLen];omega)⟩;generalize grownCap w m 0 e=cap at *;have hsz:(([]:List Value).toArray++us.toArray++Builtin.zeroCells z.cells (cap - m)).size=cap*s:=by simp only[eV,List.size_toArray,aT,kZ,Ra,hul];rw[aX,<- bS];congr 1;omega
  have hpos:0 < m*s:=Nat.mul_pos om h0;obtain⟨g1,g2,g3⟩:=qX (w':=w.drew.alloc (.cells (([]:List Value).toArray++us.toArray++Builtin.zeroCells z.cells (cap - m)) e)) (g:=m*s) (pl:=pl) (cs:=vs) S (heap_alloc w.drew _) rfl rfl rfl (.inl rfl) (by rw[r2];exact av _)
   (by rw[hsz,r2];exact cq _ hcap.1) (fun e=>hk.2.resolve_left (by simp[e])) (fun j p hp=>by obtain⟨q',hq',hr⟩:=r1.get hp;refine⟨q',?_,hr⟩;have hj:=(af.1 hq').1;rw[cK (by simp;exact hj)];simpa using hq') (fun h0'=>by omega)
  refine⟨g3,_,_,_,_,fin (by rw[e1];exact hrun),.inl rfl,je (ni (if_pos rfl) hcap.1 hcap.2 (by first | exact h02 | omega) (fun _=>?_)),g1,g2⟩;rw[hsz,r2];exact⟨cq _ hcap.1,av _⟩
 unfold St.append at h;split at h
 ·have e1:=iO (hx _ hx0);split at h
  ·rename_i hm;subst hm;cases h;refine⟨Ast.refl _,_,.slice none 0 0,w,X,fin (by rw[e1];exact run_append_fits ht hu hq hi none 0 0 0 _ us r3 (uX w rfl) rfl (av _)),.inl rfl,(gw rfl).2 rfl,S,Stp.refl _ _ _⟩
  ·rename_i hm;split at h
   ·rename_i hk;exact Ue none e1 hm hk (by cases h;rfl)
   ·cases h
 ·rename_i ad n e';obtain⟨ra,c',e1,hsl⟩:=iI (hx _ hx0);split at h
  ·rename_i hm;subst hm;cases h;have hus:us=[]:=bp om;subst hus;have:=run_append_fits (P:=P) (w:=w) (ty:=o.type) ht hu hq hi (some ra) n c' 0 (a.eval y) [] r3 (uX w rfl) (w':=w) rfl (by simpa using hsl.1);refine⟨Ast.refl _,_,.slice (some ra) n c',w,X,fin (by rw[e1];exact this),.inl rfl,je hsl,S,Stp.refl _ _ _⟩
  ·rename_i hm;split at h
   ·split at h
    ·rename_i hbare;simp only[au,decide_eq_true_eq] at hbare;obtain⟨hbare,rfl⟩:=hbare;obtain⟨pl',hblk⟩:∃ pl',σ.blk ad=some (pl',[]):=by
      unfold St.bare at hbare;split at hbare
      ·rename_i hb;exact⟨_,hb⟩
      ·cases hbare
     obtain⟨iJ,g,hg,hsp⟩:=qW hblk;obtain⟨hnc,hcm,bx,hbx,s',hs',hle,hsr⟩:=hsl;obtain⟨c1,c2,_⟩:=S.cell _ bx g pl' [] hbx iJ hg;rw[hsp] at hs';cases hs';obtain⟨_,k3⟩:=((hsr c1).2 h0).get h02;have hz0:=S.zero _ bx hbx c2.symm;have hc0:c'=0:=by
      rcases dw c' with h | h
      ·exact h
      ·have:=Nat.mul_pos h h0;omega
     have hn0:n=0:=om
     subst hc0;subst hn0;split at h
     ·rename_i hk;exact Ue (some ra) e1 hm hk (by cases h;rfl)
     ·cases h
    ·split at h
     ·rename_i hex;subst hex;simp only[aa] at h;obtain⟨⟨pl',cs⟩,hblk,h⟩:=h;simp only at h;split at h
      ·rename_i hk;simp only[au,decide_eq_true_eq,small] at hk;obtain⟨⟨⟨hk1,hk2⟩,hk3⟩,hk4⟩:=hk;cases h;obtain⟨iJ,g,hg,hsp⟩:=qW hblk;obtain⟨hnc,hcm,bx,hbx,s',hs',hle,hsr⟩:=hsl;obtain⟨c1,c2,c3,c4,c5,c6⟩:=S.cell _ bx g pl' cs hbx iJ hg;rw[hsp] at hs';cases hs';obtain⟨k1,k2⟩:=hsr c1;have hcn:=(k2 om).full;subst hcn;have hnm:=Mj _ hk2;have hpos:0 < m*s:=Nat.mul_pos om h0;have acz:(c'+m)*s=c'*s+m*s:=bS _ _ _;have hdl:((cs.drop ad.off).take (c'*s)).length=c'*s:=by rw[cP,dL];omega
       have hgl:((cs.drop ad.off).take (c'*s)++vs).length=(c'+m)*s:=by rw[aB,r2,hdl,acz]
       obtain⟨olds,p1,p2⟩:∃ olds,gq (gL X) ((cs.drop ad.off).take (c'*s)) olds/\∀ j v,olds[j]?=some v->w.cell? (ra.add j)=some v:=by
        rcases dw c' with hn0 | hn0
        ·have:(cs.drop ad.off).take (c'*s)=[]:=bp (by rw[hdl,hn0,Nat.zero_mul]);rw[this];exact⟨[],gq.nil,fun j v hv=>by simp at hv⟩
        ·have hra:=k1 (.inl hn0);exact S.oB (a:=ad) (ra:=ra) (n:=c'*s) hblk ⟨bx,hbx,g,hsp,hle,fun _=>hra⟩ hk1
       have hol:olds.length=c'*s:=by rw[<- p1.1,hdl]
       have hrun:=nV (P:=P) (w:=w) (ty:=o.type) ht hu hq hi hz1 (some ra) c' c' m (a.eval y) olds us r3 uX (fun w' hw=>by have:=run_loadCells_list (P:=P) w' ra olds (fun j v hv=>by rw[World.cell?_of_block (w:=w) (by rw[hw])];exact p2 j v hv);rw[hol] at this;simpa[Builtin.firstCells,his] using this) om hnm hby
       have hcap:c'+m<=grownCap w (c'+m) c' e/\grownCap w (c'+m) c' e<=maxLen:=⟨grownCap_ge w _ _ _,grownCap_le_maxLen w _ _ _ (by simp only[maxLen];omega)⟩;generalize grownCap w (c'+m) c' e=cap at *;have hsz:(olds.toArray++us.toArray++Builtin.zeroCells z.cells (cap - (c'+m))).size=cap*s:=by simp only[eV,List.size_toArray,kZ,Ra,hul,hol];rw[<- bS,<- bS];congr 1;omega
       have hrl:=p1.append r1;obtain⟨g1,g2,g3⟩:=qX (w':=w.drew.alloc (.cells (olds.toArray++us.toArray++Builtin.zeroCells z.cells (cap - (c'+m))) e)) (g:=(c'+m)*s) (pl:=pl) (cs:=(cs.drop ad.off).take (c'*s)++vs) S (heap_alloc w.drew _) rfl rfl rfl (.inl rfl) (by rw[hgl];exact av _)
        (by rw[hsz,hgl];exact cq _ hcap.1) (fun e=>by simpa[e] using hk4) (fun j p hp=>by obtain⟨q',hq',hr⟩:=hrl.get hp;refine⟨q',?_,hr⟩;have hj:=(af.1 hq').1;rw[cK (by simpa using hj)];simpa using hq') (fun h0'=>by omega)
       refine⟨g3,_,_,_,_,fin (by rw[e1];exact hrun),.inl rfl,je (ni (if_pos rfl) hcap.1 hcap.2 (bh (Nat.le_mul_of_pos_left s om) hk2) (fun _=>?_)),g1,g2⟩;rw[hsz,hgl];exact⟨cq _ hcap.1,av _⟩
      ·cases h
     ·cases h
   ·rename_i hlk;simp only[bF,decide_eq_true_eq,not_or,ne_eq,Decidable.not_not] at hlk;obtain⟨hlk,rfl⟩:=hlk;simp only[aa] at h;obtain⟨⟨pl',cs⟩,hblk,h⟩:=h;simp only at h;split at h
    ·rename_i hck;simp only[au,bF,bU] at hck;obtain⟨iJ,g,hg,hsp⟩:=qW hblk;have ahm:=hsl;obtain⟨hnc,hcm,bx,hbx,s',hs',hle,hsr⟩:=ahm;obtain⟨c1,c2,c3,c4,c5,c6⟩:=S.cell _ bx g pl' cs hbx iJ hg;rw[hsp] at hs';cases hs';have hown:=S.lock _ bx hbx om;obtain⟨o1,rs,ty,lo,hi',o2,o3,o4,o5⟩:=c6 hown;obtain⟨k1,kr⟩:=hsr c1;obtain⟨k2,k3⟩:=(kr h0).get h02;split at h
     ·rename_i hend;have hall:pl'=true->(cs.drop ad.off++vs).all sc=true:=fun e=>by rw[List.all_append,au];refine⟨aF.2 fun x hx=>aF.1 (c4 e) x (eE hx),hck.2.resolve_left (by simp[e])⟩
      have grow:∀ g',g < g'->small ((n+m)*e')=true->(v,σ')=(Value.slice (some ⟨ad.block,0,some g'⟩) (n+m) e',{ σ with heap:=σ.heap.set ad.block (.cells g' pl' (cs.drop ad.off++vs)),fA:=gm σ ad.block vs })->n8 P w0 o a X σ w v σ':=by
       intro g' hgg hsm heq;cases heq;simp only[small,decide_eq_true_eq] at hsm;have hnm:=Mj _ hsm;have hdl:(cs.drop ad.off).length=n*e':=by rw[dL];omega
       have hgl:(cs.drop ad.off++vs).length=(n+m)*e':=by rw[aB,r2,hdl,bS]
       have hpos:0 < m*e':=Nat.mul_pos om h0;have acz:(n+m)*e'=n*e'+m*e':=bS _ _ _;have hd3:∀ (q:Nat),ad.block∉gm σ ad.block vs->∀ r,r∈iN (.cells q pl' (cs.drop ad.off++vs))->r∈iN (.cells g pl' cs):=fun q hnd r hr=>by
        cases pl' with
        | true=>simp[iN] at hr
        | false=>
         simp only[iN,List.flatMap_append,qY (nJ.2.2 hnd),bB] at hr ⊢;obtain⟨x,hx,hr⟩:=aY.1 hr;exact aY.2 ⟨x,eE hx,hr⟩
       by_cases hroom:n+m<=c'
       ·have hra:=k1 (.inr (.inr om));have hfit:(n+m)*e'<=c'*e':=cq _ hroom;obtain⟨w',f1,f2,f3,f4,f5,f6,f7⟩:=mJ (P:=P) bx.b (bx.o+ad.off+n*e') ty lo hi' us 0 rs w o2 om om (fun u hu=>by
         obtain⟨i,hi⟩:=cS.1 hu;have hil:i < vs.length:=by rw[r1.1];exact(af.1 hi).1
         exact AU (r1.2 i _ u (aq hil) hi))
        have acv:ra.add (n*i.size)=⟨bx.b,bx.o+ad.off+n*e',none⟩:=by rw[hra,his,add_lit]
        have hrun:=run_append_fits (P:=P) (w:=w) (ty:=o.type) ht hu hq hi (some ra) n c' m (a.eval y) us r3 (uX w rfl) (w':=w') (by simp only;rw[acv];exact f1) hroom;have FW:=IL (g':=g') (o':=bx.o+ad.off) (sz:=bx.size - ad.off) (cs':=cs.drop ad.off++vs) (d:=gm σ ad.block vs) S hbx om iJ hg (b':=bx.b) f2 om (.inl rfl) (fun k _ hk=>f4 k hk) f5 f6 f7 hgg om (by simp[jD];omega) (by simp[jD];omega) (by rw[hgl];omega) hall
         (fun j p hp=>by
          have hjl:j < (n+m)*e':=by rw[<- hgl];exact(af.1 hp).1
          have hput:(putAt rs.toList (bx.o+ad.off+n*e'+0) us).toArray[bx.o+ad.off+j]?=if bx.o+ad.off+n*e'<=bx.o+ad.off+j/\bx.o+ad.off+j < bx.o+ad.off+n*e'+us.length then us[bx.o+ad.off+j - (bx.o+ad.off+n*e')]? else rs.toList[bx.o+ad.off+j]?:=by have:=kF us rs.toList (bx.o+ad.off+n*e') (bx.o+ad.off+j) (by simp;omega);simpa using this
          rw[hput];by_cases hj:j < (cs.drop ad.off).length
          ·rw[aA hj,eS] at hp;rw[if_neg om];obtain⟨u,hu,hr⟩:=c5 _ p hp;simp only[World.cell?,o2] at hu;exact⟨u,by rw[cA];simpa using hu,hr⟩
          ·rw[aM om] at hp;rw[if_pos om,show bx.o+ad.off+j - (bx.o+ad.off+n*e')=j - (cs.drop ad.off).length by omega];exact r1.get hp)
         nJ.1 nJ.2.1 (hd3 g')
        obtain⟨g1,g2,g3⟩:=FW;refine⟨g3,_,.slice (some ra) (n+m) c',w',_,fin (by rw[e1];exact hrun),.inl rfl,je ?_,g1,g2⟩;refine⟨hroom,hcm,⟨bx.b,bx.o+ad.off,true,g',(cs.drop ad.off++vs).length,bx.size - ad.off⟩,if_pos rfl,g',rfl,av _,fun _=>⟨fun _=>by rw[hra];rfl,fun _=>.of h02 ?_⟩⟩;rw[hgl];simp only[aX];exact⟨hfit,om⟩
       ·obtain⟨olds,p1,p2⟩:∃ olds,gq (gL X) (cs.drop ad.off) olds/\∀ j v,olds[j]?=some v->w.cell? (ra.add j)=some v:=by
         rcases dw n with hn0 | hn0
         ·have:cs.drop ad.off=[]:=bp (by rw[hdl,hn0,Nat.zero_mul]);rw[this];exact⟨[],gq.nil,fun j v hv=>by simp at hv⟩
         ·have hra:=k1 (.inl hn0);obtain⟨olds,p1,p2⟩:=S.oB (a:=ad) (ra:=ra) (n:=n*e') hblk ⟨bx,hbx,g,hsp,hle,fun _=>hra⟩ om;rw[bt om] at p1;exact⟨olds,p1,p2⟩
        have hol:olds.length=n*e':=by rw[<- p1.1,hdl]
        have hrun:=nV (P:=P) (w:=w) (ty:=o.type) ht hu hq hi hz1 (some ra) n c' m (a.eval y) olds us r3 uX (fun w' hw=>by have:=run_loadCells_list (P:=P) w' ra olds (fun j v hv=>by rw[World.cell?_of_block (w:=w) (by rw[hw])];exact p2 j v hv);rw[hol] at this;simpa[Builtin.firstCells,his] using this) om hnm hby
        have hcap:n+m<=grownCap w (n+m) c' e/\grownCap w (n+m) c' e<=maxLen:=⟨grownCap_ge w _ _ _,grownCap_le_maxLen w _ _ _ (by simp only[maxLen];omega)⟩;generalize grownCap w (n+m) c' e=cap at *;have hsz:(olds.toArray++us.toArray++Builtin.zeroCells z.cells (cap - (n+m))).size=cap*e':=by simp only[eV,List.size_toArray,kZ,Ra,hul,hol];rw[<- bS,<- bS];congr 1;omega
        have hrl:=p1.append r1;have FW:=IL (w':=w.drew.alloc (.cells (olds.toArray++us.toArray++Builtin.zeroCells z.cells (cap - (n+m))) e)) (g':=g') (o':=0) (sz:=cap*e') (cs':=cs.drop ad.off++vs) (d:=gm σ ad.block vs) S hbx om iJ hg (b':=w.heap.size) (rs':=olds.toArray++us.toArray++Builtin.zeroCells z.cells (cap - (n+m))) (ty:=e) (lo:=0) (hi:=0)
         (by rw[heap_alloc];exact eK) (by rw[heap_alloc];simp) (.inr (av _)) (fun k hk _=>by rw[heap_alloc,eO,if_neg (by show ¬ k=w.heap.size;omega)];rfl) rfl rfl rfl hgg om (by rw[hsz];omega) (.inl rfl) (by rw[hgl];exact cq _ hcap.1) hall
         (fun j p hp=>by obtain⟨u,hu,hr⟩:=hrl.get hp;refine⟨u,?_,hr⟩;have hj:=(af.1 hu).1;rw[aX,cK (by simpa using hj)];simpa using hu)
         nJ.1 nJ.2.1 (hd3 g')
        obtain⟨g1,g2,g3⟩:=FW;refine⟨g3,_,_,_,_,fin (by rw[e1];exact hrun),.inl rfl,je (ni (if_pos rfl) hcap.1 hcap.2 (by first | exact h02 | omega) (fun _=>?_)),g1,g2⟩;rw[hgl];exact⟨cq _ hcap.1,av _⟩
      split at h
      ·rename_i hoff;simp only[au,decide_eq_true_eq,hsp,dn] at hoff;obtain⟨⟨hoff,hsm⟩,hgle⟩:=hoff;have hpos:0 < m*e':=Nat.mul_pos om h0;refine grow ((n+m)*e') (by rw[bS];omega) hsm ?_;rw[hoff,cz];cases h;rfl
      ·split at h
       ·rename_i hsm;have hpos:0 < m*e':=Nat.mul_pos om h0;refine grow (g+(n+m)*e') (by rw[bS];omega) hsm ?_;rw[hsp] at h;cases h;rfl
       ·cases h
     ·split at h
      ·rename_i hov;simp only[au,decide_eq_true_eq,bF] at hov;simp only[aj] at h;obtain⟨σ1,hw1,h⟩:=h;cases h;have hra:=k1 (hov.2.imp id .inl);have acz:(n+m)*e'=n*e'+m*e':=bS _ _ _;have hroom:n+m<=c':=by
        have:(n+m)*e'<=c'*e':=om
        exact Nat.le_of_mul_le_mul_right this h0
       have aeS:qi X { ad with off:=ad.off+n*e' } (ra.add (n*e')):=qi.add ⟨bx,hbx,g,hsp,hle,fun _=>hra⟩ _;obtain⟨ha,w',f1,f2,f3⟩:=qZ (P:=P) S aeS r1 hw1;have hrun:=run_append_fits (P:=P) (w:=w) (ty:=o.type) ht hu hq hi (some ra) n c' m (a.eval y) us r3 (uX w rfl) (w':=w') (by simp only;rw[his];exact f1) hroom;refine⟨ha,_,.slice (some ra) (n+m) c',w',X,fin (by rw[e1];exact hrun),.inl rfl,je ⟨hroom,hcm,bx,hbx,g,hsp,hle,fun h=>⟨fun _=>hra,fun _=>.of h02 ⟨k2,k3⟩⟩⟩,f2,f3⟩
      ·cases h
    ·cases h
 ·cases h
end
end AM
namespace AM
open Go Go.RowKit
section
variable{P:Program}{X:Emb}{fr:Fr}{a:Act}{o:Oper}{v:Value}{w0 w:World}{σ σ':St}
theorem n3.ptr{b ra:Addr}{n e c:Nat}(h:n3 X b n e ra c)(hn:0 < n):qi X b ra:=by obtain⟨_,_,bx,hx,s,hs,hl,hr⟩:=h;exact⟨bx,hx,s,hs,hl,fun e=>(hr e).1 (.inl hn)⟩
theorem Rb{c:Call}{x y:Operand}{t u e:TypeId}{s:Nat}{fz:fD}(ho:o.op=.call c)(hb:c.callee=.builtin .copy)(hc:c.args.toList=[x,y])(hct:c.argTypes.toList=[t,u])(ht:P.underlying t=some (.slice e))
  (hs:gl P e=some s) (h0:0 < s) (S:Sim w0 X σ w) (hx:∀ v,ev fr x=some v->fN X v (a.eval x)) (hy:∀ v,ev fr y=some v->fN X v (a.eval y))
  (h:aop fz (.copy s x y) fr σ=some (v,σ')):n8 P w0 o a X σ w v σ':=by
 simp only[aop,aa] at h;obtain⟨x0,hx0,y0,hy0,⟨m,vs⟩,hn,h⟩:=h;simp only at h;obtain⟨us,r1,r2,r3,r4⟩:=IP (P:=P) S (hy y0 hy0) hn h0;have hul:us.length=m*s:=by rw[<- r1.1,r2]
 obtain⟨ks,hks⟩:=jd (P:=P) (a:=a) ho hb w;rw[vO hc,xj hct] at hks;simp only[fq,aK,br,builtin] at hks;have fin:∀ {r:Value} {w':World},(Builtin.copy_ #[t,u] o.type #[a.eval x,a.eval y]).run P w=.ok r w'->(execOp a.eval o).run P w=.ok (.value r) w':=fun hr=>by rw[hks];simp only[Sem.run_bind,hr,Result.andThen_ok,Sem.run_pure]
 have run:∀ (base:Option Addr) (n c':Nat) (w':World),a.eval x=.slice base n c'->(match base with | some b=>(storeCells b (us.take (min m n*s))).run P w=.ok () w' | none=>w'=w)->(Builtin.copy_ #[t,u] o.type #[a.eval x,a.eval y]).run P w=.ok (.int .i64 (min m n:Nat)) w':=by
  intro base n c' w' hbs hst;have hf:=r4 (min m n) (Nat.min_le_left _ _) w rfl;have hmin:Nat.min m n=min m n:=rfl;rw[hbs];cases base with
  | none=>simp only at hst;subst hst;simp[Builtin.copy_,fL ht,iW hs,r3,hmin,hf,goInt]
  | some b=>simp only at hst;simp[Builtin.copy_,fL ht,iW hs,r3,hmin,hf,hst,goInt]
 split at h
 ·cases h;have e1:=iO (hx _ hx0);have:=run none 0 0 w e1 rfl;simp only[Nat.min_zero] at this;exact⟨Ast.refl _,_,_,w,X,fin this,.inl rfl,gY _ _,S,Stp.refl _ _ _⟩
 ·rename_i ad n e';obtain⟨ra,c',e1,hsl⟩:=iI (hx _ hx0);split at h
  ·rename_i hm;cases h;have:=run (some ra) n c' w e1 (by simp only[hm,Nat.zero_mul,eI];rfl);rw[hm] at this;exact⟨Ast.refl _,_,_,w,X,fin this,.inl rfl,gY _ _,S,Stp.refl _ _ _⟩
  ·rename_i hm;simp only[aj] at h;obtain⟨σ1,hw,h⟩:=h;cases h;obtain⟨ha,w',f1,f2,f3⟩:=qZ (P:=P) S (hsl.ptr om) (r1.take (min m n*s)) hw;exact⟨ha,_,_,w',X,fin (run (some ra) n c' w' e1 f1),.inl rfl,gY _ _,f2,f3⟩
 ·cases h
theorem Bp(z:Array Value)(n:Nat)(hz:0 < z.size):(Builtin.zeroCells z n).toList=(List.replicate n z.toList).flatten:=xm z n hz
theorem Mk{c:Call}{x:Operand}{t e:TypeId}{s:Nat}{zs:List Value}{fz:fD}(ho:o.op=.call c)(hb:c.callee=.builtin .clear)(hc:c.args.toList=[x])(hct:c.argTypes.toList=[t])(ht:P.underlying t=some (.slice e))
  (hs:gl P e=some s) (hz:kU P e=some zs) (h0:0 < s) (S:Sim w0 X σ w) (hx:∀ v,ev fr x=some v->fN X v (a.eval x))
  (h:aop fz (.clear s zs x) fr σ=some (v,σ')):n8 P w0 o a X σ w v σ':=by
 simp only[aop] at h;obtain⟨i,z,hi,hz1,hz2,hz3,hz4,hz5⟩:=ql hz;have his:i.size=s:=by simp[gl,hi] at hs;exact hs
 obtain⟨ks,hks⟩:=jd (P:=P) (a:=a) ho hb w;rw[oK hc,oA hct] at hks;simp only[fq,aK,br,builtin] at hks;have fin:∀ {r:Value} {w':World},(Builtin.clear_ #[t] o.type #[a.eval x]).run P w=.ok r w'->(execOp a.eval o).run P w=.ok (.value r) w':=fun hr=>by rw[hks];simp only[Sem.run_bind,hr,Result.andThen_ok,Sem.run_pure]
 split at h
 ·rename_i hx0;cases h;have e1:=iO (hx _ hx0);exact⟨Ast.refl _,_,.tuple #[],w,X,fin (by rw[e1];simp[Builtin.clear_,fL ht]),.inl rfl,nh,S,Stp.refl _ _ _⟩
 ·rename_i ad n e' hx0;obtain⟨ra,c',e1,hsl⟩:=iI (hx _ hx0);split at h
  ·rename_i hn;subst hn;cases h;exact⟨Ast.refl _,_,.tuple #[],w,X,fin (by rw[e1];simp[Builtin.clear_,fL ht]),.inl rfl,nh,S,Stp.refl _ _ _⟩
  ·rename_i hn;simp only[aj] at h;obtain⟨σ1,hw,h⟩:=h;cases h;obtain⟨ha,w',f1,f2,f3⟩:=qZ (P:=P) S (hsl.ptr om) (jE (zO hz5 n)) hw;refine⟨ha,_,.tuple #[],w',X,fin ?_,.inl rfl,nh,f2,f3⟩;have hzf:(Builtin.zeroCells z.cells n).toList=(List.replicate n zs).flatten:=by rw[Bp _ _ om,hz2]
   have hzv:(zeroValue e).run P w=.ok z w:=by simp[zeroValue,typeInfo,hi,hz1]
   rw[e1];obtain⟨k,rfl⟩:∃ k,n=k+1:=⟨n - 1,om⟩;simp only[Builtin.clear_,Sem.run_bind,List.getElem?_toArray,cI,fL ht,Result.andThen_ok,hzv,hzf,f1,Sem.run_pure]
 ·cases h
end
end AM
namespace AM
open Go Go.RowKit Go.MapKept
section
variable{P:Program}{X:Emb}{fr:Fr}{a:Act}{o:Oper}{v:Value}{w0 w:World}{σ σ':St}
theorem Dz{v u:Value}(h:fN X v u)(hh:held v=true):lg X v u:=by
 cases v<;>simp only[fN] at h<;>try exact h
 simp[held,fY,sc] at hh
theorem IQ{ag:Bool}{sh:List Sh}{k u:Value}(h:fN X k u)(hk:gR ag sh k=true):u=k:=by
 simp only[gR,au] at hk;obtain⟨⟨h1,h2⟩,h3⟩:=hk;cases k with
 | agg cs=>
  obtain⟨rs,rfl,hr⟩:=qk h;congr 1;apply bR.1;exact qV hr (aF.1 h2)
 | _=>exact(gw (by simpa[cellsOf] using h2)).1 h
theorem uY{ag:Bool}{sh:List Sh}{k:Value}(hk:gR ag sh k=true):(cellsOf k).length=sh.length:=by simp only[gR,au,beq_iff_eq] at hk;exact hk.2
theorem Bq{ag:Bool}{sh:List Sh}{k:Value}(hk:gR ag sh k=true):(cellsOf k).all sc=true:=by simp only[gR,au,beq_iff_eq] at hk;exact hk.1.2
theorem oL{sh:List Sh}{k:Value}(hk:gR true sh k=true):∃ cs,k=.agg cs:=by cases k<;>simp[gR] at hk;exact⟨_,rfl⟩
theorem yz{t:TypeId}{r:Bool×List Sh}(h:uw P t=some r) :
  (∃ k,r=(false,[.nu])/\P.underlying t=some (.int k)) \/
  (∃ fs,r.1=true/\P.underlying t=some (.struct fs)/\vE P 8 t=some r.2/\∀ f∈fs.toList,TZ P f=true/\f.offset < r.2.length):=by
 unfold uw at h;split at h
 ·rename_i k e;cases h;exact .inl ⟨k,rfl,e⟩
 ·rename_i fs e;simp only[aa] at h;obtain⟨s,hs,h⟩:=h;split at h
  ·rename_i hall;cases h;refine .inr ⟨fs,rfl,e,hs,fun f hf=>?_⟩;have:=aF.1 hall f hf;simpa using this
  ·cases h
 ·cases h
theorem Bs{n:Nat}{t:TypeId}{v:Value}{em:Bool}(h:(match P.underlying t with | some .bool=>true | some (.int _)=>true | _=>false)=true)(w:World):(Instr.checkKey em (n+1) t v).run P w=.ok () w:=by
 unfold Instr.checkKey;cases ht:P.underlying t with
 | none=>rw[ht] at h;cases h
 | some d=>cases d<;>rw[ht] at h<;>first | (cases h;done) | (simp[fL ht])
theorem xu{t:TypeId}{r:Bool×List Sh}{k:Value}{em:Bool}(h:uw P t=some r)(hk:gR r.1 r.2 k=true)(w:World):(Instr.checkKey em 10000 t k).run P w=.ok () w:=by
 rcases yz h with ⟨kk,rfl,ht⟩ | ⟨fs,h1,ht,h2,h3⟩
 ·exact Bs (by rw[ht]) w
 ·rw[h1] at hk;obtain⟨cs,rfl⟩:=oL hk;have hl:cs.toList.length=r.2.length:=uY hk;have hall:(cs.toList).all sc=true:=Bq hk;rw[show(10000:Nat)=9999+1 from rfl,Instr.checkKey];simp only[Sem.run_bind,fL ht,Result.andThen_ok];rw[<- Array.forIn_toList];generalize fs.toList=L at h3;induction L with
  | nil=>simp
  | cons f L ih=>
   obtain⟨hf,ho⟩:=h3 f (by simp);simp only[TZ,au,bne_iff_ne,ne_eq] at hf;obtain⟨⟨hn,hs⟩,hu⟩:=hf;have hsz:gl P f.type=some 1:=by
    split at hs
    ·rename_i n e;rw[e];simpa using hs
    ·cases hs
   have hag:jw P f.type=some false:=by unfold jw;split at hu<;>rename_i e<;>first | (rw[e]) | (cases hu;done)
   obtain⟨u,p1⟩:∃ u,(part f.type cs f.offset).run P w=.ok u w:=by
    have hlt:f.offset < cs.toList.length:=by rw[hl];exact ho
    obtain⟨u,hu,_⟩:=Be (P:=P) (X:=⟨fun _=>none,0⟩) (t:=f.type) (n:=none) (cs:=cs.toList) (rs:=cs.toList) (off:=f.offset) (v:=cs.toList[f.offset]) (by unfold mH;rw[hag];simp[hsz]) (aq hlt) (jE (aF.1 hall)) w;exact⟨u,hu⟩
   have p2:=Bs (P:=P) (n:=9998) (em:=em) (v:=u) hu w;simp only[List.forIn_cons,Sem.run_bind,hn,ne_eq,not_false_eq_true,if_true,Result.andThen_ok,p1,p2,Sem.run_pure];exact ih (fun g hg=>h3 g (by simp[hg]))
theorem vP{sh:List Sh}{k:Value}(h:gR false sh k=true):cellsOf k=[k]:=by
 cases k<;>first
  | rfl
  | simp[gR] at h
theorem Uf{k p:Value}{b:Bool}(h:gz [.nu] [k] [p]=some b):∃ q x y,k=.int q x/\p=.int q y/\b=(x==y):=by
 simp only[gz,aa,aj] at h;obtain⟨c,hc,d,hd,rfl⟩:=h;cases hd;cases k<;>cases p<;>simp only[nS] at hc<;>first | (cases hc;done) | skip
 split at hc
 ·rename_i hq;subst hq;cases hc;exact⟨_,_,_,rfl,rfl,by simp⟩
 ·cases hc
theorem Ug{s:Sh}{v w:Value}{b:Bool}(h:nS s v w=some b):(b=true↔v=w)/\nS s w v=some b:=by
 cases s<;>cases v<;>cases w<;>simp only[nS] at h<;>first | (cases h;done) | skip
 ·cases h;simp[nS,Bool.beq_comm]
 ·rename_i k a k' c;split at h
  ·rename_i e;subst e;cases h;refine⟨by simp,?_⟩;simp[nS,Bool.beq_eq_decide_eq,eq_comm]
  ·cases h
 ·rename_i a c;cases h;refine⟨?_,?_⟩
  ·simp only[beq_iff_eq,Value.string.injEq];exact⟨fun e=>ByteArray.ext (bR.1 e),fun e=>by rw[e]⟩
  ·simp[nS,Bool.beq_eq_decide_eq,eq_comm]
theorem xx:∀ {s:List Sh} {xs ys:List Value} {b:Bool},gz s xs ys=some b->(b=true↔xs=ys)/\gz s ys xs=some b
 | [],[],[],b,h=>by cases h;simp[gz]
 | [],[],y::ys,b,h=>by simp[gz] at h
 | [],x::xs,ys,b,h=>by simp[gz] at h
 | s::r,[],ys,b,h=>by simp[gz] at h
 | s::r,x::xs,[],b,h=>by simp[gz] at h
 | s::r,x::xs,y::ys,b,h=>by simp only[gz,aa,aj] at h;obtain⟨c,hc,d,hd,rfl⟩:=h;obtain⟨h1,h2⟩:=Ug hc;obtain⟨g1,g2⟩:=xx hd;refine⟨by simp[h1,g1],by simp[gz,h2,g2]⟩
theorem Rc{ag:Bool}{sh:List Sh}{k p:Value}(hk:gR ag sh k=true)(hp:gR ag sh p=true)(h:cellsOf k=cellsOf p):k=p:=by
 cases ag with
 | true=>
  obtain⟨cs,rfl⟩:=oL hk;obtain⟨ds,rfl⟩:=oL hp;congr 1;exact bR.1 h
 | false=>rw[vP hk,vP hp] at h;simpa using h
def vQ(ag:Bool)(sh:List Sh)(k p:Value)(b:Bool):Prop:=gR ag sh k=true/\gR ag sh p=true/\gz sh (cellsOf k) (cellsOf p)=some b
theorem vQ.iff{ag:Bool}{sh:List Sh}{k p:Value}{b:Bool}(h:vQ ag sh k p b):b=true↔k=p:=by obtain⟨h1,h2,h3⟩:=h;exact(xx h3).1.trans ⟨Rc h1 h2,fun e=>by rw[e]⟩
theorem vQ.symm{ag:Bool}{sh:List Sh}{k p:Value}{b:Bool}(h:vQ ag sh k p b):vQ ag sh p k b:=⟨h.2.1,h.1,(xx h.2.2).2⟩
theorem qm{ag:Bool}{sh:List Sh}{k:Value}(hk:gR ag sh k=true):∀ {es:List (Value×Value)} {q:Option Value},kg ag sh k es=some q ->
  (∀ p∈es,∃ b,vQ ag sh k p.1 b)/\((q=none/\∀ p∈es,p.1≠k)\/∃ p∈es,p.1=k/\q=some p.2)
 | [],q,h=>by cases h;exact⟨by simp,.inl ⟨rfl,by simp⟩⟩
 | p::es,q,h=>by
  simp only[kg] at h;split at h
  ·rename_i hfit;simp only[aa,aj] at h;obtain⟨b,hb,q',hq',rfl⟩:=h;obtain⟨h1,h2⟩:=qm hk hq';have hc:vQ ag sh k p.1 b:=⟨hk,hfit,hb⟩;refine⟨fun r hr=>?_,?_⟩
   ·rcases aJ.1 hr with rfl | hr
    ·exact⟨b,hc⟩
    ·exact h1 r hr
   ·cases b with
    | true=>exact .inr ⟨p,by simp,(hc.iff.1 rfl).symm,rfl⟩
    | false=>
     have hne:p.1≠k:=fun e=>by have:=hc.iff.2 e.symm;cases this
     rcases h2 with ⟨e1,e2⟩ | ⟨r,e1,e2,e3⟩
     ·refine .inl ⟨by simp[e1],fun r hr=>?_⟩;rcases aJ.1 hr with rfl | hr
      ·exact hne
      ·exact e2 r hr
     ·exact .inr ⟨r,by simp[e1],e2,by simp[e3]⟩
  ·cases h
def Uh(k:Value)(res:List MapEntry)(r:Option (Nat×Value)):Prop:=(r=none/\∀ e∈res,e.key≠k)\/∃ i,∃ e∈res,e.key=k/\r=some (i,e.val)
theorem yA{d:IntKind}{k:Value} : ∀ {res:List MapEntry} (i:Nat),(∀ e∈res,∃ b,vQ false [.nu] k e.key b)->∃ r,Instr.findNow (.int d) k res i=some r/\Uh k res r
 | [],i,h=>⟨none,rfl,.inl ⟨rfl,by simp⟩⟩
 | e::m,i,h=>by
  obtain⟨b,hc⟩:=h e (by simp);have hb:=hc.2.2;rw[vP hc.1,vP hc.2.1] at hb;obtain⟨q1,x,y,rfl,e2,e3⟩:=Uf hb;have hs:Instr.sameNow (.int d) (.int q1 x) e.key=some b:=by rw[e2,e3];simp[Instr.sameNow]
  cases b with
  | true=>exact⟨some (i,e.val),by simp[Instr.findNow,hs],.inr ⟨i,e,by simp,(hc.iff.1 rfl).symm,rfl⟩⟩
  | false=>
   obtain⟨r,hr,hF⟩:=yA (d:=d) (res:=m) (i+1) (fun f hf=>h f (by simp[hf]));refine⟨r,by simp[Instr.findNow,hs,hr],?_⟩;rcases hF with ⟨h1,h2⟩ | ⟨j,f,h1,h2,h3⟩
   ·refine .inl ⟨h1,fun f hf=>?_⟩;rcases aJ.1 hf with rfl | hf
    ·exact fun e'=>by have:=hc.iff.2 e'.symm;cases this
    ·exact h2 f hf
   ·exact .inr ⟨j,f,by simp[h1],h2,h3⟩
theorem yB{t:TypeId}{s:List Sh}(hs:vE P 8 t=some s)(ha:jw P t=some true){k:Value}(w:World):∀ {res:List MapEntry} (i:Nat),(∀ e∈res,∃ b,vQ true s k e.key b)->∃ r,(Instr.findAsking t k res i).run P w=.ok r w/\Uh k res r
 | [],i,h=>⟨none,rfl,.inl ⟨rfl,by simp⟩⟩
 | e::m,i,h=>by
  obtain⟨b,hc⟩:=h e (by simp);obtain⟨cs,rfl⟩:=oL hc.1;obtain⟨ds,e2⟩:=oL hc.2.1;have l1:=uY hc.1;have l2:=uY hc.2.1;have hb:=hc.2.2;rw[e2] at hb l2;have he:(Op.equal t (.agg cs) e.key).run P w=.ok b w:=by rw[e2];exact n7 8 hs 10000 om cs.toList ds.toList _ _ b l1 l2 (.inl ⟨ha,by simp⟩) (.inl ⟨ha,by simp⟩) hb w
  cases b with
  | true=>exact⟨some (i,e.val),by simp[Instr.findAsking,he],.inr ⟨i,e,by simp,(hc.iff.1 rfl).symm,rfl⟩⟩
  | false=>
   obtain⟨r,hr,hF⟩:=yB hs ha w (res:=m) (i+1) (fun f hf=>h f (by simp[hf]));refine⟨r,by simp[Instr.findAsking,he,hr],?_⟩;rcases hF with ⟨h1,h2⟩ | ⟨j,f,h1,h2,h3⟩
   ·refine .inl ⟨h1,fun f hf=>?_⟩;rcases aJ.1 hf with rfl | hf
    ·exact fun e'=>by have:=hc.iff.2 e'.symm;cases this
    ·exact h2 f hf
   ·exact .inr ⟨j,f,by simp[h1],h2,h3⟩
theorem Re{t:TypeId}{r:Bool×List Sh}{k:Value}(h:uw P t=some r)(w:World){res:List MapEntry}(he:∀ e∈res,∃ b,vQ r.1 r.2 k e.key b) :
  ∃ y,(Instr.findKey t k res).run P w=.ok y w/\Uh k res y:=by
 rcases yz h with ⟨d,rfl,ht⟩ | ⟨fs,h1,ht,h2,h3⟩
 ·obtain⟨y,hy,hF⟩:=yA (d:=d) 0 he;exact⟨y,by simp[Instr.findKey,fL ht,hy],hF⟩
 ·rw[h1] at he;obtain⟨y,hy,hF⟩:=yB (P:=P) h2 (by unfold jw;rw[ht]) w 0 he;exact⟨y,by rw[run_findKey_eq w (by rw[ht])];exact hy,hF⟩
def Found(X:Emb)(q:Option Value)(r:Option (Nat×Value)):Prop:=(q=none/\r=none)\/∃ v i u,q=some v/\r=some (i,u)/\lg X v u
theorem Rf{res:List MapEntry}(h:(res.map (·.key)).Nodup){e f:MapEntry}(he:e∈res)(hf:f∈res)(hk:e.key=f.key):e=f:=by obtain⟨i,hi⟩:=cS.1 he;obtain⟨j,hj⟩:=cS.1 hf;obtain⟨li,ei⟩:=af.1 hi;obtain⟨lj,ej⟩:=af.1 hj;have hij:i=j:=(List.getElem_inj (xs:=res.map (·.key)) (h₀:=by simpa using li) (h₁:=by simpa using lj) h).1 (by simp only[ef,ei,ej,hk]);subst hij;rw[<- ei,<- ej]
theorem IS{t:TypeId}{r:Bool×List Sh}{k:Value}(h:uw P t=some r)(hk:gR r.1 r.2 k=true)(w:World){es:List (Value×Value)}{res:List MapEntry}{q:Option Value}(he:sB X es res)(hf:kg r.1 r.2 k es=some q) :
  ∃ y,(Instr.findKey t k res).run P w=.ok y w/\Found X q y:=by
 obtain⟨h1,h2⟩:=qm hk hf;obtain⟨y,hy,hF⟩:=Re h w (res:=res) (k:=k) fun e hm=>by obtain⟨p,hp,e2⟩:=he.bwd e hm;rw[e2];exact h1 p hp
 refine⟨y,hy,?_⟩;rcases h2 with ⟨rfl,h2⟩ | ⟨p,hp,rfl,rfl⟩
 ·rcases hF with ⟨h3,_⟩ | ⟨i,e,h3,h4,_⟩
  ·exact .inl ⟨rfl,h3⟩
  ·obtain⟨p,hp,e2⟩:=he.bwd e h3;exact absurd (e2.symm.trans h4) (h2 p hp)
 ·obtain⟨_,_,e0,he0,k0,r0⟩:=he.fwd p hp;rcases hF with ⟨_,h4⟩ | ⟨i,e,h3,h4,rfl⟩
  ·exact absurd k0 (h4 e0 he0)
  ·have:=Rf he.nd h3 he0 (h4.trans k0.symm);subst this;exact .inr ⟨_,i,_,rfl,rfl,r0⟩
theorem IT{t:TypeId}{z:Value}(h:zN P t=some z)(w:World):(zeroValue t).run P w=.ok z w/\sc z=true:=by
 unfold zN at h;split at h
 ·rename_i i hi;split at h
  ·rename_i z' hz;split at h
   ·rename_i hs;cases h;exact⟨by simp[zeroValue,typeInfo,hi,hz],hs⟩
   ·cases h
  ·cases h
 ·cases h
theorem Ml{w0 w:World}{X:Emb}{σ:St}(S:Sim w0 X σ w) :
  let X':Emb:=⟨fun id=>if id=σ.heap.length then some ⟨w.heap.size,0,true,0,0,0⟩ else X id,X.y⟩
  Sim w0 X' { σ with heap:=σ.heap++[.map []] } (w.alloc (.map #[] 0))/\Stp X σ w X' (w.alloc (.map #[] 0)):=by
 intro X';have hnone:X σ.heap.length=none:=by
  cases hx:X σ.heap.length with
  | none=>rfl
  | some bx=>have:=S.dom _ _ hx;omega
 have hX:∀ id bx,X id=some bx->X' id=some bx:=fun id bx hx=>by have:=S.dom _ _ hx;simp only[X'];rw[if_neg om];exact hx
 have sq:Evo X X':=Evo.mk' rfl fun id bx hx=>⟨bx,hX id bx hx,.inl rfl⟩;have hh:(w.alloc (.map #[] 0)).heap=w.heap.push (.map #[] 0):=rfl;have hold:∀ k,k < w.heap.size->(w.alloc (.map #[] 0)).heap[k]?=w.heap[k]?:=fun k hk=>by rw[hh,eO,if_neg om]
 have hcell:∀ (b:Nat) (o:Nat),b < w.heap.size->(w.alloc (.map #[] 0)).cell? ⟨b,o,none⟩=w.cell? ⟨b,o,none⟩:=fun b o hb=>World.cell?_of_block (w:=w) (hold b hb);have hsz:(w.alloc (.map #[] 0)).heap.size=w.heap.size+1:=by rw[hh];simp
 have kq:∀ id bx',X' id=some bx'->(id=σ.heap.length/\bx'=⟨w.heap.size,0,true,0,0,0⟩)\/(id≠σ.heap.length/\X id=some bx'):=fun id bx' h=>by
  simp only[X'] at h;split at h
  ·rename_i e;cases h;exact .inl ⟨e,rfl⟩
  ·rename_i e;exact .inr ⟨e,h⟩
 refine⟨⟨?_,?_,?_,?_,?_,?_,?_,?_⟩,⟨om,rfl,rfl,rfl,fun k hk _=>hold k hk,sq,?_,?_⟩⟩
 ·exact S.bel.trans ⟨rfl,rfl,rfl,om,fun k hk=>hold k (by have:=S.bel.size;omega)⟩
 ·intro id bx h;rcases kq id bx h with ⟨rfl,_⟩ | ⟨_,h⟩
  ·simp
  ·have:=S.dom _ _ h;simp;omega
 ·intro id bx h;rcases kq id bx h with ⟨rfl,rfl⟩ | ⟨_,h⟩
  ·refine⟨by simp only;omega,?_⟩;simp only[if_true];exact S.bel.size
  ·have:=S.place _ _ h;exact⟨om,this.2⟩
 ·intro id bx g' pl' cs' h hh' hc;rcases kq id bx h with ⟨rfl,rfl⟩ | ⟨hne,h⟩
  ·simp at hc
  ·have hlt:=S.dom _ _ h;rw[aA hlt] at hc;obtain⟨c1,c2,c3,c4,c5,c6⟩:=S.cell id bx g' pl' cs' h hh' hc;have hb:=(S.place _ _ h).1;refine⟨c1,c2,c3,c4,fun j v hv=>?_,fun ho=>?_⟩
   ·obtain⟨u,hu,hr'⟩:=c5 j v hv;exact⟨u,by rw[hcell _ _ hb];exact hu,hr'.evo sq⟩
   ·obtain⟨o1,rs,ty',lo',hi',o2,o3⟩:=c6 ho;exact⟨o1,rs,ty',lo',hi',by rw[hold _ hb];exact o2,o3⟩
 ·intro i j bi bj hi hj oi oj e;rcases kq i bi hi with ⟨rfl,rfl⟩ | ⟨_,hi⟩<;>rcases kq j bj hj with ⟨rfl,rfl⟩ | ⟨_,hj⟩
  ·rfl
  ·have:=(S.place _ _ hj).1;simp at e;omega
  ·have:=(S.place _ _ hi).1;simp at e;omega
  ·exact S.inj i j bi bj hi hj oi oj e
 ·intro id bx h hl';rcases kq id bx h with ⟨rfl,rfl⟩ | ⟨_,h⟩
  ·rfl
  ·exact S.lock id bx h hl'
 ·intro id bx h h0;rcases kq id bx h with ⟨rfl,rfl⟩ | ⟨_,h⟩
  ·rfl
  ·exact S.zero id bx h h0
 ·intro id bx es h hh' hc;rcases kq id bx h with ⟨rfl,rfl⟩ | ⟨_,h⟩
  ·simp only[aM (av _),cL,cI,ay,Blk.map.injEq] at hc;subst hc;exact⟨rfl,rfl,#[],0,by rw[hh];simp,⟨rfl,by simp,fun p hp=>by simp at hp,fun p hp=>by simp at hp⟩⟩
  ·rw[aA (S.dom _ _ h)] at hc;obtain⟨c1,c2,res,ck,c3,c4⟩:=S.j4 id bx es h hh' hc;exact⟨c1,c2,res,ck,by rw[hold _ (S.place _ _ h).1];exact c3,c4.evo sq⟩
 ·intro id bx bx' h h';rw[hX id bx h] at h';cases h';exact .inl rfl
 ·intro id bx' h;rcases kq id bx' h with ⟨rfl,rfl⟩ | ⟨_,h⟩
  ·exact .inr ⟨hnone,rfl,av _,av _⟩
  ·exact .inl ⟨bx',h,rfl,.inl rfl⟩
theorem sB.push{es:List (Value×Value)}{res:Array MapEntry}(h:sB X es res.toList){k x u:Value}{c:Nat}(hn:∀ p∈es,p.1≠k)(hk:(cellsOf k).all sc=true)(hh:held x=true)(hx:lg X x u):sB X (es++[(k,x)]) (res.push ⟨k,u,c⟩).toList where
 len:=by simp[h.len]
 nd:=by simp only[Array.toList_push,dh,aK,br];refine dF.2 ⟨h.nd,by simp,fun a ha b hb=>?_⟩;simp only[cM] at hb;subst hb;obtain⟨e,he,rfl⟩:=bw.1 ha;obtain⟨p,hp,e2⟩:=h.bwd e he;rw[e2];exact hn p hp
 fwd:=fun p hp=>by
  simp only[Array.toList_push];rcases aP.1 hp with hp | hp
  ·obtain⟨h1,h0,e,he,h2⟩:=h.fwd p hp;exact⟨h1,h0,e,b7 _ he,h2⟩
  ·simp only[cM] at hp;subst hp;exact⟨hk,hh,⟨k,u,c⟩,by simp,rfl,hx⟩
 bwd:=fun e he=>by
  simp only[Array.toList_push] at he;rcases aP.1 he with he | he
  ·obtain⟨p,hp,e2⟩:=h.bwd e he;exact⟨p,b7 _ hp,e2⟩
  ·simp only[cM] at he;subst he;exact⟨(k,x),by simp,rfl⟩
theorem Ui{w0 w w':World}{X:Emb}{σ:St}(S:Sim w0 X σ w){r:Nat}{bx:Bx}{es es':List (Value×Value)}{res':Array MapEntry}{d:List Nat}{c':Nat}
  (hx:X r=some bx) (hlk:σ.lock<=r) (iJ:r∉σ.hid) (hc:σ.heap[r]?=some (.map es))
  (hh:w'.heap[bx.b]?=some (.map res' c')) (hsz:w'.heap.size=w.heap.size) (hold:∀ k,k≠bx.b->w'.heap[k]?=w.heap[k]?) (h1:w'.os=w.os) (h2:w'.tape=w.tape) (h3:w'.output=w.output) (hr:sB X es' res'.toList) :
  Sim w0 X { σ with heap:=σ.heap.set r (.map es'),fA:=d } w'/\Stp X σ w X w':=by
 have hown:=S.lock r bx hx hlk;have hlen:r < σ.heap.length:=S.dom _ _ hx;obtain⟨m1,m2,_⟩:=S.j4 r bx es hx iJ hc;have hbp:=S.place r bx hx;rw[hown] at hbp;simp only[if_true] at hbp;have pY:∀ j bj,X j=some bj->j≠r->bj.b≠bx.b:=fun j bj hj hne e=>by
  cases ho:bj.own with
  | true=>exact hne (S.inj j r bj bx hj hx ho hown e)
  | false=>
   have:=(S.place j bj hj).2;rw[ho] at this;simp at this;omega
 refine⟨⟨?_,?_,?_,?_,S.inj,S.lock,S.zero,fun j bj es hj hh' hc'=>?_⟩,⟨om,h1,h2,h3,fun k _ hk=>hold k fun e=>hk r bx hx hlk iJ hown e.symm,Evo.refl X,fun id bx bx' h h'=>by rw[h] at h';cases h';exact .inl rfl,fun id bx' h=>.inl ⟨bx',h,rfl,.inl rfl⟩⟩⟩
 ·exact S.bel.trans ⟨h1,h2,h3,om,fun k hk=>hold k om⟩
 ·intro j bj hj;simpa using S.dom j bj hj
 ·intro j bj hj;have:=S.place j bj hj;rw[hsz];exact this
 ·intro j bj g pl cs hj hh' hc';have hji:j≠r:=fun e=>by subst e;rw[aD hlen] at hc';cases hc'
  rw[aZ (Ne.symm hji)] at hc';obtain⟨k1,k2,k3,k4,k5,k6⟩:=S.cell j bj g pl cs hj hh' hc';have hne:=pY j bj hj hji;refine⟨k1,k2,k3,k4,fun i v hv=>?_,fun ho=>?_⟩
  ·obtain⟨u,hu,hr'⟩:=k5 i v hv;exact⟨u,by rw[World.cell?_of_block (w:=w) (hold bj.b hne)];exact hu,hr'⟩
  ·obtain⟨q1,q2,q3,q4,q5,q6,q7⟩:=k6 ho;exact⟨q1,q2,q3,q4,q5,by rw[hold _ hne];exact q6,q7⟩
 ·by_cases hji:j=r
  ·subst hji;rw[hx] at hj;cases hj;rw[aD hlen] at hc';cases hc';exact⟨m1,m2,res',c',hh,hr⟩
  ·rw[aZ (Ne.symm hji)] at hc';obtain⟨k1,k2,res,ck,k3,k4⟩:=S.j4 j bj es hj hh' hc';exact⟨k1,k2,res,ck,by rw[hold _ (pY j bj hj hji)];exact k3,k4⟩
theorem xy(S:Sim w0 X σ w){r:Nat}{es:List (Value×Value)}{u:Value}(hr:fN X (.map (some r)) u)(he:σ.oE r=some es) :
  ∃ bx res ck,u=.map (some bx.b)/\X r=some bx/\w.heap[bx.b]?=some (.map res ck)/\sB X es res.toList/\r∉σ.hid/\σ.heap[r]?=some (.map es):=by obtain⟨q,rfl,b,bx,rfl,hx,hg⟩:=hr;obtain⟨h1,h2⟩:=Ip he;obtain⟨m1,m2,res,ck,m3,m4⟩:=S.j4 r bx es hx h1 h2;rw[<- hg m1];exact⟨bx,res,ck,rfl,hx,m3,m4,h1,h2⟩
theorem Mm{t:TypeId}{r:Option Operand}{fz:fD}(ho:o.op=.makeMap t r)(hc:gF P o.op=some .nI)(S:Sim w0 X σ w)(h:aop fz .nI fr σ=some (v,σ')):n8 P w0 o a X σ w v σ':=by
 have ha:(execOp a.eval o).run P w=.ok (.value (.map (some w.heap.size))) (w.alloc (.map #[] 0)):=by
  rw[ho] at hc;simp only[gF] at hc;split at hc
  ·simp only[execOp,ho,Option.map_none];rfl
  ·rename_i _ _ _ _ ht;simp only[execOp,ho,bq,Instr.makeMap,Sem.run_bind,fL ht,Result.andThen_ok,Act.eval];rfl
  ·cases hc
 cases h;obtain⟨s1,s2⟩:=Ml S;refine⟨l9 _,_,.map (some w.heap.size),_,_,ha,.inl rfl,?_,s1,s2⟩;exact⟨_,rfl,w.heap.size,⟨w.heap.size,0,true,0,0,0⟩,rfl,by simp,fun _=>rfl⟩
theorem D5{t kt e:TypeId}{s:Bool×List Sh}{m k x:Operand}{fz:fD}(ho:o.op=.insert t m k x\/o.op=.mapUpdate t m k x)(ht:P.underlying t=some (.map kt e))(hs:uw P kt=some s)(S:Sim w0 X σ w)
  (hm:∀ v,ev fr m=some v->fN X v (a.eval m)) (hk:∀ v,ev fr k=some v->fN X v (a.eval k)) (hx:∀ v,ev fr x=some v->fN X v (a.eval x)) (h:aop fz (.jN s.1 s.2 m k x) fr σ=some (v,σ')):n8 P w0 o a X σ w v σ':=by
 have Uj:=fun hcf hl=>lu (fz:=iQ) (hcf) (hl) (σ:=σ) (σ':=σ') (v:=v) (ao:=.jN s.1 s.2 m k x) (fr:=fr);simp only[aop,aa] at h;obtain⟨mv,em,kv,ek,xv,ex,h⟩:=h;split at h
 ·rename_i r;split at h
  ·cases h
  ·rename_i hlk;simp only[aa] at h;obtain⟨es,he,q,hf,h⟩:=h;split at h
   ·rename_i hc;simp only[au,dQ] at hc;obtain⟨⟨rfl,hfit⟩,hheld⟩:=hc;cases h;obtain⟨bx,res,ck,e1,hX,hw,hE,hh,hheap⟩:=xy S (hm _ em) he;have ekv:=IQ (hk _ ek) hfit;obtain⟨y,hy,hF⟩:=IS hs hfit w hE hf;have hyn:y=none:=by
     rcases hF with ⟨_,h⟩ | ⟨_,_,_,h,_⟩
     ·exact h
     ·cases h
    subst hyn;have hxr:=Dz (hx _ ex) hheld;have hnew:∀ p∈es,p.1≠kv:=by
     rcases(qm hfit hf).2 with ⟨_,h⟩ | ⟨p,_,_,h⟩
     ·exact h
     ·cases h
    have hlt:bx.b < w.heap.size:=(S.place _ _ hX).1;have hrun:(execOp a.eval o).run P w=.ok .skip { w with heap:=w.heap.setIfInBounds bx.b (.map (res.push ⟨kv,a.eval x,ck⟩) (ck+1)) }:=by
     rcases ho with ho | ho <;>
     simp only[execOp,ho,e1,ekv,Instr.mapUpdate,Sem.run_bind,fL ht,Result.andThen_ok,MapKept.run_getObj_map hw,xu hs hfit w,hy,MapKept.run_setObj_map _ hw,Sem.run_pure]
    obtain⟨s1,s2⟩:=Ui (w':={ w with heap:=w.heap.setIfInBounds bx.b (.map (res.push ⟨kv,a.eval x,ck⟩) (ck+1)) }) S hX om hh hheap (Array.getElem?_setIfInBounds_self_of_lt hlt) (by simp) (fun k hk=>c8 (Ne.symm hk)) rfl rfl rfl (hE.push hnew (Bq hfit) hheld hxr) (d:=gm σ r [xv]);exact⟨Iq hlk he,_,undef,_,X,hrun,.inr ⟨rfl,rfl⟩,nh,s1,s2⟩
   ·cases h
 ·cases h
theorem Rg{t kt e:TypeId}{s:Bool×List Sh}{m k:Operand}{z:Value}{ok:Bool}{fz:fD}(ho:o.op=.lookup t m k ok)(ht:P.underlying t=some (.map kt e))(hs:uw P kt=some s)(hz:zN P e=some z)(S:Sim w0 X σ w)
  (hm:∀ v,ev fr m=some v->fN X v (a.eval m)) (hk:∀ v,ev fr k=some v->fN X v (a.eval k)) (h:aop fz (.AR s.1 s.2 z ok m k) fr σ=some (v,σ')):n8 P w0 o a X σ w v σ':=by
 simp only[aop,aa] at h;obtain⟨mv,em,kv,ek,h⟩:=h;split at h
 ·rename_i r;simp only[aa] at h;obtain⟨es,he,q,hf,h⟩:=h;split at h
  ·rename_i hfit;cases h;obtain⟨bx,res,ck,e1,hX,hw,hE,hh,hheap⟩:=xy S (hm _ em) he;have ekv:=IQ (hk _ ek) hfit;obtain⟨y,hy,hF⟩:=IS hs hfit w hE hf;obtain⟨hz1,hz2⟩:=IT hz w;refine gX.uk S ?_;have key:∃ u b,lg X (q.getD z) u/\q.isSome=b/\(Instr.lookup t (a.eval m) (a.eval k) ok).run P w=.ok (if ok then .tuple #[u,.bool b] else u) w:=by
    rcases hF with ⟨rfl,rfl⟩ | ⟨v',i,u,rfl,rfl,hr⟩
    ·exact⟨z,false,lq ((iR hz2).2 rfl),rfl,by cases ok<;>simp[e1,ekv,Instr.lookup,fL ht,MapKept.run_getObj_map hw,xu hs hfit w,hy,hz1]⟩
    ·exact⟨u,true,hr,rfl,by cases ok<;>simp[e1,ekv,Instr.lookup,fL ht,MapKept.run_getObj_map hw,xu hs hfit w,hy]⟩
   obtain⟨u,b,k1,k2,k3⟩:=key;refine⟨if ok then .tuple #[u,.bool b] else u,by simp only[execOp,ho,Sem.run_bind,k3,Result.andThen_ok,Sem.run_pure],?_⟩;cases ok with
   | true=>
    refine⟨_,rfl,?_⟩;exact gq.nil.cons (lq ((iR rfl).2 (by rw[k2]))) |>.cons k1
   | false=>exact jA k1
  ·cases h
 ·cases h
theorem Rh{c:Call}{x:Operand}{t k e:TypeId}{fz:fD}(ho:o.op=.call c)(hb:c.callee=.builtin .len)(hc:c.args.toList=[x])(ht:c.argTypes.toList=[t])(hu:P.underlying t=some (.map k e))
  (S:Sim w0 X σ w) (hx:∀ v,ev fr x=some v->fN X v (a.eval x)) (h:aop fz (.AS x) fr σ=some (v,σ')):n8 P w0 o a X σ w v σ':=by
 simp only[aop,aa] at h;obtain⟨mv,em,h⟩:=h;split at h
 ·rename_i r;simp only[aj] at h;obtain⟨es,he,h⟩:=h;cases h;obtain⟨bx,res,ck,e1,hX,hw,hE,hh,hheap⟩:=xy S (hx _ em) he;refine gX.uk S ⟨.int .i64 es.length,?_,gY _ _⟩;obtain⟨ks,hks⟩:=jd (P:=P) (a:=a) ho hb w;rw[hks,oK hc,oA ht];have hl:res.size=es.length:=by have:=hE.len;simpa using this.symm
  simp[builtin,Builtin.len_,fL hu,e1,MapKept.run_getObj_map hw,goInt,hl]
 ·cases h
theorem Uk(c:UInt8):∀ (l:List UInt8) (i:Nat),(Lib.indexByte l c = -1\/0<=Lib.indexByte l c)/\ixB c l i=if Lib.indexByte l c = -1 then -1 else i+Lib.indexByte l c
 | [],i=>by simp[Lib.indexByte,ixB]
 | b::l,i=>by
  obtain⟨h1,h2⟩:=Uk c l (i+1);by_cases hb:b=c
  ·subst hb;simp[Lib.indexByte,ixB]
  ·have hb':(b==c)=false:=by simpa using hb
   simp only[Lib.indexByte,ixB,hb,hb',if_false,aO,beq_iff_eq];rcases h1 with h1 | h1
   ·simp[h2,h1]
   ·have hne:Lib.indexByte l c≠-1:=om
    rw[h2];simp only[hne,if_false];refine⟨.inr om,?_⟩;rw[if_neg om]
    push_cast
    omega
theorem Zf(c:UInt8)(l:List UInt8):ixB c l 0=Lib.indexByte l c:=by
 obtain⟨_,h⟩:=Uk c l 0;rw[h];split
 ·rename_i e;exact e.symm
 ·simp
theorem yC {fn : Func} {n : String} (hn : fn.name = n) (ho : fn.origin = "") (hnr : (n == "runtime.NumGoroutine") = false) (hx : (Extern.allNextRows.lookup n).isNone = true /\ (Extern.allNextRows.lookup "").isNone = true) :
  (fn.name == "runtime.NumGoroutine") = false /\ Extern.findNext fn = none := by refine ⟨by rw [hn]; exact hnr, ?_⟩;unfold Extern.findNext;simp only [hn, ho, Option.isNone_iff_eq_none.1 hx.1, Option.isNone_iff_eq_none.1 hx.2];rfl
theorem Zg {fn : Func} (hn : fn.name = "internal/bytealg.IndexByte") : Extern.find fn = some Extern.BytealgIndexByte.indexByte := by unfold Extern.find;simp only [hn];rfl
theorem Zh {fn : Func} (hn : fn.name = "internal/bytealg.MakeNoZero") : Extern.find fn = some (Extern.BytealgMakeNoZero.makeNoZero fn.params fn.resultTypes) := by unfold Extern.find;simp only [hn];rfl
theorem r5 {c : Call} {f : FuncId} {fn : Func} {e : Array Value -> Sem Value} (ho : o.op = .call c) (hc : c.callee = .value (.func f)) (hf : P.funcs[f]? = some fn) (hnr : (fn.name == "runtime.NumGoroutine") = false) (hb : fn.body.isNone = true) (hn : Extern.findNext fn = none) (he : Extern.find fn = some e) :
  (execOp a.eval o).run P w=((e (c.args.map a.eval)).run P w).andThen fun v w'=>.ok (.value v) w':=by have hev:a.eval (.func f)=.func (.func f) #[] #[]:=rfl;simp only[execOp,ho,resolve,hc,hev,Deferred.ofValue,Sem.run_bind,Sem.run_pure,Result.andThen_ok,invoke,Array.append_empty,Array.empty_append,run_callFunc_extern hf hnr hb hn he]
theorem Ri {c : Call} {f : FuncId} {fn : Func} {x y : Operand} {fz : fD} (ho : o.op = .call c) (hc : c.callee = .value (.func f)) (hf : P.funcs[f]? = some fn) (hb : fn.body.isNone = true) (hor : fn.origin = "") (hn : fn.name = "internal/bytealg.IndexByte") (ha : c.args.toList = [x, y])
  (S:Sim w0 X σ w) (hx:∀ v,ev fr x=some v->fN X v (a.eval x)) (hy:∀ v,ev fr y=some v->fN X v (a.eval y)) (h:aop fz (.Dy x y) fr σ=some (v,σ')):n8 P w0 o a X σ w v σ':=by
 obtain⟨n1,n2⟩:=yC hn hor (by decide) ⟨by kernel_rfl,by kernel_rfl⟩;have hrun:=r5 (P:=P) (w:=w) (a:=a) ho hc hf n1 hb n2 (Zg hn);rw[vO ha] at hrun;simp only[aop,aa] at h;obtain⟨q,hq,p,hp,h⟩:=h;split at h
 ·rename_i n;cases h;have e1:=iO (hx _ hq);have e2:=jr (hy _ hp);refine gX.uk S ⟨.int .i64 (-1),?_,gY _ _⟩;rw[hrun];simp[e1,e2,Lib.run_indexByteNil]
 ·rename_i ad n e cv;simp only[aa] at h;obtain⟨⟨pl,cs⟩,hb,h⟩:=h;split at h
  ·rename_i hl;simp only[aj] at h;obtain⟨l,hlv,h⟩:=h;cases h;obtain⟨ra,c',e1,hsl⟩:=iI (hx _ hq);have e2:=jr (hy _ hp);obtain⟨ns,hns,rfl⟩:=sH hlv;refine gX.uk S ⟨.int .i64 (ixB cv.toNat.toUInt8 (ns.map fun n=>UInt8.ofNat n.toNat) 0),?_,gY _ _⟩;rw[hrun];have hlen:ns.length=n:=by have:=congrArg List.length hns;simp only[cP,dL,eT] at this;simp only at hl;omega
   cases n with
   | zero=>
    have:ns=[]:=bp hlen;subst this;rw[show(#[x,y].map a.eval)=#[a.eval x,a.eval y] by simp,e1,e2];rfl
   | succ n=>
    have hrA:=hsl.ptr (Nat.succ_pos n);obtain⟨rs,r1,r2⟩:=S.oB hb hrA hl;have hrs:rs=ns.map (Value.int .u8):=by rw[hns] at r1;exact qV r1 (fun v hv=>by simp only[bw] at hv;obtain⟨_,_,rfl⟩:=hv;rfl)
    obtain⟨bx,hX,s,hs,_,hra⟩:=hrA;obtain⟨iJ,g,hg,hsp⟩:=qW hb;have hgs:s=bx.gen:=by have:=(S.cell _ _ _ _ _ hX iJ hg).1;rw[hsp] at hs;cases hs;exact this
    have hra:=hra hgs;subst hra;have hcell:∀ i,i < n+1->w.cell? ⟨bx.b,bx.o+ad.off+i,none⟩=some (.int .u8 (ns.getD i 0)):=fun i hi=>by
     have hi':i < ns.length:=om
     have h3:rs[i]?=some (.int .u8 ns[i]):=by rw[hrs];simp[hi']
     have:=r2 i _ h3;rw[add_lit] at this;rw[this];simp[hi']
    rw[show(#[x,y].map a.eval)=#[a.eval x,a.eval y] by simp,e1,e2,Lib.run_indexByteSlice w bx.b (bx.o+ad.off) (n+1) c' ns hlen hcell cv,Zf];rfl
  ·cases h
 ·cases h
theorem D6:∀ (n t:Nat) (acc:Array Value),(∀ v∈acc.toList,∃ k,v=Value.int .u8 k)->∀ v∈(Extern.BytealgMakeNoZero.digits n t acc).toList,∃ k,v=Value.int .u8 k
 | 0,t,acc,h=>h
 | n+1,t,acc,h=>D6 n (t / 256) _ fun v hv=>by
  simp only[Array.toList_push,aP,cM] at hv;rcases hv with hv | rfl
  ·exact h v hv
  ·exact⟨_,rfl⟩
theorem zB(ps:Array TypeId)(t e:TypeId)(ht:P.underlying t=some (.slice e))(n:Nat)(hn:n<=1048576)(w:World) :
  ∃ cs:Array Value,(Extern.BytealgMakeNoZero.makeNoZero ps #[t] #[.int .i64 n]).run P w=.ok (.slice (some ⟨w.heap.size,0,none⟩) n cs.size) (w.drew.drew.alloc (.cells cs e))/\n<=cs.size/\cs.size<=maxLen/\∀ v∈cs.toList,∃ k,v=Value.int .u8 k:=by
 have DA:Extern.BytealgMakeNoZero.makeNoZero ps #[t] #[.int .i64 n] =
   (do
    let .slice elem <- underlying t | stuck "bytealg.MakeNoZero: slice type expected"
    if (n : Int) < 0 || (n : Int) > 2 ^ 48 then runtimePanic (.error "makeslice: len out of range")
    let cap <- choose (.appendCap (n:Int).toNat 0 elem)
    askRoom cap
    let bytes <- choose (.extern "internal/bytealg.MakeNoZero.bytes" 0)
    let a <- newRow elem (Extern.BytealgMakeNoZero.digits cap bytes #[])
    pure (.slice (some a) (n:Int).toNat cap)):=rfl
 refine ⟨Extern.BytealgMakeNoZero.digits (grownCap w n 0 e) ((Question.extern "internal/bytealg.MakeNoZero.bytes" 0).cut (w.tape (w.drawn + 1) (.extern "internal/bytealg.MakeNoZero.bytes" 0))) #[], ?_, ?_, ?_, D6 _ _ _ (by simp)⟩
 ·rw[DA];have h1:¬ (n:Int) < 0:=om
  have h2:¬ (281474976710656:Int) < (n:Int):=om
  simp[run_underlying ht,h1,h2,Question.forced,newRow,Lib.size_digits,grownCap]
 ·rw[Lib.size_digits];simpa using grownCap_ge w n 0 e
 ·rw[Lib.size_digits];have:n<=maxLen:=bh hn (by decide);simpa using grownCap_le_maxLen w n 0 e this
theorem Rj {c : Call} {f : FuncId} {fn : Func} {x : Operand} {t e : TypeId} {fz : fD} (ho : o.op = .call c) (hc : c.callee = .value (.func f)) (hf : P.funcs[f]? = some fn) (hb : fn.body.isNone = true) (hor : fn.origin = "") (hn : fn.name = "internal/bytealg.MakeNoZero") (ha : c.args.toList = [x])
  (hrt:fn.resultTypes.toList=[t]) (ht:P.underlying t=some (.slice e)) (S:Sim w0 X σ w) (hx:∀ v,ev fr x=some v->fN X v (a.eval x)) (h:aop fz (.Ij x) fr σ=some (v,σ')):n8 P w0 o a X σ w v σ':=by
 obtain⟨n1,n2⟩:=yC hn hor (by decide) ⟨by kernel_rfl,by kernel_rfl⟩;have hrun:=r5 (P:=P) (w:=w) (a:=a) ho hc hf n1 hb n2 (Zh hn);rw[oK ha,show fn.resultTypes=#[t] from bR.1 (by simpa using hrt)] at hrun;simp only[aop] at h;split at h
 ·rename_i k hk;split at h
  ·rename_i p9;cases h;have e1:=jr (hx _ hk);obtain⟨cs,c1,c2,c3,c4⟩:=zB (P:=P) fn.params t e ht k.toNat om w;rw[show((k.toNat:Nat):Int)=k by omega] at c1;have aeT:(execOp a.eval o).run P w=.ok (.value (.slice (some ⟨w.heap.size,0,none⟩) k.toNat cs.size)) (w.drew.drew.alloc (.cells cs e)):=by rw[hrun];simp[e1,c1]
   have key:=qX (w':=w.drew.drew.alloc (.cells cs e)) S (rcs:=cs) (ty:=e) (lo:=0) (hi:=0) (g:=0) (pl:=false) (cs:=List.replicate k.toNat acn) rfl rfl rfl rfl (.inl rfl) (cm _) (by simpa using c2) (fun e=>by cases e) (fun j v hv=>by
    rw[dB] at hv;split at hv
    ·rename_i hj;cases hv;have hjc:j < cs.size:=om
     obtain⟨m,hm⟩:=c4 cs[j] (by simp);exact⟨cs[j],by simp[hjc],m,hm⟩
    ·cases hv) (fun h0=>by simp at h0;omega)
   obtain⟨s1,s2,s3⟩:=key;refine⟨s3,_,_,_,_,aeT,.inl rfl,?_,s1,s2⟩;refine je ⟨c2,c3,⟨w.heap.size,0,true,0,(List.replicate k.toNat acn).length,cs.size⟩,by simp,0,rfl,av _,fun _=>⟨fun _=>rfl,fun _=>by unfold nU;rw[if_pos (.inl rfl)];intro h;cases h⟩⟩
  ·cases h
 ·cases h
end
end AM
namespace gC
open Go
section
variable{P:Program}{ops:Array Oper}
def qn(P:Program)(T:Value->World->Prop):Result Next->Prop
 | .ok (.value u) w'=>T u w'
 | .ok .skip w'=>T undef w'
 | .ok (.enter f args) w'=>Calls P f args w' (fun e w''=>∃ v,e=.returned v/\T v w'')
 | .ok (.round l f tmps assign body) w'=>RoundIn Fence.wide 0 P l f tmps assign body w' (fun e w''=>∃ v,e=.returned v/\T v w'')
 | _=>False
def gives(P:Program)(o:Oper)(a:Act)(w:World)(T:Value->World->Prop):Prop:=qn P T ((execOp a.eval o).run P w)
theorem mq{o:Oper}{a:Act}{w:World}{T T':Value->World->Prop}(h:∀ v w,T v w->T' v w)(hh:gives P o a w T):gives P o a w T':=by
 unfold gives at *;generalize (execOp a.eval o).run P w=r at *;cases r with
 | ok n w'=>
  cases n<;>simp only[qn] at hh ⊢;case value u=>exact h _ _ hh
  case skip=>exact h _ _ hh
  case enter f args=>exact hh.mono fun e w'' ⟨v,he,ht⟩=>⟨v,he,h _ _ ht⟩
  case round l f tmps assign body=>exact hh.mono fun e w'' ⟨v,he,ht⟩=>⟨v,he,h _ _ ht⟩
 | halt x w'=>simp only[qn] at hh
def fw(r:Option Nat):Fence:={ Fence.wide with round:=r }
theorem IU{r:Option Nat}{n:Nat}{f:FuncId}{args:Array Value}{w:World}{R:Ending->World->Prop}(h:Calls P f args w R):CallsIn (fw r) n P f args w R:=by
 have:=(callsIn_wide (n:=n)).2 h;cases r with
 | none=>exact this
 | some l=>exact this
theorem uy{r:Option Nat}{o:Oper}{a:Act}{w:World}{T:Value->World->Prop}{K:Act->World->Prop}{Q:Exit->Act->World->Prop}
  (hd:∀ c,o.op≠.defer c) (h:∀ v w',T v w'->K (a.put o.dst v) w') (hh:gives P o a w T):o.wpIn (fw r) 0 P a w K Q:=by
 refine⟨fun _ _=>(by cases r<;>exact trivial),?_⟩;have e:o.semAt (fw r).round a.eval=execOp a.eval o:=by
  cases r with
  | none=>exact Oper.semAt_none ..
  | some l=>exact Oper.semAt_some l _ _ hd
 rw[e];unfold gives at hh;generalize (execOp a.eval o).run P w=q at *;cases q with
 | ok n w'=>
  cases n<;>simp only[qn] at hh<;>simp only[Oper.uponIn];case value u=>exact h _ _ hh
  case skip=>exact h _ _ hh
  case enter f args=>exact⟨fun h=>(by cases r<;>cases h),IU (hh.mono fun e w'' ⟨v,he,ht⟩=>by subst he;exact h _ _ ht)⟩
  case round l f tmps assign body=>
   refine⟨fun h=>(by cases r<;>cases h),?_⟩;have:=hh.mono (R':=fun | .returned v,w''=>K (a.put o.dst v) w'' | .panicked chain,w''=>Q (.panic chain) a w'' | .outgrown,_=>LetsOut Q) fun e w'' ⟨v,he,ht⟩=>by subst he;exact h _ _ ht
   cases r with
   | none=>exact this
   | some l=>exact this
 | halt x w'=>simp only[qn] at hh
structure Stat(ops:Array Oper)(n:Nat):Prop where
 aeU:∀ (j:Nat) (o:Oper) cs b,ops[j]?=some o->o.op≠.select cs b
 fits:∀ (j:Nat) (o:Oper) d,ops[j]?=some o->o.dst=some d->d < n
 back:∀ (j:Nat) (o:Oper) (e:Edge),ops[j]?=some o->e∈o.after->e.on < j
 one:∀ (j k:Nat) (o o':Oper) d,ops[j]?=some o->ops[k]?=some o'->j≠k->o'.dst=some d->o.dst≠some d
 bound:∀ (j k:Nat) (o o':Oper) d,ops[j]?=some o->ops[k]?=some o'->j≠k->o'.dst=some d->d∈o.looksAt ops ->
  (∃ e∈o.after,Region.binds .any e=true/\e.on=k)\/(∃ e∈o'.after,Region.binds .any e=true/\e.on=j)
def slot(a:Act)(t:Nat):Value:=a.tmps.getD t undef
theorem qa{a:Act}{d:Nat}(hd:d < a.tmps.size)(v:Value):slot (a.put (some d) v) d=v:=by simp[slot,Act.put,hd]
theorem mA{a:Act}{dst:Option Tmp}{t:Nat}(h:dst≠some t)(v:Value):slot (a.put dst v) t=slot a t:=by
 cases dst with
 | none=>rfl
 | some d=>
  have hne:d≠t:=fun e=>h (by rw[e]);simp[slot,Act.put,c8 hne]
theorem size_put(a:Act)(dst:Option Tmp)(v:Value):(a.put dst v).tmps.size=a.tmps.size:=by cases dst<;>simp[Act.put]
theorem iL(a:Act)(dst:Option Tmp)(v:Value):(a.put dst v).defers=a.defers:=by cases dst<;>rfl
structure Inv(ops:Array Oper)(R:World->World->Prop)(w0:World)(a0:Act)(F:Nat->Value->World->Prop)(vs:Nat->Value)(listed:Array Bool)(a:Act)(w:World):Prop where
 world:R w0 w
 size:a.tmps.size=a0.tmps.size
 defers:a.defers=a0.defers
 lsize:listed.size=ops.size
 closed:∀ (k:Nat) (o:Oper) (e:Edge),ops[k]?=some o->listed.getD k false=true->e∈o.after->Region.binds .any e=true->listed.getD e.on false=true
 fact:∀ (k:Nat) (o:Oper),ops[k]?=some o->listed.getD k false=true->F k (vs k) w
 set:∀ (k:Nat) (o:Oper) (d:Nat),ops[k]?=some o->listed.getD k false=true->o.dst=some d->slot a d=vs k
 oM:∀ (t:Nat),(∀ (k:Nat) (o:Oper),ops[k]?=some o->o.dst=some t->listed.getD k false=false)->slot a t=slot a0 t
theorem r6{listed:Array Bool}{j:Nat}(h:listed.getD j true=false):listed.getD j false=false:=by
 by_cases hj:j < listed.size
 ·simpa[hj] using h
 ·simp[hj] at h
theorem mK{listed:Array Bool}{i j:Nat}(d:Bool)(h:i≠j):(listed.setIfInBounds i true).getD j d=listed.getD j d:=by simp[c8 h]
theorem nF{listed:Array Bool}{i:Nat}(d:Bool)(h:i < listed.size):(listed.setIfInBounds i true).getD i d=true:=by simp[h]
def left(n:Nat)(listed:Array Bool):Nat:=((List.range n).filter fun i=>!listed.getD i false).length
theorem Ul{n i:Nat}{listed:Array Bool}(hn:listed.size=n)(hi:i < n)(h:listed.getD i false=false):left n (listed.setIfInBounds i true) < left n listed:=by
 unfold left;have e:((List.range n).filter fun k=>!(listed.setIfInBounds i true).getD k false)=((List.range n).filter fun k=>!listed.getD k false).filter fun k=>!decide (k=i):=by
  rw[List.filter_filter];refine List.filter_congr fun k hk=>?_;by_cases hki:k=i
  ·subst hki;rw[nF false om];simp
  ·rw[mK false (Ne.symm hki)];simp[hki]
 rw[e,List.length_filter_lt_length_iff_exists];exact⟨i,cT.2 ⟨cj.2 hi,by simp[h]⟩,by simp⟩
variable{R:World->World->Prop}{w0:World}{a0:Act}{F:Nat->Value->World->Prop}
end
end gC
end Go.Proofs.YtgdpefeomemllaaGreat
