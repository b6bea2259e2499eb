/- Conditions: none. -/
import Derived.Test.YtgdpefeomemllaaGreatF2
set_option linter.all false
set_option maxRecDepth 100000
namespace Go.Proofs.YtgdpefeomemllaaGreat
namespace AM
open Go Go.RowKit
section
variable{k k':IntKind}{a b:Int}
theorem Ja:gT .add (.int k a) (.int k b)=some (.int k (k.wrap (a+b))):=by simp[gT,binOp,Op.intArith,jo,pure]
theorem Jb:gT .sub (.int k a) (.int k b)=some (.int k (k.wrap (a - b))):=by simp[gT,binOp,Op.intArith,jo,pure]
theorem Jc:gT .mul (.int k a) (.int k b)=some (.int k (k.wrap (a*b))):=by simp[gT,binOp,Op.intArith,jo,pure]
theorem Jd:gT .eql (.int k a) (.int k b)=some (.bool (a==b)):=by simp[gT,binOp,Op.intCmp,jo,pure]
theorem Je:gT .neq (.int k a) (.int k b)=some (.bool (a != b)):=by simp[gT,binOp,Op.intCmp,jo,pure]
theorem Jf:gT .lss (.int k a) (.int k b)=some (.bool (a < b)):=by simp[gT,binOp,Op.intCmp,jo,pure]
theorem Jg:gT .leq (.int k a) (.int k b)=some (.bool (a<=b)):=by simp[gT,binOp,Op.intCmp,jo,pure]
theorem Jh:gT .gtr (.int k a) (.int k b)=some (.bool (a > b)):=by simp[gT,binOp,Op.intCmp,jo,pure]
theorem Ji:gT .geq (.int k a) (.int k b)=some (.bool (a>=b)):=by simp[gT,binOp,Op.intCmp,jo,pure]
theorem BY:gT .shl (.int k a) (.int k' b)=if b < 0 then none else some (.int k (k.wrap (a*2 ^ (min b.toNat k.bits)))):=by
 simp only[gT,binOp,Op.shift];split
 ·rfl
 ·simp[jo,pure]
theorem BZ:gT .shr (.int k a) (.int k' b)=if b < 0 then none else some (.int k (a.fdiv (2 ^ (min b.toNat k.bits)))):=by
 simp only[gT,binOp,Op.shift];split
 ·rfl
 ·simp[jo,pure]
theorem Jj:gT .quo (.int k a) (.int k b)=if b=0 then none else some (.int k (k.wrap (a.tdiv b))):=by
 simp only[gT,binOp,Op.intDiv];simp only[ne_eq,not_true_eq_false,if_false];split
 ·rfl
 ·simp[jo,pure]
theorem Jk:gT .rem (.int k a) (.int k b)=if b=0 then none else some (.int k (a.tmod b)):=by
 simp only[gT,binOp,Op.intDiv];simp only[ne_eq,not_true_eq_false,if_false];split
 ·rfl
 ·simp[jo,pure]
theorem Jl:gT .and (.int k a) (.int k b)=some (.int k (k.wrap ((BitVec.ofInt k.bits a&&&BitVec.ofInt k.bits b).toNat))):=by simp[gT,binOp,Op.intBits,jo,pure]
theorem OY:gT .or (.int k a) (.int k b)=some (.int k (k.wrap ((BitVec.ofInt k.bits a|||BitVec.ofInt k.bits b).toNat))):=by simp[gT,binOp,Op.intBits,jo,pure]
theorem Jm:gT .xor (.int k a) (.int k b)=some (.int k (k.wrap ((BitVec.ofInt k.bits a ^^^ BitVec.ofInt k.bits b).toNat))):=by simp[gT,binOp,Op.intBits,jo,pure]
end
theorem Zt{b:Bool} : aun .not (.bool b)=some (.bool !b):=by simp[aun,Op.unary,jo,pure]
theorem DG(a:List Nat):fX a []=a:=rfl
section
variable{env:Env}{fz:fD}
noncomputable def OZ(env:Env)(b:fG):Option (Ex×Fr×St)->Option (Ex×Fr×St)
 | some (.normal,fr,σ)=>ga env b fr σ
 | some (e,fr,σ)=>some (e,fr,σ)
 | none=>none
def qc(id:Nat):Option (Ex×Fr×St)->Option (Ex×Fr×St)
 | some (.exit i,fr,σ)=>if i=id then some (.normal,fr,σ) else some (.exit i,fr,σ)
 | r=>r
def Jn:Option (Fr×St)->Option (Ex×Fr×St)
 | some (fr,σ)=>some (.normal,fr,σ)
 | none=>none
noncomputable def abI(env:Env)(a b:fG)(fr:Fr)(σ:St):Option Value->Option (Ex×Fr×St)
 | some (.bool true)=>ga env a fr σ
 | some (.bool false)=>ga env b fr σ
 | _=>none
def Zu(rs:List mX)(σ:St):Option (Ex×Fr×St)->Option (Value×St)
 | some r=>fin rs σ r
 | none=>none
def opX(fz:fD)(d:Option Nat)(l:List fB)(fr:Fr):Option (Value×St)->Option (Fr×St)
 | some (v,σ)=>lI fz l (fr.put d v) σ
 | none=>none
def O0(fz:fD)(o:fB)(l:List fB)(fr:Fr)(σ:St):Option Bool->Option (Fr×St)
 | some true=>opX fz o.dst l fr (aop fz o.op fr σ)
 | some false=>lI fz l (fr.put o.dst gB) σ
 | none=>none
theorem fF(f:Nat)(args:List Value)(σ:St){fn:AFn}(h:env.fn f=some fn):fS env (.func f) args σ=Zu fn.results σ (ga env fn.code (gS 0 args) { σ with fA:=[] }):=by rw[F5 h];cases ga env fn.code (gS 0 args) { σ with fA:=[] }<;>rfl
theorem F6(a b:fG)(fr:Fr)(σ:St):ga env (.seq a b) fr σ=OZ env b (ga env a fr σ):=by
 rw[En];cases ga env a fr σ with
 | none=>rfl
 | some r=>obtain⟨e,fr',σ'⟩:=r;cases e<;>rfl
theorem MC(ops:List fB)(fr:Fr)(σ:St):ga env (.region ops) fr σ=Jn (lI (fS env) ops fr σ):=by rw[v7];cases lI (fS env) ops fr σ<;>rfl
theorem RC(ops:List fB)(fr:Fr)(σ:St):ga env (.drawn ops) fr σ=Jn (lK (gE (fS env)) [] 0 ops fr σ):=by rw[yN];cases lK (gE (fS env)) [] 0 ops fr σ<;>rfl
theorem F7(c:fD)(f:FuncId)(vs:List Value)(σ:St):gE c (.func f) vs σ=c (.func f) vs σ:=rfl
def Jo(fr:Fr)(σ:St):Option (List Value×St)->Option (Ex×Fr×St)
 | some (_,τ)=>some (.normal,fr,⟨τ.heap,τ.lock,τ.hid,fX σ.fA τ.fA⟩)
 | none=>none
def Ca(fr:Fr)(σ:St):Option (Ex×Fr×St)->Option (Ex×Fr×St)
 | some (.normal,_,τ)=>Jo fr σ (gc σ.heap.length [] τ)
 | some (.ret,_,τ)=>Jo fr σ (gc σ.heap.length [] τ)
 | _=>none
noncomputable def O1(env:Env)(g:Nat)(gk:fG)(ps:List Nat)(ba b:fG)(fr:Fr)(σ:St):Option Value->Option (Ex×Fr×St)
 | some (.func (.func h) fi ca)=>if h==g&&fi.isEmpty then Ca fr σ (ga (.yl env ps ba b fr) gk (gS 0 (.func (.yield 0) #[] #[]::ca.toList)) { σ with fA:=[] }) else none
 | _=>none
theorem UD(x:Operand)(g:Nat)(gk:fG)(ps:List Nat)(ba b:fG)(fr:Fr)(σ:St):ga env (.each x g gk ps ba b) fr σ=O1 env g gk ps ba b fr σ (ev fr x):=by
 have key:∀ r:Option (Ex×Fr×St),r.bind (nC fr σ)=Ca fr σ r:=fun r=>by
  cases r with
  | none=>rfl
  | some r=>
   obtain⟨e,fr',τ⟩:=r;cases e with
   | exit id=>rfl
   | normal=>
    simp only[ak,nC,Ca];cases gc σ.heap.length [] τ<;>rfl
   | ret=>
    simp only[ak,nC,Ca];cases gc σ.heap.length [] τ<;>rfl
 rw[BV];generalize ev fr x=q;cases q with
 | none=>rfl
 | some v=>
  cases v<;>first
   | rfl
   | skip
  rename_i h fi ca;cases h<;>first
   | rfl
   | skip
  rename_i h;simp only[O1];rw[key];rfl
theorem MD(g:Nat)(gk:fG)(ps:List Nat)(ba b:fG)(fr:Fr)(hp:List Blk)(L:Nat)(H d:List Nat)(ca:Array Value) :
  O1 env g gk ps ba b fr ⟨hp,L,H,d⟩ (some (.func (.func g) #[] ca))=Ca fr ⟨hp,L,H,d⟩ (ga (.yl env ps ba b fr) gk (gS 0 (.func (.yield 0) #[] #[]::ca.toList)) ⟨hp,L,H,[]⟩):=by simp[O1]
theorem F8(fr fr':Fr)(σ τ:St):Ca fr σ (some (.normal,fr',τ))=Jo fr σ (gc σ.heap.length [] τ):=rfl
theorem RD(fr fr':Fr)(σ τ:St):Ca fr σ (some (.ret,fr',τ))=Jo fr σ (gc σ.heap.length [] τ):=rfl
theorem ME(fr:Fr)(σ τ:St)(vs:List Value):Jo fr σ (some (vs,τ))=some (.normal,fr,⟨τ.heap,τ.lock,τ.hid,fX σ.fA τ.fA⟩):=rfl
def F9(σ:St):Option (List Value×St)->Option (Value×St)
 | some (_,τ)=>some (.bool true,⟨τ.heap,τ.lock,τ.hid,fX σ.fA τ.fA⟩)
 | none=>none
def Ga(σ:St):Option (Ex×Fr×St)->Option (Value×St)
 | some (.normal,_,τ)=>F9 σ (gc σ.heap.length [] τ)
 | _=>none
noncomputable def MF(env:Env)(b:fG)(σ:St):Option (Ex×Fr×St)->Option (Value×St)
 | some (.normal,fr,τ)=>Ga σ (ga env b fr τ)
 | _=>none
theorem Eo(ps:List Nat)(ba b:fG)(fr:Fr)(k:Nat)(args:List Value)(σ:St)(h:(args.length=ps.length)/\args.all oF=true) :
  fS (.yl env ps ba b fr) (.yield k) args σ=MF env b σ (ga env ba (ps.zip args++fr) { σ with fA:=[] }):=by
 rw[uB];unfold jJ;rw[if_pos (by simp[h.1,h.2])];cases ga env ba (ps.zip args++fr) { σ with fA:=[] } with
 | none=>rfl
 | some r=>
  obtain⟨e,fr',τ⟩:=r;cases e with
  | normal=>
   simp only[ak,MF];cases ga env b fr' τ with
   | none=>rfl
   | some r=>
    obtain⟨e,fr2,τ2⟩:=r;cases e with
    | normal=>
     simp only[ak,Ga];cases gc σ.heap.length [] τ2<;>rfl
    | _=>rfl
  | _=>rfl
theorem DH(b:fG)(σ τ:St)(fr:Fr):MF env b σ (some (.normal,fr,τ))=Ga σ (ga env b fr τ):=rfl
theorem DI(σ τ:St)(fr:Fr):Ga σ (some (.normal,fr,τ))=F9 σ (gc σ.heap.length [] τ):=rfl
theorem Jp(σ τ:St)(vs:List Value):F9 σ (some (vs,τ))=some (.bool true,⟨τ.heap,τ.lock,τ.hid,fX σ.fA τ.fA⟩):=rfl
def MG(fz:fD)(m:Bool)(ops:List fB)(fr:Fr)(σ:St):Option (List Nat)->Option (Ex×Fr×St)
 | some B=>Jn (j3 fz m B [] ops fr σ)
 | none=>none
theorem RE(xs:List Nat)(m:Bool)(ops:List fB)(fr:Fr)(σ:St):ga env (.sv xs m ops) fr σ=MG (gE (fS env)) m ops fr σ (boxes fr xs):=by
 rw[yO];cases boxes fr xs with
 | none=>rfl
 | some B=>
  simp only[ak,MG];cases j3 (gE (fS env)) m B [] ops fr σ<;>rfl
theorem Jq(fz:fD)(m:Bool)(ops:List fB)(fr:Fr)(σ:St)(B:List Nat):MG fz m ops fr σ (some B)=Jn (j3 fz m B [] ops fr σ):=rfl
def acH:Option Value->Option (List Nat)->Option (List Nat)
 | some (.pointer (some a)),some B=>some (a.block::B)
 | some (.slice (some a) _ _),some B=>some (a.block::B)
 | _,_=>none
theorem RF(fr:Fr):boxes fr []=some []:=rfl
theorem MH(fr:Fr)(x:Nat)(l:List Nat):boxes fr (x::l)=acH (fr.get x) (boxes fr l):=by
 simp only[boxes];generalize fr.get x=q;cases q with
 | none=>rfl
 | some v=>cases v<;>first
  | rfl
  | (rename_i p;cases p<;>first | rfl | (cases boxes fr l<;>rfl))
  | (rename_i p _ _;cases p<;>first | rfl | (cases boxes fr l<;>rfl))
theorem Zv(a:Addr)(n e:Nat)(B:List Nat):acH (some (.slice (some a) n e)) (some B)=some (a.block::B):=rfl
theorem RG(a:Addr)(B:List Nat):acH (some (.pointer (some a))) (some B)=some (a.block::B):=rfl
def moF(fz:fD)(m:Bool)(B:List Nat)(seen:List (Bool×Nat))(d:Option Nat)(l:List fB)(fr:Fr):Option (Value×St)->Option (List (Bool×Nat))->Option (Fr×St)
 | some (v,σ),some tg=>if apart tg seen&&(!m||tg.all fun p=>B.contains p.2) then j3 fz m B (tg++seen) l (fr.put d v) σ else none
 | _,_=>none
def moM(fz:fD)(B:List Nat)(seen:List (Bool×Nat))(d:Option Nat)(l:List fB)(fr:Fr)(H:List Nat):Option (Value×St)->Option (Fr×St)
 | some (v,σ)=>j3 fz true B seen l (fr.put d v) ⟨σ.heap,σ.lock,H,σ.fA⟩
 | none=>none
def MI(fz:fD)(m:Bool)(B:List Nat)(seen:List (Bool×Nat))(o:fB)(l:List fB)(fr:Fr)(σ:St):Option (Fr×St):=
 if o.wr then (if m then moM fz B seen o.dst l fr σ.hid (aop fz o.op fr ⟨σ.heap,σ.lock,B++σ.hid,σ.fA⟩) else none) else moF fz m B seen o.dst l fr (aop iQ o.op fr σ) (tgt fr o.op)
def Gb(fz:fD)(m:Bool)(B:List Nat)(seen:List (Bool×Nat))(o:fB)(l:List fB)(fr:Fr)(σ:St):Option Bool->Option (Fr×St)
 | some true=>MI fz m B seen o l fr σ
 | some false=>j3 fz m B seen l (fr.put o.dst gB) σ
 | none=>none
theorem UE(fz:fD)(m:Bool)(B:List Nat)(seen:List (Bool×Nat))(o:fB)(l:List fB)(fr:Fr)(σ:St):j3 fz m B seen (o::l) fr σ=Gb fz m B seen o l fr σ (want o fr):=by
 simp only[j3];cases want o fr with
 | none=>rfl
 | some b=>
  simp only[ak];cases b with
  | false=>rfl
  | true=>
   simp only[if_true,Gb,MI];split
   ·split
    ·rename_i hm;subst hm;cases aop fz o.op fr { σ with hid:=B++σ.hid }<;>rfl
    ·rfl
   ·cases tgt fr o.op with
    | none=>cases aop iQ o.op fr σ<;>rfl
    | some tg=>
     simp only[ak];cases aop iQ o.op fr σ with
     | none=>simp only[Option.bind_none,moF,ite_self]
     | some r=>rfl
theorem Jr(fz:fD)(m:Bool)(B:List Nat)(seen:List (Bool×Nat))(o:fB)(l:List fB)(fr:Fr)(σ:St):Gb fz m B seen o l fr σ (some true)=MI fz m B seen o l fr σ:=rfl
theorem RH(fz:fD)(m:Bool)(B:List Nat)(seen:List (Bool×Nat))(d:Option Nat)(g:Option (Nat×Bool))(b:Nat)(op:AOp)(l:List fB)(fr:Fr)(σ:St):MI fz m B seen ⟨d,g,b,false,op⟩ l fr σ=moF fz m B seen d l fr (aop iQ op fr σ) (tgt fr op):=rfl
theorem MJ(fz:fD)(B:List Nat)(seen:List (Bool×Nat))(d:Option Nat)(g:Option (Nat×Bool))(b:Nat)(op:AOp)(l:List fB)(fr:Fr)(σ:St):MI fz true B seen ⟨d,g,b,true,op⟩ l fr σ=moM fz B seen d l fr σ.hid (aop fz op fr ⟨σ.heap,σ.lock,B++σ.hid,σ.fA⟩):=rfl
theorem UF(fz:fD)(B:List Nat)(seen:List (Bool×Nat))(d:Option Nat)(l:List fB)(fr:Fr)(H:List Nat)(v:Value)(σ:St):moM fz B seen d l fr H (some (v,σ))=j3 fz true B seen l (fr.put d v) ⟨σ.heap,σ.lock,H,σ.fA⟩:=rfl
def tgL(q:Bool):Option Value->Option (List (Bool×Nat))
 | some (.pointer (some a))=>some [(q,a.block)]
 | _=>none
theorem UG(fr:Fr)(n:Option Nat)(x:Operand):tgt fr (.load n x)=tgL false (ev fr x):=by
 simp only[tgt];generalize ev fr x=q;cases q with
 | none=>rfl
 | some v=>cases v<;>first | rfl | (rename_i p;cases p<;>rfl)
theorem RI(fr:Fr)(n:Nat)(x y:Operand):tgt fr (.store n x y)=tgL true (ev fr x):=by
 simp only[tgt];generalize ev fr x=q;cases q with
 | none=>rfl
 | some v=>cases v<;>first | rfl | (rename_i p;cases p<;>rfl)
theorem UH(q:Bool)(a:Addr):tgL q (some (.pointer (some a)))=some [(q,a.block)]:=rfl
theorem acI(fr:Fr)(x:Operand):tgt fr (.mv x)=some []:=rfl
theorem UI(fr:Fr)(x y z:Operand):tgt fr (.pick x y z)=some []:=rfl
theorem RJ(fr:Fr)(zs:List Value)(ps:List (Nat×Nat×Operand)):tgt fr (.build zs ps)=some []:=rfl
theorem RK(fr:Fr)(x:Operand):tgt fr (.kK x)=some []:=rfl
theorem Zw(fr:Fr)(op:BinOp)(x y:Operand):tgt fr (.bin op x y)=some []:=rfl
theorem Zx(fr:Fr)(n:Bool)(sh:EqK)(x y:Operand):tgt fr (.eqs n sh x y)=some []:=rfl
theorem acJ(fr:Fr)(op:UnOp)(x:Operand):tgt fr (.un op x)=some []:=rfl
theorem UJ(fr:Fr)(k:IntKind)(x:Operand):tgt fr (.conv k x)=some []:=rfl
theorem RL(fr:Fr)(e:Nat)(x:Operand)(a b c:Option Operand):tgt fr (.slice e x a b c)=some []:=rfl
theorem MK(fr:Fr)(x:Operand)(a b:Option Operand):tgt fr (.pV x a b)=some []:=rfl
theorem RM(fr:Fr)(n:Nat)(x:Operand):tgt fr (.fQ n x)=some []:=rfl
theorem RN(fr:Fr)(o:Nat)(n:Option Nat)(x:Operand):tgt fr (.field o n x)=some []:=rfl
theorem RO(fr:Fr)(e:Nat)(x i:Operand):tgt fr (.fK e x i)=some []:=rfl
theorem ML(fr:Fr)(e n:Nat)(x i:Operand):tgt fr (.gO e n x i)=some []:=rfl
theorem Zy(fr:Fr)(e n:Nat)(m:Option Nat)(x i:Operand):tgt fr (.idx e n m x i)=some []:=rfl
theorem Zz(fr:Fr)(x:Operand)(i:Nat):tgt fr (.ext x i)=some []:=rfl
theorem ZA(fr:Fr)(x:Operand):tgt fr (.len x)=some []:=rfl
theorem UK(fr:Fr)(x:Operand):tgt fr (.lens x)=some []:=rfl
theorem UL(fr:Fr)(n:Nat):tgt fr (.FF n)=some []:=rfl
theorem acK(fr:Fr)(mx:Bool)(xs:List Operand):tgt fr (.mm mx xs)=some []:=rfl
def Gc:List Nat->Nat->Prop
 | [],_=>False
 | c::l,b=>b=c\/Gc l b
theorem UM(b:Nat):Gc [] b=False:=rfl
theorem RP(c b:Nat)(l:List Nat):Gc (c::l) b=(b=c\/Gc l b):=rfl
theorem Gc.has:∀ {B:List Nat} {b:Nat},Gc B b->B.contains b=true
 | c::l,b,h=>by
  rcases h with rfl | h
  ·simp
  ·have:=Gc.has (B:=l) h;simp only[List.contains_cons,this,Bool.or_true]
def xN:List (Bool×Nat)->Nat->Prop
 | [],b=>b=b
 | (true,c)::l,b=>b≠c/\xN l b
 | (false,_)::l,b=>xN l b
def Ge:List (Bool×Nat)->Nat->Prop
 | [],b=>b=b
 | (_,c)::l,b=>b≠c/\Ge l b
theorem UN(b:Nat):xN [] b=(b=b):=rfl
theorem RQ(c b:Nat)(l:List (Bool×Nat)):xN ((true,c)::l) b=(b≠c/\xN l b):=rfl
theorem MM(c b:Nat)(l:List (Bool×Nat)):xN ((false,c)::l) b=xN l b:=rfl
theorem UO(b:Nat):Ge [] b=(b=b):=rfl
theorem RR(q:Bool)(c b:Nat)(l:List (Bool×Nat)):Ge ((q,c)::l) b=(b≠c/\Ge l b):=rfl
theorem wg{q:Bool}{b:Nat}{seen:List (Bool×Nat)}(h:∀ p∈seen,(q=false/\p.1=false)\/b≠p.2):apart [(q,b)] seen=true:=by
 simp only[apart,ct,dS,dx,aF];intro p hp;rcases h p hp with ⟨h1,h2⟩ | h1
 ·simp[h1,h2]
 ·simp[h1]
theorem xN.all:∀ {seen:List (Bool×Nat)} {b:Nat},xN seen b->∀ p∈seen,(false=false/\p.1=false)\/b≠p.2
 | [],b,h,p,hp=>by cases hp
 | (true,c)::l,b,h,p,hp=>by
  rcases aJ.1 hp with rfl | hp
  ·exact .inr h.1
  ·exact xN.all h.2 p hp
 | (false,c)::l,b,h,p,hp=>by
  rcases aJ.1 hp with rfl | hp
  ·exact .inl ⟨rfl,rfl⟩
  ·exact xN.all (seen:=l) h p hp
theorem Ge.all:∀ {seen:List (Bool×Nat)} {b:Nat},Ge seen b->∀ p∈seen,(true=false/\p.1=false)\/b≠p.2
 | [],b,h,p,hp=>by cases hp
 | (_,c)::l,b,h,p,hp=>by
  rcases aJ.1 hp with rfl | hp
  ·exact .inr h.1
  ·exact Ge.all h.2 p hp
theorem UP(fz:fD)(m:Bool)(B:List Nat)(seen:List (Bool×Nat))(fr:Fr)(σ:St):j3 fz m B seen [] fr σ=some (fr,σ):=rfl
theorem ZB(fz:fD)(m:Bool)(B:List Nat)(seen:List (Bool×Nat))(d:Option Nat)(l:List fB)(fr:Fr)(v:Value)(σ:St):moF fz m B seen d l fr (some (v,σ)) (some [])=j3 fz m B seen l (fr.put d v) σ:=by simp[moF,apart]
theorem RS(fz:fD)(B:List Nat)(seen:List (Bool×Nat))(d:Option Nat)(l:List fB)(fr:Fr)(v:Value)(σ:St)(b:Nat)(h:xN seen b):moF fz false B seen d l fr (some (v,σ)) (some [(false,b)])=j3 fz false B ((false,b)::seen) l (fr.put d v) σ:=by simp[moF,wg h.all]
theorem RT(fz:fD)(B:List Nat)(seen:List (Bool×Nat))(d:Option Nat)(l:List fB)(fr:Fr)(v:Value)(σ:St)(b:Nat)(h:xN seen b)(hB:Gc B b):moF fz true B seen d l fr (some (v,σ)) (some [(false,b)])=j3 fz true B ((false,b)::seen) l (fr.put d v) σ:=by simp only[moF,wg h.all,ct,dS,hB.has,dX,dx,Bool.or_true,if_true,aS,aV]
theorem MN(fz:fD)(B:List Nat)(seen:List (Bool×Nat))(d:Option Nat)(l:List fB)(fr:Fr)(v:Value)(σ:St)(b:Nat)(h:Ge seen b):moF fz false B seen d l fr (some (v,σ)) (some [(true,b)])=j3 fz false B ((true,b)::seen) l (fr.put d v) σ:=by simp[moF,wg h.all]
theorem MO(fz:fD)(B:List Nat)(seen:List (Bool×Nat))(d:Option Nat)(l:List fB)(fr:Fr)(v:Value)(σ:St)(b:Nat)(h:Ge seen b)(hB:Gc B b):moF fz true B seen d l fr (some (v,σ)) (some [(true,b)])=j3 fz true B ((true,b)::seen) l (fr.put d v) σ:=by simp only[moF,wg h.all,ct,dS,hB.has,dX,dx,Bool.or_true,if_true,aS,aV]
theorem UQ(c:Operand)(a b:fG)(fr:Fr)(σ:St):ga env (.cond c a b) fr σ=abI env a b fr σ (ev fr c):=by
 rw[BT];cases ev fr c with
 | none=>rfl
 | some v=>cases v<;>first
  | rfl
  | (rename_i q;cases q<;>rfl)
theorem RU(id:Nat)(b:fG)(fr:Fr)(σ:St):ga env (.block id b) fr σ=qc id (ga env b fr σ):=by
 rw[yP];cases ga env b fr σ with
 | none=>rfl
 | some r=>
  obtain⟨e,fr',σ'⟩:=r;cases e<;>first
   | rfl
   | (simp only[bq,qc];split<;>rfl)
theorem UR(o:fB)(l:List fB)(fr:Fr)(σ:St):lI fz (o::l) fr σ=O0 fz o l fr σ (want o fr):=by
 rw[lI];cases want o fr with
 | none=>rfl
 | some b=>
  cases b with
  | false=>rfl
  | true=>
   simp only[ak,if_true,O0];cases aop fz o.op fr σ<;>rfl
theorem US(fr:Fr)(σ:St):lI fz [] fr σ=some (fr,σ):=rfl
theorem rB(b:fG)(fr:Fr)(σ:St):OZ env b (some (.normal,fr,σ))=ga env b fr σ:=rfl
theorem RV(b:fG)(fr:Fr)(σ:St):OZ env b (some (.ret,fr,σ))=some (.ret,fr,σ):=rfl
theorem MP(b:fG)(i:Nat)(fr:Fr)(σ:St):OZ env b (some (.exit i,fr,σ))=some (.exit i,fr,σ):=rfl
theorem DJ(id:Nat)(fr:Fr)(σ:St):qc id (some (.normal,fr,σ))=some (.normal,fr,σ):=rfl
theorem MQ(id:Nat)(fr:Fr)(σ:St):qc id (some (.ret,fr,σ))=some (.ret,fr,σ):=rfl
theorem Js(id i:Nat)(fr:Fr)(σ:St):qc id (some (.exit i,fr,σ))=if i=id then some (.normal,fr,σ) else some (.exit i,fr,σ):=rfl
theorem MR(fr:Fr)(σ:St):Jn (some (fr,σ))=some (.normal,fr,σ):=rfl
theorem UT(d:Option Nat)(l:List fB)(fr:Fr)(v:Value)(σ:St):opX fz d l fr (some (v,σ))=lI fz l (fr.put d v) σ:=rfl
end
def mM(σ:St):Option Value->Option (Value×St)
 | some v=>some (v,σ)
 | none=>none
theorem RW(σ:St)(v:Value):mM σ (some v)=some (v,σ):=rfl
theorem lR(σ:St)(x:Option Value):x.map (fun v=>(v,σ))=mM σ x:=by cases x<;>rfl
def UU(σ:St)(c x y:Option Value):Option (Value×St):=
 match c with
 | some (.bool true)=>mM σ x
 | some (.bool false)=>mM σ y
 | _=>none
theorem MS(σ:St)(q:Bool)(x y:Option Value):UU σ (some (.bool q)) x y=if q=true then mM σ x else mM σ y:=by cases q<;>rfl
def ae4(σ:St)(op:BinOp)(x y:Option Value):Option (Value×St):=
 match x,y with
 | some v,some w=>mM σ (gT op v w)
 | _,_=>none
theorem Ep(σ:St)(op:BinOp)(v w:Value):ae4 σ op (some v) (some w)=mM σ (gT op v w):=rfl
def O2(σ:St)(n:Option Nat):Option Value->Option (Value×St)
 | some (.pointer (some a))=>match σ.blk a with
  | some (_,cs)=>mM σ (gI cs a.off n)
  | none=>none
 | _=>none
def UW(σ:St)(n:Option Nat)(off:Nat):Option (Bool×List Value)->Option (Value×St)
 | some (_,cs)=>mM σ (gI cs off n)
 | none=>none
theorem Cb(σ:St)(n:Option Nat)(a:Addr):O2 σ n (some (.pointer (some a)))=UW σ n a.off (σ.blk a):=by simp only[O2];cases σ.blk a<;>rfl
theorem yR(σ:St)(n:Option Nat)(off:Nat)(pl:Bool)(cs:List Value):UW σ n off (some (pl,cs))=mM σ (gI cs off n):=rfl
def xO(σ:St)(n:Nat)(a x:Option Value):Option (Value×St):=
 match a,x with
 | some (.pointer (some a)),some v=>if (cellsOf v).length=n then (match σ.write a (cellsOf v) with | some σ'=>some (.tuple #[],σ') | none=>none) else none
 | _,_=>none
def Gg:Option St->Option (Value×St)
 | some σ'=>some (.tuple #[],σ')
 | none=>none
theorem Jt(σ:St):Gg (some σ)=some (.tuple #[],σ):=rfl
theorem yS(σ:St)(n:Nat)(a:Addr)(v:Value):xO σ n (some (.pointer (some a))) (some v)=if (cellsOf v).length=n then Gg (σ.write a (cellsOf v)) else none:=by simp only[xO];cases σ.write a (cellsOf v)<;>rfl
section
variable{fz:fD}(fr:Fr)(σ:St)
theorem UX(x:Operand):aop fz (.mv x) fr σ=mM σ (ev fr x):=by simp only[aop,gD,lR]
theorem Ju(c x y:Operand):aop fz (.pick c x y) fr σ=UU σ (ev fr c) (ev fr x) (ev fr y):=by
 simp only[aop,gD,lR];cases ev fr c with
 | none=>rfl
 | some v=>cases v<;>first
  | rfl
  | (rename_i q;cases q<;>rfl)
theorem O3(op:BinOp)(x y:Operand):aop fz (.bin op x y) fr σ=ae4 σ op (ev fr x) (ev fr y):=by
 simp only[aop,gD,lR];cases ev fr x with
 | none=>rfl
 | some v=>cases ev fr y<;>rfl
theorem Jv(n:Option Nat)(x:Operand):aop fz (.load n x) fr σ=O2 σ n (ev fr x):=by
 simp only[aop];cases ev fr x with
 | none=>rfl
 | some v=>cases v<;>first
  | rfl
  | (
    rename_i q;cases q with
    | none=>rfl
    | some a=>simp only[O2];cases σ.blk a with
     | none=>rfl
     | some p=>obtain⟨pl,cs⟩:=p;simp only[ak,lR])
theorem Er(n:Nat)(x y:Operand):aop fz (.store n x y) fr σ=xO σ n (ev fr x) (ev fr y):=by
 simp only[aop];cases ev fr y with
 | none=>cases ev fr x with
  | none=>rfl
  | some v=>cases v<;>first
   | rfl
   | (rename_i q;cases q<;>rfl)
 | some w=>cases ev fr x with
  | none=>rfl
  | some v=>cases v<;>first
   | rfl
   | (
     rename_i q;cases q with
     | none=>rfl
     | some a=>simp only[ak,xO];split<;>cases σ.write a (cellsOf w)<;>rfl)
end
section
variable{fz:fD}
def UY(fz:fD)(born:List (Nat×Nat×Nat))(j:Nat)(d:Option Nat)(l:List fB)(fr:Fr)(σ:St):Option (Value×St)->Option (Fr×St)
 | some (v,τ)=>lK fz (if σ.heap.length < τ.heap.length then (j,σ.heap.length,τ.heap.length)::born else born) (j+1) l (fr.put d v) ⟨τ.heap,σ.lock,σ.hid,τ.fA⟩
 | none=>none
def Gh(fz:fD)(born:List (Nat×Nat×Nat))(j:Nat)(o:fB)(l:List fB)(fr:Fr)(σ:St):Option Bool->Option (Fr×St)
 | some true=>UY fz born j o.dst l fr σ (aop fz o.op fr ⟨σ.heap,jW o.wr (mF o) born σ.lock σ.heap.length,gj o.bef born++σ.hid,σ.fA⟩)
 | some false=>lK fz born (j+1) l (fr.put o.dst gB) σ
 | none=>none
theorem UZ(born:List (Nat×Nat×Nat))(j:Nat)(o:fB)(l:List fB)(fr:Fr)(σ:St):lK fz born j (o::l) fr σ=Gh fz born j o l fr σ (want o fr):=by
 rw[lK];cases want o fr with
 | none=>rfl
 | some b=>
  cases b with
  | false=>rfl
  | true=>
   simp only[ak,if_true,Gh];cases aop fz o.op fr { σ with lock:=jW o.wr (mF o) born σ.lock σ.heap.length,hid:=gj o.bef born++σ.hid }<;>rfl
theorem U0(born:List (Nat×Nat×Nat))(j:Nat)(fr:Fr)(σ:St):lK fz born j [] fr σ=some (fr,σ):=rfl
end
end AM
namespace AM
open Go Go.RowKit
def sM(σ:St)(f:Value->Option Value):Option Value->Option (Value×St)
 | some v=>mM σ (f v)
 | none=>none
theorem mw(σ:St)(f:Value->Option Value)(v:Value):sM σ f (some v)=mM σ (f v):=rfl
def sO(σ:St)(f:Value->Value->Option Value):Option Value->Option Value->Option (Value×St)
 | some v,some w=>mM σ (f v w)
 | _,_=>none
theorem nN(σ:St)(f:Value->Value->Option Value)(v w:Value):sO σ f (some v) (some w)=mM σ (f v w):=rfl
def Cc:Value->Option Value
 | .pointer (some a)=>some (.pointer (some a))
 | .func (.func f) fi ca=>some (.func (.func f) fi ca)
 | _=>none
theorem MT(a:Addr):Cc (.pointer (some a))=some (.pointer (some a)):=rfl
theorem Jw(f:FuncId)(fi ca:Array Value):Cc (.func (.func f) fi ca)=some (.func (.func f) fi ca):=rfl
def eqF(neg:Bool)(sh:EqK)(v w:Value):Option Value:=(aeq sh v w).map fun b=>.bool (if neg then !b else b)
def U1(k:IntKind):Value->Option Value
 | .int _ n=>some (.int k (k.wrap n))
 | _=>none
theorem Es(k k':IntKind)(n:Int):U1 k (.int k' n)=some (.int k (k.wrap n)):=rfl
def acL:Value->Option Value
 | .slice _ n _=>some (.int .i64 n)
 | _=>none
theorem MU(a:Option Addr)(n e:Nat):acL (.slice a n e)=some (.int .i64 n):=rfl
def O4:Value->Option Value
 | .string s=>some (.int .i64 s.size)
 | _=>none
theorem RX(s:ByteArray):O4 (.string s)=some (.int .i64 s.size):=rfl
def U2(off:Nat):Value->Option Value
 | .pointer (some a)=>some (.pointer (some { a with off:=a.off+off }))
 | _=>none
theorem MV(off b o:Nat)(s:Option Nat):U2 off (.pointer (some ⟨b,o,s⟩))=some (.pointer (some ⟨b,o+off,s⟩)):=rfl
def U3(off:Nat)(n:Option Nat):Value->Option Value
 | .agg cs=>gI cs.toList off n
 | _=>none
theorem Cd(off:Nat)(n:Option Nat)(cs:Array Value):U3 off n (.agg cs)=gI cs.toList off n:=rfl
def MW(esz:Nat):Value->Value->Option Value
 | .slice (some a) n _,.int _ i=>if 0<=i/\i < n then some (.pointer (some { a with off:=a.off+i.toNat*esz })) else none
 | _,_=>none
theorem yT(esz b o n e:Nat)(s:Option Nat)(k:IntKind)(i:Int):MW esz (.slice (some ⟨b,o,s⟩) n e) (.int k i)=if 0<=i/\i < n then some (.pointer (some ⟨b,o+i.toNat*esz,s⟩)) else none:=rfl
def Gi(esz n:Nat):Value->Value->Option Value
 | .pointer (some a),.int _ i=>if 0<=i/\i < n then some (.pointer (some { a with off:=a.off+i.toNat*esz })) else none
 | _,_=>none
theorem wh(esz b o n:Nat)(s:Option Nat)(k:IntKind)(i:Int):Gi esz n (.pointer (some ⟨b,o,s⟩)) (.int k i)=if 0<=i/\i < n then some (.pointer (some ⟨b,o+i.toNat*esz,s⟩)) else none:=rfl
def acM(esz n:Nat)(m:Option Nat):Value->Value->Option Value
 | .agg cs,.int _ i=>if 0<=i/\i < n then gI cs.toList (i.toNat*esz) m else none
 | _,_=>none
theorem Et(esz n:Nat)(m:Option Nat)(cs:Array Value)(k:IntKind)(i:Int):acM esz n m (.agg cs) (.int k i)=if 0<=i/\i < n then gI cs.toList (i.toNat*esz) m else none:=rfl
def Jx:Value->Value->Option Value
 | .string s,.int _ i=>if 0<=i/\i < s.size then (s.data.toList[i.toNat]?).map fun b=>.int .u8 b.toNat else none
 | _,_=>none
theorem MX(s:ByteArray)(k:IntKind)(i:Int):Jx (.string s) (.int k i)=if 0<=i/\i < s.size then (s.data.toList[i.toNat]?).map fun b=>.int .u8 b.toNat else none:=rfl
def ae5(i:Nat):Value->Option Value
 | .tuple vs=>vs.toList[i]?
 | _=>none
theorem Ce(i:Nat)(vs:Array Value):ae5 i (.tuple vs)=vs.toList[i]?:=rfl
section
variable{fz:fD}(fr:Fr)(σ:St)
theorem yU{o:AOp}{f:Value->Option Value}{x:Operand}(h:aop fz o fr σ=(gD o fr).map fun v=>(v,σ))(hp:gD o fr=(ev fr x).bind f):aop fz o fr σ=sM σ f (ev fr x):=by
 rw[h,hp];cases ev fr x with
 | none=>rfl
 | some v=>exact lR σ _
theorem Jy{o:AOp}{f:Value->Value->Option Value}{x y:Operand}(h:aop fz o fr σ=(gD o fr).map fun v=>(v,σ))(hp:gD o fr=(ev fr x).bind fun v=>(ev fr y).bind fun w=>f v w):aop fz o fr σ=sO σ f (ev fr x) (ev fr y):=by
 rw[h,hp];cases ev fr x with
 | none=>rfl
 | some v=>cases ev fr y with
  | none=>rfl
  | some w=>exact lR σ _
theorem Eu(x:Operand):aop fz (.kK x) fr σ=sM σ Cc (ev fr x):=yU fr σ rfl (by
 simp only[gD];cases ev fr x with
 | none=>rfl
 | some v=>cases v<;>first
  | rfl
  | (rename_i q;cases q<;>rfl)
  | (rename_i q _ _;cases q<;>rfl))
theorem O5(neg:Bool)(sh:EqK)(x y:Operand):aop fz (.eqs neg sh x y) fr σ=sO σ (eqF neg sh) (ev fr x) (ev fr y):=Jy fr σ rfl rfl
theorem U4(op:UnOp)(x:Operand):aop fz (.un op x) fr σ=sM σ (aun op) (ev fr x):=yU fr σ rfl rfl
theorem Jz(k:IntKind)(x:Operand):aop fz (.conv k x) fr σ=sM σ (U1 k) (ev fr x):=yU fr σ rfl (by
 simp only[gD];cases ev fr x with
 | none=>rfl
 | some v=>cases v<;>rfl)
theorem O6(x:Operand):aop fz (.len x) fr σ=sM σ acL (ev fr x):=yU fr σ rfl (by
 simp only[gD];cases ev fr x with
 | none=>rfl
 | some v=>cases v<;>rfl)
theorem JA(x:Operand):aop fz (.lens x) fr σ=sM σ O4 (ev fr x):=yU fr σ rfl (by
 simp only[gD];cases ev fr x with
 | none=>rfl
 | some v=>cases v<;>rfl)
theorem U5(n:Nat):aop fz (.FF n) fr σ=some (.int .i64 n,σ):=rfl
theorem Ev(off:Nat)(x:Operand):aop fz (.fQ off x) fr σ=sM σ (U2 off) (ev fr x):=yU fr σ rfl (by
 simp only[gD];cases ev fr x with
 | none=>rfl
 | some v=>cases v<;>first
  | rfl
  | (rename_i q;cases q<;>rfl))
theorem Ew(off:Nat)(n:Option Nat)(x:Operand):aop fz (.field off n x) fr σ=sM σ (U3 off n) (ev fr x):=yU fr σ rfl (by
 simp only[gD];cases ev fr x with
 | none=>rfl
 | some v=>cases v<;>rfl)
theorem O7(x:Operand)(i:Nat):aop fz (.ext x i) fr σ=sM σ (ae5 i) (ev fr x):=yU fr σ rfl (by
 simp only[gD];cases ev fr x with
 | none=>rfl
 | some v=>cases v<;>rfl)
theorem Ey(esz:Nat)(x i:Operand):aop fz (.fK esz x i) fr σ=sO σ (MW esz) (ev fr x) (ev fr i):=Jy fr σ rfl (by
 simp only[gD];congr 1;funext v;congr 1;funext w;cases v<;>first
  | rfl
  | (
    rename_i q n e;cases q with
    | none=>rfl
    | some a=>cases w<;>first
     | rfl
     | (simp only[uR,MW];split<;>rfl)))
theorem Cf(esz n:Nat)(x i:Operand):aop fz (.gO esz n x i) fr σ=sO σ (Gi esz n) (ev fr x) (ev fr i):=Jy fr σ rfl (by
 simp only[gD];congr 1;funext v;congr 1;funext w;cases v<;>first
  | rfl
  | (
    rename_i q;cases q with
    | none=>rfl
    | some a=>cases w<;>first
     | rfl
     | (simp only[uR,Gi];split<;>rfl)))
theorem O8(esz n:Nat)(m:Option Nat)(x i:Operand):aop fz (.idx esz n m x i) fr σ=sO σ (acM esz n m) (ev fr x) (ev fr i):=Jy fr σ rfl (by
 simp only[gD];congr 1;funext v;congr 1;funext w;cases v<;>first
  | rfl
  | (cases w<;>first
     | rfl
     | (simp only[uR,acM];split<;>rfl)))
theorem JB(x i:Operand):aop fz (.idxs x i) fr σ=sO σ Jx (ev fr x) (ev fr i):=Jy fr σ rfl (by
 simp only[gD];congr 1;funext v;congr 1;funext w;cases v<;>first
  | rfl
  | (cases w<;>first
     | rfl
     | (simp only[uR,Jx];split<;>rfl)))
def Gj(σ:St)(zs:List Value):Option (List (Nat×Nat×Value))->Option (Value×St)
 | some ps=>match fill zs ps with
  | some cs=>some (.agg cs.toArray,σ)
  | none=>none
 | none=>none
def O9(σ:St):Option (List Value)->Option (Value×St)
 | some cs=>some (.agg cs.toArray,σ)
 | none=>none
theorem Gk(cs:List Value):O9 σ (some cs)=some (.agg cs.toArray,σ):=rfl
theorem JC(zs:List Value)(ps:List (Nat×Nat×Value)):Gj σ zs (some ps)=O9 σ (fill zs ps):=by simp only[Gj];cases fill zs ps<;>rfl
theorem RY(zs:List Value)(ps:List (Nat×Nat×Operand)):aop fz (.build zs ps) fr σ=Gj σ zs (uQ fr ps):=by
 show((gD (.build zs ps) fr).map fun v=>(v,σ))=_;simp only[gD];cases uQ fr ps with
 | none=>rfl
 | some l=>simp only[ak,Gj];cases fill zs l<;>rfl
def mmX(σ:St)(mx:Bool):Option (List Value)->Option (Value×St)
 | some (v::l)=>mM σ (mmf mx v l)
 | _=>none
theorem U6(mx:Bool)(v:Value)(l:List Value):mmX σ mx (some (v::l))=mM σ (mmf mx v l):=rfl
theorem acN(mx:Bool)(xs:List Operand):aop fz (.mm mx xs) fr σ=mmX σ mx (evs fr xs):=by
 show((gD (.mm mx xs) fr).map fun v=>(v,σ))=_;simp only[gD];cases evs fr xs with
 | none=>rfl
 | some l=>cases l with
  | nil=>rfl
  | cons v l=>exact lR σ _
theorem ZC(mx:Bool)(v:Value):mmf mx v []=some v:=rfl
theorem ZD(k:IntKind)(x y:Int)(l:List Value):mmf true (.int k x) (.int k y::l)=mmf true (.int k (max x y)) l:=by simp only[mmf,mm2,if_true,ak];congr 2;split<;>omega
theorem ZE(k:IntKind)(x y:Int)(l:List Value):mmf false (.int k x) (.int k y::l)=mmf false (.int k (min x y)) l:=by simp only[mmf,mm2,if_true,ak,aO,if_false];congr 2;split<;>omega
def U7(σ:St)(f:FuncId):Option (List Value)->Option (List Value)->Option (Value×St)
 | some fi,some ca=>if fi.all fY&&ca.all fY then some (.func (.func f) fi.toArray ca.toArray,σ) else none
 | _,_=>none
theorem MY(f:FuncId)(fi ca:List Value):U7 σ f (some fi) (some ca)=if fi.all fY&&ca.all fY then some (.func (.func f) fi.toArray ca.toArray,σ) else none:=rfl
theorem U8(f:FuncId)(fi ca:List Operand):aop fz (.AQ f fi ca) fr σ=U7 σ f (evs fr fi) (evs fr ca):=by
 show((gD (.AQ f fi ca) fr).map fun v=>(v,σ))=_;simp only[gD];cases evs fr fi with
 | none=>rfl
 | some l=>cases evs fr ca with
  | none=>rfl
  | some m=>simp only[ak,U7];split<;>rfl
def Cg(esz:Nat)(a:Addr)(n e:Nat)(lo hi mx:Option Value):Option Value:=if e=1048577\/e=1048578 then (lH n lo hi mx).map fun(l,h,m)=>.slice (some { a with off:=a.off+l*esz }) (h - l) (if m=some h then 1048578 else 0) else none
def kJ(esz:Nat)(v:Value)(lo hi mx:Option Value):Option Value:=
 match v with
 | .slice none 0 0=>(lH 0 lo hi mx).map fun _=>.slice none 0 0
 | .slice (some a) n e=>if e=0\/e=esz then (lH n lo hi mx).map fun(l,h,m)=>.slice (some { a with off:=a.off+l*esz }) (h - l) (if m.isSome then 0 else e) else Cg esz a n e lo hi mx
 | _=>none
def U9(σ:St)(esz:Nat):Option Value->Option (Option Value)->Option (Option Value)->Option (Option Value)->Option (Value×St)
 | some v,some lo,some hi,some mx=>mM σ (kJ esz v lo hi mx)
 | _,_,_,_=>none
theorem JD(esz:Nat)(v:Value)(lo hi mx:Option Value):U9 σ esz (some v) (some lo) (some hi) (some mx)=mM σ (kJ esz v lo hi mx):=rfl
theorem Ez(esz:Nat)(x:Operand)(lo hi mx:Option Operand):aop fz (.slice esz x lo hi mx) fr σ=U9 σ esz (ev fr x) (evo fr lo) (evo fr hi) (evo fr mx):=by
 show((gD (.slice esz x lo hi mx) fr).map fun v=>(v,σ))=_;simp only[gD];cases ev fr x with
 | none=>rfl
 | some v=>cases evo fr lo with
  | none=>rfl
  | some lo=>cases evo fr hi with
   | none=>rfl
   | some hi=>cases evo fr mx with
    | none=>rfl
    | some mx=>exact lR σ _
def Pa(σ:St)(esz n:Nat):Option Value->Option (Option Value)->Option (Option Value)->Option (Option Value)->Option (Value×St)
 | some (.pointer (some a)),some lo,some hi,some mx=>mM σ ((lH n lo hi mx).map fun(l,h,_)=>.slice (some { a with off:=a.off+l*esz }) (h - l) 0)
 | _,_,_,_=>none
theorem Gl(esz n:Nat)(a:Addr)(lo hi mx:Option Value):Pa σ esz n (some (.pointer (some a))) (some lo) (some hi) (some mx)=mM σ ((lH n lo hi mx).map fun(l,h,_)=>.slice (some { a with off:=a.off+l*esz }) (h - l) 0):=rfl
theorem MZ(esz n:Nat)(x:Operand)(lo hi mx:Option Operand):aop fz (.m8 esz n x lo hi mx) fr σ=Pa σ esz n (ev fr x) (evo fr lo) (evo fr hi) (evo fr mx):=by
 show((gD (.m8 esz n x lo hi mx) fr).map fun v=>(v,σ))=_;simp only[gD];cases ev fr x with
 | none=>rfl
 | some v=>cases evo fr lo with
  | none=>cases v<;>first
   | rfl
   | (rename_i q;cases q<;>rfl)
  | some lo=>cases evo fr hi with
   | none=>cases v<;>first
    | rfl
    | (rename_i q;cases q<;>rfl)
   | some hi=>cases evo fr mx with
    | none=>cases v<;>first
     | rfl
     | (rename_i q;cases q<;>rfl)
    | some mx=>cases v<;>first
     | rfl
     | (
       rename_i q;cases q with
       | none=>rfl
       | some a=>exact lR σ _)
def Pb(σ:St):Option Value->Option (Option Value)->Option (Option Value)->Option (Value×St)
 | some (.string s),some lo,some hi=>mM σ ((lH s.size lo hi none).map fun(l,h,_)=>.string ⟨((s.data.toList.drop l).take (h - l)).toArray⟩)
 | _,_,_=>none
theorem Gm(s:ByteArray)(lo hi:Option Value):Pb σ (some (.string s)) (some lo) (some hi)=mM σ ((lH s.size lo hi none).map fun(l,h,_)=>.string ⟨((s.data.toList.drop l).take (h - l)).toArray⟩):=rfl
theorem M0(x:Operand)(lo hi:Option Operand):aop fz (.pV x lo hi) fr σ=Pb σ (ev fr x) (evo fr lo) (evo fr hi):=by
 show((gD (.pV x lo hi) fr).map fun v=>(v,σ))=_;simp only[gD];cases ev fr x with
 | none=>rfl
 | some v=>cases evo fr lo with
  | none=>cases v<;>rfl
  | some lo=>cases evo fr hi with
   | none=>cases v<;>rfl
   | some hi=>cases v<;>first
    | rfl
    | exact lR σ _
theorem Va:evo fr none=some none:=rfl
def ae6:Option Value->Option (Option Value)
 | some v=>some (some v)
 | none=>none
theorem RZ(v:Value):ae6 (some v)=some (some v):=rfl
theorem Vb(x:Operand):evo fr (some x)=ae6 (ev fr x):=by simp only[evo];cases ev fr x<;>rfl
theorem R2(pl:Bool)(zs:List Value):aop fz (.alloc pl zs) fr σ=some (.pointer (some ⟨σ.heap.length,0,some 0⟩),⟨σ.heap++[.cells 0 pl zs],σ.lock,σ.hid,σ.fA⟩):=rfl
def ae7(σ:St)(pl:Bool):Option Value->Option (Value×St)
 | some v=>if (cellsOf v).all fY&&(!pl||(cellsOf v).all sc) then some (.pointer (some ⟨σ.heap.length,0,some 0⟩),⟨σ.heap++[.cells 0 pl (cellsOf v)],σ.lock,σ.hid,σ.fA⟩) else none
 | none=>none
theorem R3(pl:Bool)(v:Value):ae7 σ pl (some v)=if (cellsOf v).all fY&&(!pl||(cellsOf v).all sc) then some (.pointer (some ⟨σ.heap.length,0,some 0⟩),⟨σ.heap++[.cells 0 pl (cellsOf v)],σ.lock,σ.hid,σ.fA⟩) else none:=rfl
theorem ZF(pl:Bool)(x:Operand):aop fz (.box pl x) fr σ=ae7 σ pl (ev fr x):=by simp only[aop];cases ev fr x<;>rfl
def zV(σ:St)(pl:Bool)(esz n:Nat)(zs:List Value):Option (List (Nat×Nat×Value))->Option (Value×St)
 | some ps=>match fill zs ps with
  | some cs=>if cs.length=n*esz&&small (n*esz)&&(!pl||cs.all sc) then some (.slice (some ⟨σ.heap.length,0,some 0⟩) n esz,⟨σ.heap++[.cells 0 pl cs],σ.lock,σ.hid,σ.fA⟩) else none
  | none=>none
 | none=>none
def JE(σ:St)(pl:Bool)(esz n:Nat):Option (List Value)->Option (Value×St)
 | some cs=>if cs.length=n*esz&&small (n*esz)&&(!pl||cs.all sc) then some (.slice (some ⟨σ.heap.length,0,some 0⟩) n esz,⟨σ.heap++[.cells 0 pl cs],σ.lock,σ.hid,σ.fA⟩) else none
 | none=>none
theorem DK(pl:Bool)(esz n:Nat)(cs:List Value):JE σ pl esz n (some cs)=if cs.length=n*esz&&small (n*esz)&&(!pl||cs.all sc) then some (.slice (some ⟨σ.heap.length,0,some 0⟩) n esz,⟨σ.heap++[.cells 0 pl cs],σ.lock,σ.hid,σ.fA⟩) else none:=rfl
theorem Gn(pl:Bool)(esz n:Nat)(zs:List Value)(ps:List (Nat×Nat×Value)):zV σ pl esz n zs (some ps)=JE σ pl esz n (fill zs ps):=by simp only[zV];cases fill zs ps<;>rfl
theorem M1(pl:Bool)(esz n:Nat)(zs:List Value)(ps:List (Nat×Nat×Operand)):aop fz (.gV pl esz n zs ps) fr σ=zV σ pl esz n zs (uQ fr ps):=by
 simp only[aop];cases uQ fr ps with
 | none=>rfl
 | some l=>simp only[ak,zV];cases fill zs l<;>rfl
def abJ(o s:Nat):Option Value->Option (List (Nat×Nat×Value))->Option (List (Nat×Nat×Value))
 | some v,some l=>some ((o,s,v)::l)
 | _,_=>none
theorem M3(o s:Nat)(v:Value)(l:List (Nat×Nat×Value)):abJ o s (some v) (some l)=some ((o,s,v)::l):=rfl
theorem R4(o s:Nat)(x:Operand)(l:List (Nat×Nat×Operand)):uQ fr ((o,s,x)::l)=abJ o s (ev fr x) (uQ fr l):=by
 simp only[uQ];cases ev fr x with
 | none=>rfl
 | some v=>cases uQ fr l<;>rfl
theorem Vc:uQ fr []=some []:=rfl
def acO:Option Value->Option (List Value)->Option (List Value)
 | some v,some l=>some (v::l)
 | _,_=>none
theorem R5(v:Value)(l:List Value):acO (some v) (some l)=some (v::l):=rfl
theorem Vd(x:Operand)(l:List Operand):evs fr (x::l)=acO (ev fr x) (evs fr l):=by
 simp only[evs];cases ev fr x with
 | none=>rfl
 | some v=>cases evs fr l<;>rfl
theorem ZG:evs fr []=some []:=rfl
def abK(σ:St):Option Value->Option (Value×St)
 | some (.string s)=>if small s.size&&0 < s.size then some (.slice (some ⟨σ.heap.length,0,some 0⟩) s.size 1,⟨σ.heap++[.cells 0 true (jz s)],σ.lock,σ.hid,σ.fA⟩) else none
 | _=>none
theorem M4(s:ByteArray):abK σ (some (.string s))=if small s.size&&0 < s.size then some (.slice (some ⟨σ.heap.length,0,some 0⟩) s.size 1,⟨σ.heap++[.cells 0 true (jz s)],σ.lock,σ.hid,σ.fA⟩) else none:=rfl
theorem Ve(x:Operand):aop fz (.Dw x) fr σ=abK σ (ev fr x):=by
 simp only[aop];cases ev fr x with
 | none=>rfl
 | some v=>cases v<;>rfl
def St.str(σ:St):Value->Option (List UInt8)
 | .slice none 0 0=>some []
 | .slice (some a) n _=>(σ.blk a).bind fun(_,cs)=>if a.off+n<=cs.length then kG ((cs.drop a.off).take n) else none
 | _=>none
def Pc(σ:St):Option Value->Option (Value×St)
 | some v=>match σ.str v with
  | some l=>some (.string ⟨l.toArray⟩,σ)
  | none=>none
 | none=>none
def Vf(σ:St):Option (List UInt8)->Option (Value×St)
 | some l=>some (.string ⟨l.toArray⟩,σ)
 | none=>none
theorem JF(l:List UInt8):Vf σ (some l)=some (.string ⟨l.toArray⟩,σ):=rfl
theorem M5(v:Value):Pc σ (some v)=Vf σ (σ.str v):=by simp only[Pc];cases σ.str v<;>rfl
def Vg(σ:St):Option Value->Option (Value×St)
 | some (.slice (some a) n e)=>if a.block < σ.lock||n=0 then none else (σ.blk a).map fun _=>(.slice (some a) n e,σ)
 | _=>none
def abL(v:Value)(σ:St):Option (Bool×List Value)->Option (Value×St)
 | some _=>some (v,σ)
 | none=>none
theorem M6(b o g n e:Nat)(h:(b < σ.lock)=False)(hn:(n=0)=False):Vg σ (some (.slice (some ⟨b,o,some g⟩) n e))=abL (.slice (some ⟨b,o,some g⟩) n e) σ (σ.blk ⟨b,o,some g⟩):=by simp only[Vg,h,hn,decide_false,Bool.or_self,aO,if_false];cases σ.blk ⟨b,o,some g⟩<;>rfl
theorem M7(v:Value)(p:Bool×List Value):abL v σ (some p)=some (v,σ):=rfl
theorem Vh(x:Operand):aop fz (.mark x) fr σ=Vg σ (ev fr x):=by
 simp only[aop];cases ev fr x with
 | none=>rfl
 | some v=>cases v<;>first
  | rfl
  | (rename_i a n e;cases a<;>rfl)
theorem Vi(x:Operand):aop fz (.AP x) fr σ=Pc σ (ev fr x):=by
 simp only[aop];cases ev fr x with
 | none=>rfl
 | some v=>
  cases v<;>first
   | rfl
   | skip
  rename_i a n e;cases a with
  | none=>
   cases n with
   | zero=>cases e<;>rfl
   | succ n=>rfl
  | some a=>
   simp only[Pc,St.str];cases σ.blk a with
   | none=>rfl
   | some p=>
    obtain⟨pl,cs⟩:=p;simp only[ak];split
    ·cases kG ((cs.drop a.off).take n)<;>rfl
    ·rfl
def JG(σ:St)(pl:Bool)(esz:Nat)(zs:List Value):Option Value->Option Value->Option (Value×St)
 | some (.int _ l),some (.int _ c)=>if 0<=l&&l<=c&&c<=1048576&&esz*c.toNat<=1048576&&zs.length=esz&&(l≠0||c=0) then
    some (.slice (some ⟨σ.heap.length,0,some 0⟩) l.toNat esz,⟨σ.heap++[.cells 0 pl (List.replicate l.toNat zs).flatten],σ.lock,σ.hid,σ.fA⟩)
   else none
 | _,_=>none
theorem DL(pl:Bool)(esz:Nat)(zs:List Value)(k k':IntKind)(l c:Int):JG σ pl esz zs (some (.int k l)) (some (.int k' c))=if 0<=l&&l<=c&&c<=1048576&&esz*c.toNat<=1048576&&zs.length=esz&&(l≠0||c=0) then
    some (.slice (some ⟨σ.heap.length,0,some 0⟩) l.toNat esz,⟨σ.heap++[.cells 0 pl (List.replicate l.toNat zs).flatten],σ.lock,σ.hid,σ.fA⟩)
   else none:=rfl
theorem JH(pl:Bool)(esz:Nat)(zs:List Value)(x y:Operand):aop fz (.l7 pl esz zs x y) fr σ=JG σ pl esz zs (ev fr x) (ev fr y):=by
 simp only[aop];cases ev fr x with
 | none=>rfl
 | some v=>cases ev fr y with
  | none=>cases v<;>rfl
  | some w=>cases v<;>cases w<;>rfl
def abM(fz:fD)(f:FuncId)(σ:St):Option (List Value)->Option (Value×St)
 | some vs=>fz (.func f) vs σ
 | none=>none
theorem M8(f:FuncId)(vs:List Value):abM fz f σ (some vs)=fz (.func f) vs σ:=rfl
theorem Vj(f:FuncId)(args:List Operand):aop fz (.call f args) fr σ=abM fz f σ (evs fr args):=by simp only[aop];cases evs fr args<;>rfl
def Gp(fz:fD)(σ:St):Option Value->Option (List Value)->Option (Value×St)
 | some (.func g fi ca),some vs=>if FH g&&!ca.isEmpty then none else fz g (fi.toList++vs++ca.toList) σ
 | _,_=>none
theorem JI(g:FuncId)(fi ca:Array Value)(vs:List Value):Gp fz σ (some (.func (.func g) fi ca)) (some vs)=fz (.func g) (fi.toList++vs++ca.toList) σ:=rfl
theorem Gr(k:Nat)(vs:List Value):Gp fz σ (some (.func (.yield k) #[] #[])) (some vs)=fz (.yield k) vs σ:=by simp[Gp]
theorem R6(x:Operand)(args:List Operand):aop fz (.iP x args) fr σ=Gp fz σ (ev fr x) (evs fr args):=by
 simp only[aop];cases ev fr x with
 | none=>rfl
 | some v=>cases evs fr args with
  | none=>cases v<;>rfl
  | some vs=>cases v<;>rfl
def zW(σ:St)(pl:Bool)(esz:Nat):Option Value->Option Value->Option (Value×St)
 | some x,some y=>match σ.news esz y with
  | some (m,vs)=>σ.append pl esz x m vs
  | none=>none
 | _,_=>none
def abN(σ:St)(pl:Bool)(esz:Nat)(x:Value):Option (Nat×List Value)->Option (Value×St)
 | some (m,vs)=>σ.append pl esz x m vs
 | none=>none
theorem M9(pl:Bool)(esz:Nat)(x:Value)(m:Nat)(vs:List Value):abN σ pl esz x (some (m,vs))=σ.append pl esz x m vs:=rfl
theorem Gt(pl:Bool)(esz:Nat)(x y:Value):zW σ pl esz (some x) (some y)=abN σ pl esz x (σ.news esz y):=by simp only[zW];cases σ.news esz y<;>rfl
theorem Na(pl:Bool)(esz:Nat)(x y:Operand):aop fz (.append pl esz x y) fr σ=zW σ pl esz (ev fr x) (ev fr y):=by
 simp only[aop];cases ev fr x with
 | none=>rfl
 | some v=>cases ev fr y with
  | none=>rfl
  | some w=>simp only[ak,zW];cases σ.news esz w<;>rfl
def Vk(σ:St):Option Value->Option Value->Option (Value×St)
 | some x,some n=>FG σ x n
 | _,_=>none
theorem JJ(x y:Operand):aop fz (.n6 x y) fr σ=Vk σ (ev fr x) (ev fr y):=by
 simp only[aop];cases ev fr x with
 | none=>rfl
 | some p=>cases ev fr y<;>rfl
theorem Nb(σ:St)(k:Int):Vk σ (some (.slice none 0 0)) (some (.int .i64 k))=if k=0 then some (.slice none 0 0,σ) else if 0 < k/\k<=1048576 then some (.slice (some ⟨σ.heap.length,0,some k.toNat⟩) k.toNat 1,{ σ with heap:=σ.heap++[.cells k.toNat true (List.replicate k.toNat (.int .u8 0))] }) else none:=rfl
def JK(σ:St)(esz:Nat):Option Value->Option (Nat×List Value)->Option (Value×St)
 | some (.slice none 0 0),some _=>some (.int .i64 0,σ)
 | some (.slice (some a) n _),some (m,vs)=>
   if min m n=0 then some (.int .i64 0,σ)
   else match σ.write a (vs.take (min m n*esz)) with
    | some σ'=>some (.int .i64 (min m n:Nat),σ')
    | none=>none
 | _,_=>none
def Pd(n:Nat):Option St->Option (Value×St)
 | some σ'=>some (.int .i64 (n:Nat),σ')
 | none=>none
theorem Gu(n:Nat)(σ:St):Pd n (some σ)=some (.int .i64 (n:Nat),σ):=rfl
theorem Nc(esz:Nat)(a:Addr)(n e m:Nat)(vs:List Value):JK σ esz (some (.slice (some a) n e)) (some (m,vs))=if min m n=0 then some (.int .i64 0,σ) else Pd (min m n) (σ.write a (vs.take (min m n*esz))):=by
 simp only[JK];split
 ·rfl
 ·cases σ.write a (vs.take (min m n*esz))<;>rfl
theorem Nd(esz:Nat)(m:Nat)(vs:List Value):JK σ esz (some (.slice none 0 0)) (some (m,vs))=some (.int .i64 0,σ):=rfl
def Pe(σ:St)(esz:Nat):Option Value->Option (Nat×List Value)
 | some y=>σ.news esz y
 | none=>none
theorem Nf(esz:Nat)(y:Value):Pe σ esz (some y)=σ.news esz y:=rfl
theorem Vl(esz:Nat)(x y:Operand):aop fz (.copy esz x y) fr σ=JK σ esz (ev fr x) (Pe σ esz (ev fr y)):=by
 simp only[aop];cases ev fr x with
 | none=>rfl
 | some v=>cases ev fr y with
  | none=>simp only[Pe];cases v<;>first
   | rfl
   | (
     rename_i q n e;cases q<;>first
     | rfl
     | (cases n<;>cases e<;>rfl))
  | some w=>
   simp only[ak,Pe];cases σ.news esz w with
   | none=>cases v<;>first
    | rfl
    | (
      rename_i q n e;cases q<;>first
      | rfl
      | (cases n<;>cases e<;>rfl))
   | some p=>obtain⟨m,vs⟩:=p;cases v<;>first
    | rfl
    | (
      rename_i q n e;cases q<;>first
      | (cases n<;>cases e<;>rfl)
      | (
       simp only[ak,JK];split
       ·rfl
       ·rename_i a _;cases σ.write a (vs.take (min m n*esz))<;>rfl))
def Gv(σ:St)(zs:List Value):Option Value->Option (Value×St)
 | some (.slice none 0 0)=>some (.tuple #[],σ)
 | some (.slice (some a) n _)=>if n=0 then some (.tuple #[],σ) else Gg (σ.write a (List.replicate n zs).flatten)
 | _=>none
theorem JL(zs:List Value):Gv σ zs (some (.slice none 0 0))=some (.tuple #[],σ):=rfl
theorem JM(zs:List Value)(a:Addr)(n e:Nat):Gv σ zs (some (.slice (some a) n e))=if n=0 then some (.tuple #[],σ) else Gg (σ.write a (List.replicate n zs).flatten):=rfl
theorem R7(esz:Nat)(zs:List Value)(x:Operand):aop fz (.clear esz zs x) fr σ=Gv σ zs (ev fr x):=by
 simp only[aop];cases ev fr x with
 | none=>rfl
 | some v=>cases v<;>first
  | rfl
  | (
    rename_i q n e;cases q<;>first
    | (cases n<;>cases e<;>rfl)
    | (
     simp only[Gv];split
     ·rfl
     ·rename_i a _;cases σ.write a (List.replicate n zs).flatten<;>rfl))
end
section
variable{h nw:List Blk}{L:Nat}{H d:List Nat}
def Vm(s:Option Nat):Option Blk->Option (Bool×List Value)
 | some (.cells g pl cs)=>if s=some g then some (pl,cs) else none
 | _=>none
theorem Ch(s:Option Nat)(g:Nat)(pl:Bool)(cs:List Value):Vm s (some (.cells g pl cs))=if s=some g then some (pl,cs) else none:=rfl
theorem Vn(hp:List Blk)(b o:Nat)(s:Option Nat):St.blk ⟨hp,L,H,d⟩ ⟨b,o,s⟩=if H.contains b=true then none else Vm s hp[b]?:=by
 unfold St.blk;split
 ·rfl
 ·cases hp[b]? with
  | none=>rfl
  | some q=>cases q<;>rfl
theorem iE(i:Nat):(h++nw)[h.length+i]?=nw[i]?:=by rw[aM om,cx]
theorem gA(b:Blk):(h++b::nw)[h.length]?=some b:=by rw[aM om,cL];rfl
theorem wj(b:Blk)(i:Nat):(h++nw).set (h.length+i) b=h++nw.set i b:=by rw[cw _ _ om,cx]
theorem gZ(b c:Blk):(h++c::nw).set h.length b=h++b::nw:=by rw[cw _ _ om,cL];rfl
def Vo(hp:List Blk)(L:Nat)(H d:List Nat)(b o:Nat)(vs:List Value)(g:Nat):Option (Bool×List Value)->Option St
 | some (pl,cs)=>if o+vs.length<=cs.length&&vs.all fY&&(!pl||vs.all sc) then some ⟨hp.set b (.cells g pl (putAt cs o vs)),L,H,if vs.all sc||d.contains b then d else b::d⟩ else none
 | none=>none
theorem JN(hp:List Blk)(b o:Nat)(vs:List Value)(g:Nat)(pl:Bool)(cs:List Value):Vo hp L H d b o vs g (some (pl,cs))=if o+vs.length<=cs.length&&vs.all fY&&(!pl||vs.all sc) then some ⟨hp.set b (.cells g pl (putAt cs o vs)),L,H,if vs.all sc||d.contains b then d else b::d⟩ else none:=rfl
theorem write_eq(hp:List Blk)(b o g:Nat)(vs:List Value):St.write ⟨hp,L,H,d⟩ ⟨b,o,some g⟩ vs=if b < L then none else Vo hp L H d b o vs g (St.blk ⟨hp,L,H,d⟩ ⟨b,o,some g⟩):=by
 unfold St.write;simp only[];split
 ·rfl
 ·rw[Vn];split
  ·rfl
  ·cases hb:hp[b]? with
   | none=>rfl
   | some q=>cases q with
    | map _=>rfl
    | void=>rfl
    | cells g' pl cs=>
     simp only[Ch,ay];by_cases e:g=g'
     ·subst e;simp only[↓reduceIte];rfl
     ·rw[if_neg e];rfl
end
section
variable{env:Env}
noncomputable def abO(d:List Nat):Option (Ex×Fr×St)->Option (Ex×Fr×St)
 | some (e,fr,σ)=>some (e,fr,⟨σ.heap,σ.lock,σ.hid,fX d σ.fA⟩)
 | none=>none
theorem Ng(d:List Nat)(e:Ex)(fr:Fr)(σ:St):abO d (some (e,fr,σ))=some (e,fr,⟨σ.heap,σ.lock,σ.hid,fX d σ.fA⟩):=rfl
theorem Vp(live:List Nat)(b:fG)(fr:Fr)(σ:St):ga env (.loop live b) fr σ=abO σ.fA (fW env b live σ.heap.length (fr.keep live) ⟨σ.heap,σ.lock,σ.hid,[]⟩):=by rw[BU];cases fW env b live σ.heap.length (fr.keep live) ⟨σ.heap,σ.lock,σ.hid,[]⟩<;>rfl
noncomputable def Nh(env:Env)(b:fG)(live:List Nat)(base:Nat):Option (Fr×St)->Option (Ex×Fr×St)
 | some (fr,σ)=>fW env b live base fr σ
 | none=>none
theorem JO(b:fG)(live:List Nat)(base:Nat)(fr:Fr)(σ:St):Nh env b live base (some (fr,σ))=fW env b live base fr σ:=rfl
noncomputable def sP(env:Env)(b:fG)(live:List Nat)(base:Nat):Option (Ex×Fr×St)->Option (Ex×Fr×St)
 | some (.normal,fr,σ)=>Nh env b live base (kS base (fr.keep live) σ)
 | some (e,fr,σ)=>some (e,fr,σ)
 | none=>none
theorem Gw(b:fG)(live:List Nat)(base:Nat)(fr:Fr)(σ:St):sP env b live base (some (.normal,fr,σ))=Nh env b live base (kS base (fr.keep live) σ):=rfl
theorem R8(b:fG)(live:List Nat)(base:Nat)(fr:Fr)(σ:St):sP env b live base (some (.ret,fr,σ))=some (.ret,fr,σ):=rfl
theorem Ni(b:fG)(live:List Nat)(base:Nat)(i:Nat)(fr:Fr)(σ:St):sP env b live base (some (.exit i,fr,σ))=some (.exit i,fr,σ):=rfl
theorem Vq(b:fG)(live:List Nat)(base:Nat)(fr:Fr)(σ:St):fW env b live base fr σ=sP env b live base (ga env b fr σ):=by
 rw[v8];cases ga env b fr σ with
 | none=>rfl
 | some r=>
  obtain⟨e,fr',σ'⟩:=r;cases e<;>first
   | rfl
   | (simp only[ak,sP];cases kS base (fr'.keep live) σ'<;>rfl)
theorem fC{b b':fG}(h:b=b')(live:List Nat)(base:Nat)(fr:Fr)(σ:St):fW env b live base fr σ=sP env b live base (ga env b' fr σ):=by subst h;exact Vq b live base fr σ
def Vr(t:Nat)(k:Fr):Option Value->Fr
 | some v=>(t,v)::k
 | none=>k
theorem Nj(t:Nat)(k:Fr)(v:Value):Vr t k (some v)=(t,v)::k:=rfl
theorem Nk(t:Nat)(k:Fr):Vr t k none=k:=rfl
theorem R9(fr:Fr)(t:Nat)(l:List Nat):fr.keep (t::l)=Vr t (fr.keep l) (fr.get t):=by simp only[Fr.keep];cases fr.get t<;>rfl
theorem Vs(fr:Fr):fr.keep []=[]:=rfl
theorem Sa{base:Nat}(fr:Fr)(hp:List Blk)(L:Nat)(H d:List Nat)(hb:hp.length<=base):kS base fr ⟨hp,L,H,d⟩=some (fr,⟨hp,L,H,d⟩):=by
 unfold kS gc;rw[if_pos hb];simp only[bq];congr 2;induction fr with
 | nil=>rfl
 | cons x fr ih=>simpa using ih
def gcX(σ:St):Option (List Value×St)->Option (Value×St)
 | some ([v],τ)=>some (v,⟨τ.heap,τ.lock,τ.hid,fX σ.fA τ.fA⟩)
 | _=>none
theorem Vt(σ:St)(v:Value)(τ:St):gcX σ (some ([v],τ))=some (v,⟨τ.heap,τ.lock,τ.hid,fX σ.fA τ.fA⟩):=rfl
def ZH(σ τ:St):Option Value->Option (Value×St)
 | some u=>gcX σ (gc σ.heap.length [u] τ)
 | none=>none
theorem Sb(σ τ:St)(u:Value):ZH σ τ (some u)=gcX σ (gc σ.heap.length [u] τ):=rfl
def JP(σ τ:St):Option (List Value)->Option (Value×St)
 | some vs=>ZH σ τ (lM vs)
 | none=>none
theorem Nl(σ τ:St)(vs:List Value):JP σ τ (some vs)=ZH σ τ (lM vs):=rfl
theorem Vu(rs:List mX)(σ:St)(fr:Fr)(τ:St):((kj fr τ rs).bind fun vs=>(lM vs).bind fun u=>(gc σ.heap.length [u] τ).bind fun q=>match q.1 with
   | [v]=>some (v,{ q.2 with fA:=fX σ.fA q.2.fA })
   | _=>none)=JP σ τ (kj fr τ rs):=by
 cases kj fr τ rs with
 | none=>rfl
 | some vs=>
  simp only[ak,JP];cases lM vs with
  | none=>rfl
  | some u=>
   simp only[ak,ZH];cases gc σ.heap.length [u] τ with
   | none=>rfl
   | some q=>
    obtain⟨l,τ'⟩:=q;simp only[ak];cases l with
    | nil=>rfl
    | cons v l=>cases l<;>rfl
theorem Vv(rs:List mX)(σ:St)(fr:Fr)(τ:St):Zu rs σ (some (.ret,fr,τ))=JP σ τ (kj fr τ rs):=Vu rs σ fr τ
theorem JQ(rs:List mX)(σ:St)(fr:Fr)(τ:St):Zu rs σ (some (.normal,fr,τ))=JP σ τ (kj fr τ rs):=Vu rs σ fr τ
theorem Nm(fr:Fr)(τ:St)(r:mX)(l:List mX):kj fr τ (r::l)=acO (wZ fr τ r) (kj fr τ l):=by
 simp only[kj];cases wZ fr τ r with
 | none=>rfl
 | some v=>cases kj fr τ l<;>rfl
theorem Sc(fr:Fr)(τ:St):kj fr τ []=some []:=rfl
theorem Vw(fr:Fr)(τ:St)(t:Nat):wZ fr τ (.tmp t)=fr.get t:=rfl
def Pf(τ:St)(n:Option Nat):Option Value->Option Value
 | some (.pointer (some a))=>match τ.blk a with
  | some r=>gI r.2 a.off n
  | none=>none
 | _=>none
def abP(n:Option Nat)(off:Nat):Option (Bool×List Value)->Option Value
 | some r=>gI r.2 off n
 | none=>none
theorem Nn(n:Option Nat)(off:Nat)(r:Bool×List Value):abP n off (some r)=gI r.2 off n:=rfl
theorem No(τ:St)(n:Option Nat)(a:Addr):Pf τ n (some (.pointer (some a)))=abP n a.off (τ.blk a):=by simp only[Pf];cases τ.blk a<;>rfl
theorem Sd(fr:Fr)(τ:St)(a:Nat)(n:Option Nat):wZ fr τ (.cell a n)=Pf τ n (fr.get a):=by
 simp only[wZ];cases fr.get a with
 | none=>rfl
 | some v=>cases v<;>first
  | rfl
  | (
    rename_i q;cases q with
    | none=>rfl
    | some a=>simp only[Pf];cases τ.blk a<;>rfl)
theorem Se(v:Value):lM [v]=some v:=rfl
theorem Sf(v w:Value)(l:List Value):lM (v::w::l)=if (v::w::l).all DZ then some (.tuple (v::w::l).toArray) else none:=rfl
theorem Sg:lM []=some (.tuple #[]):=rfl
theorem ZI{hp:List Blk}{base:Nat}{vs:List Value}{L:Nat}{H d:List Nat}(hb:hp.length<=base):gc base vs ⟨hp,L,H,d⟩=some (vs,⟨hp,L,H,d⟩):=by unfold gc;rw[if_pos hb]
end
inductive Br where
 | tt
 | ff
section
variable{env:Env}{fz:fD}
def Vx(fz:fD)(o:fB)(l:List fB)(fr:Fr)(σ:St):Br->Option (Fr×St)
 | .tt=>opX fz o.dst l fr (aop fz o.op fr σ)
 | .ff=>lI fz l (fr.put o.dst gB) σ
theorem Vy(o:fB)(l:List fB)(fr:Fr)(σ:St)(b:Bool):O0 fz o l fr σ (some b)=Vx fz o l fr σ (if b=true then .tt else .ff):=by cases b<;>rfl
theorem Vz(o:fB)(l:List fB)(fr:Fr)(σ:St):Vx fz o l fr σ .tt=opX fz o.dst l fr (aop fz o.op fr σ):=rfl
theorem VA(o:fB)(l:List fB)(fr:Fr)(σ:St):Vx fz o l fr σ .ff=lI fz l (fr.put o.dst gB) σ:=rfl
noncomputable def VB(env:Env)(a b:fG)(fr:Fr)(σ:St):Br->Option (Ex×Fr×St)
 | .tt=>ga env a fr σ
 | .ff=>ga env b fr σ
theorem VC(a b:fG)(fr:Fr)(σ:St)(c:Bool):abI env a b fr σ (some (.bool c))=VB env a b fr σ (if c=true then .tt else .ff):=by cases c<;>rfl
theorem VD(a b:fG)(fr:Fr)(σ:St):VB env a b fr σ .tt=ga env a fr σ:=rfl
theorem VE(a b:fG)(fr:Fr)(σ:St):VB env a b fr σ .ff=ga env b fr σ:=rfl
def VF(σ:St)(x y:Option Value):Br->Option (Value×St)
 | .tt=>mM σ x
 | .ff=>mM σ y
theorem VG(σ:St)(c:Bool)(x y:Option Value):UU σ (some (.bool c)) x y=VF σ x y (if c=true then .tt else .ff):=by cases c<;>rfl
theorem VH(σ:St)(x y:Option Value):VF σ x y .tt=mM σ x:=rfl
theorem VI(σ:St)(x y:Option Value):VF σ x y .ff=mM σ y:=rfl
def EA(born:List (Nat×Nat×Nat))(j lo hi:Nat):List (Nat×Nat×Nat):=if lo < hi then (j,lo,hi)::born else born
theorem Np(born:List (Nat×Nat×Nat))(j n:Nat):EA born j n n=born:=if_neg (Nat.lt_irrefl n)
theorem VJ(own:Bool)(born:List (Nat×Nat×Nat))(L n:Nat):jW false own born L n=n:=rfl
theorem VK(born:List (Nat×Nat×Nat))(L n:Nat):jW true false born L n=L:=rfl
theorem VL(born:List (Nat×Nat×Nat))(L n:Nat):jW true true born L n=DY L (uS born n) n:=rfl
theorem VM{L base n:Nat}(h:L<=base)(h':base<=n):DY L base n=base:=if_pos ⟨h,h'⟩
theorem ZJ(d:Option Nat)(g:Option (Nat×Bool))(bef:Nat)(wr:Bool)(op:AOp):mF ⟨d,g,bef,wr,op⟩=bef.testBit 255:=rfl
theorem Nq(n:Nat):uS [] n=n:=rfl
theorem JR{born:List (Nat×Nat×Nat)}{j lo hi n:Nat}(h:lo < hi):uS (EA born j lo hi) n=uS born lo:=by unfold EA;rw[if_pos h];rfl
theorem Gx(bef:Nat):gj bef []=[]:=rfl
theorem Ci(bef:Nat)(born:List (Nat×Nat×Nat))(j lo hi:Nat):gj bef (EA born j lo hi)=if bef.testBit j=true then gj bef born else List.range' lo (hi - lo)++gj bef born:=by
 unfold EA;split
 ·rfl
 ·have:hi - lo=0:=om
  rw[this];split<;>rfl
def Nr(fz:fD)(m:Bool)(B:List Nat)(seen:List (Bool×Nat))(o:fB)(l:List fB)(fr:Fr)(σ:St):Br->Option (Fr×St)
 | .tt=>MI fz m B seen o l fr σ
 | .ff=>j3 fz m B seen l (fr.put o.dst gB) σ
theorem Sk(fz:fD)(m:Bool)(B:List Nat)(seen:List (Bool×Nat))(o:fB)(l:List fB)(fr:Fr)(σ:St)(b:Bool):Gb fz m B seen o l fr σ (some b)=Nr fz m B seen o l fr σ (if b=true then .tt else .ff):=by cases b<;>rfl
theorem Sl(fz:fD)(m:Bool)(B:List Nat)(seen:List (Bool×Nat))(o:fB)(l:List fB)(fr:Fr)(σ:St):Nr fz m B seen o l fr σ .tt=MI fz m B seen o l fr σ:=rfl
theorem Sm(fz:fD)(m:Bool)(B:List Nat)(seen:List (Bool×Nat))(o:fB)(l:List fB)(fr:Fr)(σ:St):Nr fz m B seen o l fr σ .ff=j3 fz m B seen l (fr.put o.dst gB) σ:=rfl
def Ns(fz:fD)(born:List (Nat×Nat×Nat))(j:Nat)(o:fB)(l:List fB)(fr:Fr)(σ:St):Br->Option (Fr×St)
 | .tt=>UY fz born j o.dst l fr σ (aop fz o.op fr ⟨σ.heap,jW o.wr (mF o) born σ.lock σ.heap.length,gj o.bef born++σ.hid,σ.fA⟩)
 | .ff=>lK fz born (j+1) l (fr.put o.dst gB) σ
theorem Sn(born:List (Nat×Nat×Nat))(j:Nat)(o:fB)(l:List fB)(fr:Fr)(σ:St)(b:Bool):Gh fz born j o l fr σ (some b)=Ns fz born j o l fr σ (if b=true then .tt else .ff):=by cases b<;>rfl
theorem Sq(born:List (Nat×Nat×Nat))(j:Nat)(o:fB)(l:List fB)(fr:Fr)(σ:St):Ns fz born j o l fr σ .tt=UY fz born j o.dst l fr σ (aop fz o.op fr ⟨σ.heap,jW o.wr (mF o) born σ.lock σ.heap.length,gj o.bef born++σ.hid,σ.fA⟩):=rfl
theorem Sr(born:List (Nat×Nat×Nat))(j:Nat)(o:fB)(l:List fB)(fr:Fr)(σ:St):Ns fz born j o l fr σ .ff=lK fz born (j+1) l (fr.put o.dst gB) σ:=rfl
theorem Ss(born:List (Nat×Nat×Nat))(j:Nat)(d:Option Nat)(l:List fB)(fr:Fr)(σ:St)(v:Value)(τ:St):UY fz born j d l fr σ (some (v,τ)) =
  lK fz (EA born j σ.heap.length τ.heap.length) (j+1) l (fr.put d v) ⟨τ.heap,σ.lock,σ.hid,τ.fA⟩:=rfl
def Pg(b:Bool):Option Value->Option Bool
 | some (.bool c)=>some (c==b)
 | some (.tuple _)=>some false
 | _=>none
theorem Su(d:Option Nat)(bf:Nat)(wr:Bool)(op:AOp)(fr:Fr):want ⟨d,none,bf,wr,op⟩ fr=some true:=rfl
theorem Sw(d:Option Nat)(g:Nat)(b:Bool)(bf:Nat)(wr:Bool)(op:AOp)(fr:Fr):want ⟨d,some (g,b),bf,wr,op⟩ fr=Pg b (fr.get g):=by
 simp only[want];cases fr.get g with
 | none=>rfl
 | some v=>cases v<;>rfl
theorem Nt(c:Bool):Pg true (some (.bool c))=some c:=by cases c<;>rfl
theorem JS(c:Bool):Pg false (some (.bool c))=some (!c):=by cases c<;>rfl
theorem JT(b:Bool)(vs:Array Value):Pg b (some (.tuple vs))=some false:=rfl
theorem Nu(o:fB)(l:List fB)(fr:Fr)(σ:St):O0 fz o l fr σ (some true)=opX fz o.dst l fr (aop fz o.op fr σ):=rfl
theorem JU(born:List (Nat×Nat×Nat))(j:Nat)(o:fB)(l:List fB)(fr:Fr)(σ:St):Gh fz born j o l fr σ (some true)=UY fz born j o.dst l fr σ (aop fz o.op fr ⟨σ.heap,jW o.wr (mF o) born σ.lock σ.heap.length,gj o.bef born++σ.hid,σ.fA⟩):=rfl
theorem acP(fr:Fr)(t:Nat):ev fr (.tmp t)=fr.get t:=rfl
theorem VN(fr:Fr)(v:Value):ev fr (.const v)=some v:=rfl
theorem ZK(fr:Fr)(f:FuncId):ev fr (.func f)=some (.func (.func f) #[] #[]):=rfl
theorem oR(k t:Nat)(v:Value)(l:Fr):Fr.get ((k,v)::l) t=if k=t then some v else Fr.get l t:=rfl
theorem VO(fr:Fr)(d:Nat)(v:Value):fr.put (some d) v=(d,v)::fr:=rfl
theorem VP(fr:Fr)(v:Value):fr.put none v=fr:=rfl
end
end AM
namespace AM
open Go Go.RowKit
section
variable{h nw:List Blk}{L:Nat}{H d:List Nat}{vs:List Value}
theorem Ph(hv:∀ v∈vs,∀ r∈refs v,r < h.length)(hd:d=[]):gc h.length vs ⟨h++nw,L,H,d⟩=some (vs,⟨h,L,H,[]⟩):=by
 subst hd;unfold gc;by_cases hn:(h++nw).length<=h.length
 ·rw[if_pos hn];have:nw=[]:=by simp only[aB] at hn;exact bp om
  subst this;simp
 ·rw[if_neg hn];have:(vs.flatMap refs++(([]:List Nat).filter (· < h.length)).flatMap (fV (h++nw))).filter (h.length<=·)=[]:=by simp only[List.filter_nil,dK,bB];rw[dI];intro r hr;obtain⟨v,h1,h2⟩:=aY.1 hr;have:=hv v h1 r h2;simpa using this
  simp only[this];simp
theorem EB{g:Nat}{cs:List Value}{base r:Nat}{hp:List Blk}(hb:hp[r]?=some (.cells g true cs))(hr:base<=r):∀ (ws acc:List Nat) (f:Nat),(∀ x∈ws,x=r)->acc=[r]->reach hp base f ws acc=[r]
 | ws,acc,0,_,ha=>by rw[reach];exact ha
 | [],acc,f+1,_,ha=>by rw[reach];exact ha
 | x::ws,acc,f+1,hx,ha=>by
  have:x=r:=hx x (by simp);subst this;rw[reach];have h1:(decide (x < base)||acc.contains x)=true:=by rw[ha];simp
  rw[if_pos h1];exact EB hb hr ws acc f (fun y hy=>hx y (by simp[hy])) ha
def one(base r:Nat)(id:Nat):Nat:=if id < base then id else base+[r].idxOf id
theorem oh{base r id:Nat}(h:id < base):one base r id=id:=by simp[one,h]
theorem iZ{base k:Nat} : one base (base+k) (base+k)=base:=by
 have:¬ base+k < base:=om
 simp[one,this]
theorem vf{k g:Nat}{cs:List Value}(hk:nw[k]?=some (.cells g true cs))(hv:∀ v∈vs,∀ r∈refs v,r < h.length\/r=h.length+k)(hx:∃ v∈vs,h.length+k∈refs v)(hd:d=[]) :
  gc h.length vs ⟨h++nw,L,H,d⟩=some (vs.map (ren (one h.length (h.length+k))),⟨h++[.cells g true cs],L,H,[]⟩):=by
 subst hd;have hkl:k < nw.length:=(af.1 hk).1;have hb:(h++nw)[h.length+k]?=some (.cells g true cs):=by rw[aM om,cx];exact hk
 have hr0:fV (h++nw) (h.length+k)=[]:=by simp[fV,hb,iN]
 unfold gc;rw[if_neg (by simp only[aB];omega)];have xA:∀ r∈(vs.flatMap refs++(([]:List Nat).filter (· < h.length)).flatMap (fV (h++nw))).filter (h.length<=·),r=h.length+k:=fun r hr=>by
  simp only[List.filter_nil,dK,bB,cT,aY,decide_eq_true_eq] at hr;obtain⟨⟨v,h1,h2⟩,h3⟩:=hr;rcases hv v h1 r h2 with h4 | h4
  ·omega
  ·exact h4
 have hne:h.length+k∈(vs.flatMap refs++(([]:List Nat).filter (· < h.length)).flatMap (fV (h++nw))).filter (h.length<=·):=by simp only[List.filter_nil,dK,bB,cT,aY,decide_eq_true_eq];obtain⟨v,h1,h2⟩:=hx;exact⟨⟨v,h1,h2⟩,om⟩
 simp only[];generalize EC:(vs.flatMap refs++(([]:List Nat).filter (· < h.length)).flatMap (fV (h++nw))).filter (h.length<=·)=roots at xA hne;cases roots with
 | nil=>simp at hne
 | cons r rs=>
  have hr:r=h.length+k:=xA r (by simp);subst hr;simp only[];have acQ:reach (h++nw) h.length 4096 ((h.length+k)::rs) []=[h.length+k]:=by
   rw[show 4096=4095+1 by rfl,reach];rw[if_neg (by simp)];exact EB hb om _ _ _ (fun x hx=>by rw[hr0,aV] at hx;exact xA x (by simp[hx])) rfl
  rw[acQ];unfold qN;have hok:(vs.all fun v=>(refs v).all fun r=>decide (r < h.length)||[h.length+k].contains r)=true:=by
   rw[aF];intro v h1;rw[aF];intro r h2;rcases hv v h1 r h2 with h4 | h4
   ·simp[h4]
   ·simp[h4]
  simp only[List.filter_nil];refine(if_pos ?_).trans ?_
  ·simp only[jP,hok,dS,ct,hr0,aB];simp;exact hkl
  ·have hg:(h++nw).getD (h.length+k) default=.cells g true cs:=by rw[aE,hb];rfl
   simp only[jq,aK,br,hg,kR,List.take_left'];rfl
theorem JV{v:Value}(hv:∀ r∈refs v,r < h.length):gc h.length [v] ⟨h++nw,L,H,[]⟩=some ([v],⟨h,L,H,[]⟩):=Ph (fun v' h1 r h2=>by simp at h1;subst h1;exact hv r h2) rfl
end
end AM
namespace AM
open Go Go.RowKit
theorem w64{n:Int}(h : -9223372036854775808<=n)(h':n<=9223372036854775807):IntKind.i64.wrap n=n:=by rw[IntKind.wrap_i64];omega
theorem wu8{n:Int}(h:0<=n)(h':n<=255):IntKind.u8.wrap n=n:=by simp[IntKind.wrap,IntKind.bits,IntKind.signed];omega
theorem ahy(n:Int):IntKind.u8.wrap n=n%256:=by simp[IntKind.wrap,IntKind.bits,IntKind.signed]
theorem ahz{n:Int}(h:0<=n)(h':n<=4294967295):IntKind.u32.wrap n=n:=by simp[IntKind.wrap,IntKind.bits,IntKind.signed];omega
theorem ae8{n:Int}(h:0<=n)(h':n<=18446744073709551615):IntKind.u64.wrap n=n:=by simp[IntKind.wrap,IntKind.bits,IntKind.signed];omega
theorem abQ(n:Int):IntKind.u64.wrap n=n%18446744073709551616:=by simp[IntKind.wrap,IntKind.bits,IntKind.signed]
theorem VQ:IntKind.i64.bits=64:=rfl
theorem VR:IntKind.u64.bits=64:=rfl
theorem VS:IntKind.u32.bits=32:=rfl
theorem ZL:IntKind.u8.bits=8:=rfl
theorem JW(a:Int){b:Int}(h:0<=b):a.fdiv b=a / b:=cZ a h
theorem Gy(w a:Nat)(h:a < 2 ^ w):(BitVec.ofInt w (a:Int)).toNat=a:=by rw[BitVec.ofInt_natCast,BitVec.toNat_ofNat,eJ h]
theorem ZM(w a b:Nat)(ha:a < 2 ^ w)(hb:b < 2 ^ w):(BitVec.ofInt w (a:Int)&&&BitVec.ofInt w (b:Int)).toNat=a&&&b:=by rw[BitVec.toNat_and,Gy w a ha,Gy w b hb]
theorem VT(w a b:Nat)(ha:a < 2 ^ w)(hb:b < 2 ^ w):(BitVec.ofInt w (a:Int)|||BitVec.ofInt w (b:Int)).toNat=a|||b:=by rw[BitVec.toNat_or,Gy w a ha,Gy w b hb]
theorem mask(w:Nat)(n:Int)(k:Nat)(h0:0<=n)(h1:n < ((2 ^ w:Nat):Int))(hk:k < w):((BitVec.ofInt w n&&&BitVec.ofInt w ((2 ^ k - 1:Nat):Int)).toNat:Int)=n%((2 ^ k:Nat):Int):=by obtain⟨a,rfl⟩:∃ a:Nat,n=a:=⟨n.toNat,om⟩;have hp:2 ^ k < 2 ^ w:=Nat.pow_lt_pow_right om hk;rw[ZM w a _ om om,Nat.and_two_pow_sub_one_eq_mod];rfl
def Sx(w:Nat)(a b:Int):Int:=((BitVec.ofInt w a&&&BitVec.ofInt w b).toNat:Int)
def orI(w:Nat)(a b:Int):Int:=((BitVec.ofInt w a|||BitVec.ofInt w b).toNat:Int)
def acR(w:Nat)(a b:Int):Int:=((BitVec.ofInt w a ^^^ BitVec.ofInt w b).toNat:Int)
theorem Sz{k:IntKind}{a b:Int} : gT .and (.int k a) (.int k b)=some (.int k (k.wrap (Sx k.bits a b))):=Jl
theorem VU{k:IntKind}{a b:Int} : gT .or (.int k a) (.int k b)=some (.int k (k.wrap (orI k.bits a b))):=OY
theorem SA{k:IntKind}{a b:Int} : gT .xor (.int k a) (.int k b)=some (.int k (k.wrap (acR k.bits a b))):=Jm
def b8(l:List Nat):List UInt8:=l.map UInt8.ofNat
def By(l:List Nat):Prop:=∀ b∈l,b < 256
theorem By.nil:By []:=fun b h=>by cases h
theorem By.cons{b:Nat}{l:List Nat}(h:b < 256)(hl:By l):By (b::l):=fun x hx=>by
 rcases aJ.1 hx with rfl | hx
 ·exact h
 ·exact hl x hx
theorem By.get{l:List Nat}(h:By l){i:Nat}(hi:i < l.length):l[i] < 256:=h _ (bN hi)
theorem ED(l:List Nat):(b8 l).length=l.length:=by simp[b8]
theorem vg:∀ (l:List Nat),kG (u8s l)=some (b8 l)
 | []=>rfl
 | x::l=>by have:=vg l;simp only[u8s,aK,kG] at this ⊢;rw[this];simp[b8]
theorem VV(l m:List UInt8):gT .eql (.string ⟨l.toArray⟩) (.string ⟨m.toArray⟩)=some (.bool (l==m)):=by simp[gT,Ik]
theorem VW(l m:List UInt8):gT .neq (.string ⟨l.toArray⟩) (.string ⟨m.toArray⟩)=some (.bool (!(l==m))):=by simp[gT,Ik]
theorem VX(l m:List UInt8):gT .lss (.string ⟨l.toArray⟩) (.string ⟨m.toArray⟩)=some (.bool (uu l m)):=by simp[gT,Ik]
theorem VY(l m:List UInt8):gT .add (.string ⟨l.toArray⟩) (.string ⟨m.toArray⟩)=if l.length+m.length<=1099511627776 then some (.string ⟨(l++m).toArray⟩) else none:=by simp[gT,Ik,ByteArray.size]
def Low(n:Nat)(H:List Nat):Prop:=∀ t∈H,t < n
theorem Low.nil(n:Nat):Low n []:=fun t h=>by cases h
theorem Low.mono{n m:Nat}{H:List Nat}(h:Low n H)(k:n<=m):Low m H:=fun t ht=>bg (h t ht) k
theorem Low.not{n i:Nat}{H:List Nat}(h:Low n H)(hi:n<=i):H.contains i=false:=by
 cases e:H.contains i with
 | false=>rfl
 | true=>have:=h i (by simpa using e);omega
theorem Low.lS{n:Nat}{H:List Nat}(h:Low n H):H.contains n=false:=h.not (av _)
theorem Low.nv{n:Nat}{H:List Nat}(h:Low n H)(i:Nat):H.contains (n+i)=false:=h.not om
theorem mO{lo k i:Nat}{H:List Nat}(h:i < lo\/lo+k<=i):(List.range' lo k++H).contains i=H.contains i:=by
 rw[cy];simp only[List.contains_iff_mem,aP,eB];constructor
 ·rintro(h1 | h1)
  ·omega
  ·exact h1
 ·exact .inr
structure Rd(σ:St)(v:Value)(l:List Nat):Prop where
 by_:By l
 form:(v=.slice none 0 0/\l=[])\/∃ b o g e pl cs,v=.slice (some ⟨b,o,some g⟩) l.length e/\(e=0\/e=1)/\σ.hid.contains b=false/\σ.heap[b]?=some (.cells g pl cs)/\o+l.length<=cs.length/\(cs.drop o).take l.length=u8s l
theorem Rd.len{σ:St}{v:Value}{l:List Nat}(h:Rd σ v l):∃ a e,v=.slice a l.length e:=by
 rcases h.form with ⟨rfl,rfl⟩ | ⟨b,o,g,e,pl,cs,rfl,_⟩
 ·exact⟨none,0,rfl⟩
 ·exact⟨_,_,rfl⟩
theorem Rd.more{σ τ:St}{v:Value}{l:List Nat}(h:Rd σ v l)(hp:∀ b x,σ.heap[b]?=some x->σ.hid.contains b=false->τ.heap[b]?=some x/\τ.hid.contains b=false):Rd τ v l:=by
 refine⟨h.by_,?_⟩;rcases h.form with h1 | ⟨b,o,g,e,pl,cs,h1,h2,h3,h4,h5⟩
 ·exact .inl h1
 ·obtain⟨h6,h7⟩:=hp b _ h4 h3;exact .inr ⟨b,o,g,e,pl,cs,h1,h2,h7,h6,h5⟩
theorem Rd.app{h nw:List Blk}{L L':Nat}{H d d':List Nat}{v:Value}{l:List Nat}(k:Rd ⟨h,L,H,d⟩ v l):Rd ⟨h++nw,L',H,d'⟩ v l:=
 k.more fun b x hx hh=>⟨by rw[aA (af.1 hx).1];exact hx,hh⟩
theorem Gz{cs:List Value}{o:Nat}{l:List Nat}(h:(cs.drop o).take l.length=u8s l){i:Nat}(hi:i < l.length):cs[o+i]?=some (.int .u8 (l[i]:Nat)):=by
 have:((cs.drop o).take l.length)[i]?=some (.int .u8 (l[i]:Nat)):=by rw[h,j0,aq hi];rfl
 rw[List.getElem?_take,if_pos hi,eS] at this;exact this
theorem Rd.at_{σ:St}{a:Option Addr}{e:Nat}{l:List Nat}{n:Nat}(h:Rd σ (.slice a n e) l){i:Nat}(hi:i < l.length) :
  ∃ b o g pl cs,a=some ⟨b,o,some g⟩/\n=l.length/\σ.hid.contains b=false/\σ.heap[b]?=some (.cells g pl cs)/\cs[o+i]?=some (.int .u8 (l[i]:Nat)):=by
 rcases h.form with ⟨h1,rfl⟩ | ⟨b,o,g,e',pl,cs,h1,_,hh,hb,hl,hc⟩
 ·simp at hi
 ·cases h1;exact⟨b,o,g,pl,cs,rfl,rfl,hh,hb,Gz hc hi⟩
theorem Rd.n_eq{σ:St}{a:Option Addr}{e:Nat}{l:List Nat}{n:Nat}(h:Rd σ (.slice a n e) l):n=l.length:=by rcases h.form with ⟨h1,rfl⟩ | ⟨b,o,g,e',pl,cs,h1,_⟩<;>cases h1<;>rfl
theorem Rd.news{σ:St}{v:Value}{l:List Nat}(h:Rd σ v l):σ.news 1 v=some (l.length,u8s l):=by
 rcases h.form with ⟨rfl,rfl⟩ | ⟨b,o,g,e,pl,cs,rfl,_,hh,hb,hl,hc⟩
 ·rfl
 ·have:σ.blk ⟨b,o,some g⟩=some (pl,cs):=by unfold St.blk;rw[hh,hb];simp
  simp only[St.news,this,ak,dR,if_pos hl,hc]
def sl(k g:Nat):Option (List Nat)->Value
 | none=>.slice none 0 0
 | some l=>.slice (some ⟨k,0,some g⟩) l.length 1
theorem ZN(k g:Nat)(o:Option (List Nat)):acL (sl k g o)=some (.int .i64 (o.getD []).length):=by cases o<;>rfl
theorem Cj(l:List Nat):(u8s l).all sc=true:=by rw[aF];intro v hv;obtain⟨x,_,rfl⟩:=bw.1 hv;rfl
theorem jQ(l:List Nat):(u8s l).all fY=true:=by rw[aF];intro v hv;obtain⟨x,_,rfl⟩:=bw.1 hv;rfl
theorem ZO{hp nw:List Blk}{base:Nat}{v:Value}{L:Nat}{H:List Nat}(hb:hp.length=base)(hv:refs v=[]):gc base [v] ⟨hp++nw,L,H,[]⟩=some ([v],⟨hp,L,H,[]⟩):=by subst hb;exact JV fun r hr=>by rw[hv] at hr;cases hr
theorem EE{hp nw:List Blk}{base:Nat}{fr:Fr}{L:Nat}{H:List Nat}(hb:hp.length=base)(hv:∀ p∈fr,∀ r∈refs p.2,r < base):kS base fr ⟨hp++nw,L,H,[]⟩=some (fr,⟨hp,L,H,[]⟩):=by
 subst hb;unfold kS;rw[Ph (fun v hv' r hr=>by obtain⟨p,hp',rfl⟩:=bw.1 hv';exact hv p hp' r hr) rfl]
 simp only[bq];congr 2;clear hv;induction fr with
 | nil=>rfl
 | cons x fr ih=>simpa using ih
def gcY(h nw:List Blk)(v:Value)(L:Nat)(H:List Nat):Bool->Option (List Value×St)
 | true=>some ([v],⟨h,L,H,[]⟩)
 | false=>gc h.length [v] ⟨h++nw,L,H,[]⟩
theorem Nv(h nw:List Blk)(v:Value)(L:Nat)(H:List Nat):gc h.length [v] ⟨h++nw,L,H,[]⟩=gcY h nw v L H (refs v).isEmpty:=by
 cases e:(refs v).isEmpty with
 | false=>rfl
 | true=>exact ZO rfl (List.isEmpty_iff.1 e)
theorem VZ(h nw:List Blk)(v:Value)(L:Nat)(H:List Nat):gcY h nw v L H true=some ([v],⟨h,L,H,[]⟩):=rfl
theorem Nw(h nw:List Blk)(i:Nat)(b:Blk)(v:Value)(L:Nat)(H:List Nat):gc h.length [v] ⟨h.set i b++nw,L,H,[]⟩=gcY (h.set i b) nw v L H (refs v).isEmpty:=by have:=Nv (h.set i b) nw v L H;rwa [aG] at this
theorem kO{h nw:List Blk}{v:Value}{L:Nat}{H:List Nat}(k:Nat){g:Nat}{cs:List Value}(hk:nw[k]?=some (.cells g true cs))(hv:∀ r∈refs v,r < h.length\/r=h.length+k)(hx:h.length+k∈refs v) :
  gcY h nw v L H false=some ([ren (AM.one h.length (h.length+k)) v],⟨h++[.cells g true cs],L,H,[]⟩):=by unfold gcY;exact vf hk (fun v' h1 r h2=>by simp at h1;subst h1;exact hv r h2) ⟨v,by simp,hx⟩ rfl
theorem JX{base:Nat} : AM.one base base base=base:=iZ (k:=0)
def Fit(n L:Nat)(H:List Nat):Prop:=L<=n/\Low n H
theorem Fit.mono{n m L:Nat}{H:List Nat}(h:Fit n L H)(k:n<=m):Fit m L H:=⟨bh h.1 k,h.2.mono k⟩
theorem Fit.lS{n L:Nat}{H:List Nat}(h:Fit n L H):H.contains n=false:=h.2.lS
theorem Fit.nv{n L:Nat}{H:List Nat}(h:Fit n L H)(i:Nat):H.contains (n+i)=false:=h.2.nv i
theorem Fit.up0{n L:Nat}{H:List Nat}(h:Fit n L H):(n < L)=False:=eq_false (by have:=h.1;omega)
theorem Fit.up1{n L:Nat}{H:List Nat}(h:Fit n L H)(i:Nat):(n+i < L)=False:=eq_false (by have:=h.1;omega)
theorem Fit.all{n L:Nat}{H:List Nat}(h:Fit n L H):H.contains n=false/\(∀ i,H.contains (n+i)=false)/\(n < L)=False/\∀ i,(n+i < L)=False:=⟨h.lS,h.nv,h.up0,h.up1⟩
theorem Fit.draw{n m L L':Nat}{H:List Nat}(h:Fit n L H)(k:n<=m)(kl:L'<=m):Fit m L' H:=⟨kl,h.2.mono k⟩
theorem lT{h nw:List Blk}{i:Nat}(hi:i < h.length):(h++nw)[i]?=h[i]?:=aA hi
theorem JY{h nw:List Blk}{i:Nat}{b:Blk}(hi:i < h.length):(h++nw).set i b=h.set i b++nw:=by rw[dA _ _ hi]
theorem SB(esz b o n e:Nat)(s:Option Nat)(k:IntKind)(i:Int):kJ esz (.slice (some ⟨b,o,s⟩) n e) (some (.int k i)) none none=if e=0\/e=esz then (if 0<=i/\i<=n then some (.slice (some ⟨b,o+i.toNat*esz,s⟩) (n - i.toNat) e) else none) else Cg esz ⟨b,o,s⟩ n e (some (.int k i)) none none:=by
 simp only[kJ,lH,iG,ak];split
 ·split<;>rfl
 ·rfl
theorem SC(esz b o n e:Nat)(s:Option Nat)(k:IntKind)(j:Int):kJ esz (.slice (some ⟨b,o,s⟩) n e) none (some (.int k j)) none=if e=0\/e=esz then (if 0<=j/\j<=n then some (.slice (some ⟨b,o,s⟩) j.toNat e) else none) else Cg esz ⟨b,o,s⟩ n e none (some (.int k j)) none:=by
 simp only[kJ,lH,iG];split
 ·split
  ·simp
  ·rfl
 ·rfl
theorem JZ(esz b o n e:Nat)(s:Option Nat)(k k':IntKind)(i j:Int):kJ esz (.slice (some ⟨b,o,s⟩) n e) (some (.int k i)) (some (.int k' j)) none=if e=0\/e=esz then (if 0<=i/\i<=j/\j<=n then some (.slice (some ⟨b,o+i.toNat*esz,s⟩) (j.toNat - i.toNat) e) else none) else Cg esz ⟨b,o,s⟩ n e (some (.int k i)) (some (.int k' j)) none:=by
 simp only[kJ,lH,iG];split
 ·by_cases h1:0<=j/\j<=(n:Int)
  ·rw[if_pos h1];simp only[ak];by_cases h2:0<=i/\i<=(j.toNat:Int)
   ·rw[if_pos h2,if_pos om];rfl
   ·rw[if_neg h2,if_neg om];rfl
  ·rw[if_neg h1,if_neg om];rfl
 ·rfl
theorem J0{hp:List Blk}{L:Nat}{H d:List Nat}{l:List Nat}(h0:l≠[])(hs:l.length<=1048576):St.append ⟨hp,L,H,d⟩ true 1 (.slice none 0 0) l.length (u8s l)=some (.slice (some ⟨hp.length,0,some l.length⟩) l.length 1,⟨hp++[.cells l.length true (u8s l)],L,H,d⟩):=by have h1:¬ l.length=0:=fun h=>h0 (bp h);simp only[St.append];rw[if_neg h1,if_pos (by simp[small,Cj,jQ];omega)];simp
theorem sQ{hp:List Blk}{L:Nat}{H d:List Nat}{vs:List Value}(pl:Bool)(esz:Nat):St.append ⟨hp,L,H,d⟩ pl esz (.slice none 0 0) 0 vs=some (.slice none 0 0,⟨hp,L,H,d⟩):=rfl
theorem jt{hp:List Blk}{b:Nat}{x:Blk}(h:hp[b]?=some x):hp.set b x=hp:=by obtain⟨h1,rfl⟩:=af.1 h;exact List.set_getElem_self h1
theorem Ck{hp:List Blk}{L b g:Nat}{H d:List Nat}{l0 l:List Nat}(hb:hp[b]?=some (.cells g true (u8s l0)))(hL:L<=b)(hh:H.contains b=false)(hs:l0.length+l.length<=1048576)(hg:g<=l0.length:=by first | exact cm _ | (simp;done) | omega) :
  St.append ⟨hp,L,H,d⟩ true 1 (.slice (some ⟨b,0,some g⟩) l0.length 1) l.length (u8s l) =
   some (.slice (some ⟨b,0,some (if l=[] then g else (l0++l).length)⟩) (l0++l).length 1,⟨hp.set b (.cells (if l=[] then g else (l0++l).length) true (u8s (l0++l))),L,H,d⟩):=by
 by_cases h0:l=[]
 ·subst h0;simp only[St.append,aT,if_true,bB];rw[jt hb]
 ·have h1:¬ l.length=0:=fun h=>h0 (bp h);have hk:St.blk ⟨hp,L,H,d⟩ ⟨b,0,some g⟩=some (true,u8s l0):=by unfold St.blk;simp only[hh,hb];simp
  simp only[St.append];rw[if_neg h1,if_neg (by simp;omega),hk];simp only[ak];rw[if_pos (by simp[jQ,Cj]),if_pos (by simp[u8s]),if_pos (by simp[small,u8s];omega)];simp only[if_neg h0,gm,Cj,Bool.true_or,if_true,LY,aB,dR]
theorem J1{hp:List Blk}{L:Nat}{H d:List Nat}{l:List Nat}(hF:Fit hp.length L H)(hs:l.length<=1048576) :
  St.append ⟨hp++[.cells 0 true []],L,H,d⟩ true 1 (.slice (some ⟨hp.length,0,some 0⟩) 0 1) l.length (u8s l)=some (.slice (some ⟨hp.length,0,some l.length⟩) l.length 1,⟨hp++[.cells l.length true (u8s l)],L,H,d⟩):=by
 have h:=Ck (hp:=hp++[.cells 0 true []]) (L:=L) (H:=H) (d:=d) (b:=hp.length) (g:=0) (l0:=[]) (l:=l) (by rw[gA];rfl) hF.1 hF.lS (by simpa using hs) (av _);have e:(if l=[] then 0 else l.length)=l.length:=by split<;>simp_all
 simpa only[aT,aV,gZ,e] using h
theorem J2{hp:List Blk}{L b:Nat}{H d:List Nat}{l0 l:List Nat}(hb:hp[b]?=some (.cells l0.length true (u8s l0)))(hL:L<=b)(hh:H.contains b=false)(hs:l0.length+l.length<=1048576) :
  St.append ⟨hp,L,H,d⟩ true 1 (.slice (some ⟨b,0,some l0.length⟩) l0.length 1) l.length (u8s l) =
   some (.slice (some ⟨b,0,some (l0++l).length⟩) (l0++l).length 1,⟨hp.set b (.cells (l0++l).length true (u8s (l0++l))),L,H,d⟩):=by
 have h:=Ck (d:=d) hb hL hh hs (av _);have e:(if l=[] then l0.length else (l0++l).length)=(l0++l).length:=by split<;>simp_all
 rwa [e] at h
theorem Nx(n:Nat):((n:Int)+1).toNat=n+1:=om
theorem J3{hp nw:List Blk}{fr:Fr}{L:Nat}{H:List Nat}(k:Nat)(hk:k<=nw.length)(hv:∀ p∈fr,∀ r∈refs p.2,r < hp.length+k):kS (hp.length+k) fr ⟨hp++nw,L,H,[]⟩=some (fr,⟨hp++nw.take k,L,H,[]⟩):=by
 have e:hp++nw=(hp++nw.take k)++nw.drop k:=by rw[aR,dm]
 rw[e];exact EE (by simp;omega) hv
def abR(esz o m:Nat):Option (Bool×List Value)->Option (Nat×List Value)
 | some (_,cs)=>if o+m*esz<=cs.length then some (m,(cs.drop o).take (m*esz)) else none
 | none=>none
theorem Ny(esz o m:Nat)(pl:Bool)(cs:List Value):abR esz o m (some (pl,cs))=if o+m*esz<=cs.length then some (m,(cs.drop o).take (m*esz)) else none:=rfl
theorem Nz(σ:St)(esz b o m e:Nat)(s:Option Nat):St.news σ esz (.slice (some ⟨b,o,s⟩) m e)=abR esz o m (St.blk σ ⟨b,o,s⟩):=by simp only[St.news];cases St.blk σ ⟨b,o,s⟩<;>rfl
theorem SD(σ:St)(esz:Nat):St.news σ esz (.slice none 0 0)=some (0,[]):=rfl
def ae9(o n:Nat):Option (Bool×List Value)->Option (List UInt8)
 | some (_,cs)=>if o+n<=cs.length then kG ((cs.drop o).take n) else none
 | none=>none
theorem SE(o n:Nat)(pl:Bool)(cs:List Value):ae9 o n (some (pl,cs))=if o+n<=cs.length then kG ((cs.drop o).take n) else none:=rfl
theorem str_slice(σ:St)(b o n e:Nat)(s:Option Nat):St.str σ (.slice (some ⟨b,o,s⟩) n e)=ae9 o n (St.blk σ ⟨b,o,s⟩):=by simp only[St.str];cases St.blk σ ⟨b,o,s⟩<;>rfl
theorem V0(σ:St):St.str σ (.slice none 0 0)=some []:=rfl
theorem V1(l:List Nat):(u8s l).take l.length=u8s l:=bt (by simp[u8s])
theorem SF{l m:List UInt8}(h:l.length+m.length<=1099511627776):gT .add (.string ⟨l.toArray⟩) (.string ⟨m.toArray⟩)=some (.string ⟨(l++m).toArray⟩):=by rw[VY,if_pos h]
theorem Rd.whole{hp:List Blk}{L b g e:Nat}{H d:List Nat}{pl:Bool}{l:List Nat}(h:hp[b]?=some (.cells g pl (u8s l)))(hh:H.contains b=false)(hb:By l)(he:e=0\/e=1):Rd ⟨hp,L,H,d⟩ (.slice (some ⟨b,0,some g⟩) l.length e) l:=
 ⟨hb,.inr ⟨b,0,g,e,pl,u8s l,rfl,he,hh,h,by simp[u8s],by rw[cz,bt (by simp[u8s])]⟩⟩
theorem Rd.refs{σ:St}{v:Value}{l:List Nat}(h:Rd σ v l):∀ r∈refs v,r < σ.heap.length:=by
 rcases h.form with ⟨rfl,rfl⟩ | ⟨b,o,g,e,pl,cs,rfl,_,hh,hb,_⟩
 ·simp[AM.refs,fU,fJ]
 ·have:=(af.1 hb).1;simp[AM.refs,fU,fJ];omega
end AM
namespace AM
open Go Go.RowKit
theorem V2(esz b o n e:Nat)(s:Option Nat)(k1 k2 k3:IntKind)(i j m:Int):kJ esz (.slice (some ⟨b,o,s⟩) n e) (some (.int k1 i)) (some (.int k2 j)) (some (.int k3 m))=if e=0\/e=esz then (if 0<=i/\i<=j/\j<=m/\m<=n then some (.slice (some ⟨b,o+i.toNat*esz,s⟩) (j.toNat - i.toNat) 0) else none) else Cg esz ⟨b,o,s⟩ n e (some (.int k1 i)) (some (.int k2 j)) (some (.int k3 m)):=by
 simp only[kJ,lH,iG];split
 ·by_cases h1:0<=m/\m<=(n:Int)
  ·rw[if_pos h1];simp only[ak];by_cases h2:0<=j/\j<=(m.toNat:Int)
   ·rw[if_pos h2];simp only[ak];by_cases h3:0<=i/\i<=(j.toNat:Int)
    ·rw[if_pos h3,if_pos om];rfl
    ·rw[if_neg h3,if_neg om];rfl
   ·rw[if_neg h2,if_neg om];rfl
  ·rw[if_neg h1,if_neg om];rfl
 ·rfl
theorem zD{lo k i:Nat}(h:i < lo\/lo+k<=i):(List.range' lo k).contains i=false:=by have:=mO (H:=[]) h;rw[bB] at this;rw[this];rfl
theorem Fit.nil{n L:Nat}(h:L<=n):Fit n L []:=⟨h,Low.nil n⟩
theorem J4{σ:St}{pl:Bool}{esz n e:Nat}{a:Addr}{vs:List Value} : St.append σ pl esz (.slice (some a) n e) 0 vs=some (.slice (some a) n e,σ):=rfl
theorem J5{α β γ:Type}(l:List (α×β))(f:β->γ):(l.map (·.1)).zip ((l.map (·.2)).map f)=l.map fun p=>(p.1,f p.2):=by
 induction l with
 | nil=>rfl
 | cons x l ih=>simp only[aK,cU,ih]
theorem V3{hp nw:List Blk}{fr:Fr}{L:Nat}{H:List Nat}(k:Nat){g:Nat}{cs:List Value}(hk:nw[k]?=some (.cells g true cs))(hv:∀ p∈fr,∀ r∈refs p.2,r < hp.length\/r=hp.length+k)(hx:∃ p∈fr,hp.length+k∈refs p.2) :
  kS hp.length fr ⟨hp++nw,L,H,[]⟩=some (fr.map fun p=>(p.1,ren (AM.one hp.length (hp.length+k)) p.2),⟨hp++[.cells g true cs],L,H,[]⟩):=by
 unfold kS;obtain⟨p,hp1,hp2⟩:=hx;rw[vf hk (fun v hv' r hr=>by obtain⟨p,hp',rfl⟩:=bw.1 hv';exact hv p hp' r hr) ⟨p.2,bw.2 ⟨p,hp1,rfl⟩,hp2⟩ rfl]
 simp only[bq,J5]
end AM
namespace AM
open Go Go.RowKit
def ahA:=And.intro @F6<|And.intro @MC<|And.intro @RC<|And.intro @RE<|And.intro @Jq<|And.intro @RF<|And.intro @MH<|And.intro @RG<|And.intro @Zv<|And.intro @UP<|And.intro @UE<|And.intro @Jr<|And.intro @Sk<|And.intro @Sl<|And.intro @Sm<|And.intro @RH<|And.intro @MJ<|And.intro @UF<|And.intro @UG<|And.intro @RI<|And.intro @UH<|And.intro @acI<|And.intro @UI<|And.intro @RJ<|And.intro @RK<|And.intro @Zw<|And.intro @Zx<|And.intro @acJ<|And.intro @UJ<|And.intro @RL<|And.intro @MK<|And.intro @RM<|And.intro @RN<|And.intro @RO<|And.intro @ML<|And.intro @Zy<|And.intro @Zz<|And.intro @ZA<|And.intro @UK<|And.intro @UL<|And.intro @acK<|And.intro @ZB<|And.intro @RS<|And.intro @RT<|And.intro @MN<|And.intro @MO<|And.intro @UQ<|And.intro @RU<|And.intro @Vp<|And.intro @Em<|And.intro @BQ<|And.intro @BR<|And.intro @rB<|And.intro @RV<|And.intro @MP<|And.intro @DJ<|And.intro @MQ<|And.intro @Js<|And.intro @MR<|And.intro @VC<|And.intro @VD<|And.intro @VE<|And.intro @Ng<|And.intro @Vv<|And.intro @JQ<|And.intro @Nl<|And.intro @Sb<|And.intro @Nm<|And.intro @Sc<|And.intro @Vw<|And.intro @Sd<|And.intro @No<|And.intro @Nn<|And.intro @Se<|And.intro @Sf<|And.intro @Sg<|And.intro @Vt<|And.intro @ZI<|And.intro @Nv<|And.intro @Nw<|And.intro @VZ<|And.intro @w64<|And.intro @wu8<|And.intro @ahz<|And.intro @ae8<|And.intro @DG<|And.intro @UR<|And.intro @US<|And.intro @Su<|And.intro @Sw<|And.intro @Nt<|And.intro @JS<|And.intro @JT<|And.intro @Nu<|And.intro @Vy<|And.intro @Vz<|And.intro @VA<|And.intro @UT<|And.intro @UZ<|And.intro @U0<|And.intro @JU<|And.intro @Sn<|And.intro @Sq<|And.intro @Sr<|And.intro @Ss<|And.intro @Np<|And.intro @Gx<|And.intro @Ci<|And.intro @VJ<|And.intro @VK<|And.intro @VL<|And.intro @VM<|And.intro @ZJ<|And.intro @Nq<|And.intro @JR<|And.intro @acP<|And.intro @VN<|And.intro @ZK<|And.intro @Va<|And.intro @Vb<|And.intro @RZ<|And.intro @Vd<|And.intro @ZG<|And.intro @R5<|And.intro @R4<|And.intro @Vc<|And.intro @M3<|And.intro @oR<|And.intro @VO<|And.intro @VP<|And.intro @R9<|And.intro @Vs<|And.intro @Nj<|And.intro @Nk<|And.intro @RW<|And.intro @mw<|And.intro @nN<|And.intro @Ep<|And.intro @VG<|And.intro @VH<|And.intro @VI<|And.intro @Cb<|And.intro @yR<|And.intro @yS<|And.intro @Jt<|And.intro @UX<|@Ju
def ahB:=And.intro @O3<|And.intro @Jv<|And.intro @Er<|And.intro @Eu<|And.intro @O5<|And.intro @U4<|And.intro @Jz<|And.intro @O6<|And.intro @JA<|And.intro @U5<|And.intro @Ev<|And.intro @Ew<|And.intro @O7<|And.intro @Ey<|And.intro @Cf<|And.intro @O8<|And.intro @JB<|And.intro @RY<|And.intro @acN<|And.intro @U8<|And.intro @Ez<|And.intro @MZ<|And.intro @M0<|And.intro @R2<|And.intro @ZF<|And.intro @M1<|And.intro @Ve<|And.intro @Vi<|And.intro @Vh<|And.intro @M6<|And.intro @M7<|And.intro @JH<|And.intro @Vj<|And.intro @R6<|And.intro @Na<|And.intro @JJ<|And.intro @Nb<|And.intro @Vl<|And.intro @R7<|And.intro @MT<|And.intro @Jw<|And.intro @Es<|And.intro @MU<|And.intro @RX<|And.intro @MV<|And.intro @Cd<|And.intro @yT<|And.intro @wh<|And.intro @Et<|And.intro @MX<|And.intro @Ce<|And.intro @JC<|And.intro @Gk<|And.intro @U6<|And.intro @ZC<|And.intro @ZD<|And.intro @ZE<|And.intro @MY<|And.intro @JD<|And.intro @Gl<|And.intro @Gm<|And.intro @R3<|And.intro @Gn<|And.intro @DK<|And.intro @M4<|And.intro @M5<|And.intro @JF<|And.intro @DL<|And.intro @M8<|And.intro @JI<|And.intro @Gr<|And.intro @F7<|And.intro @v9<|And.intro @UD<|And.intro @MD<|And.intro @F8<|And.intro @RD<|And.intro @ME<|And.intro @DH<|And.intro @DI<|And.intro @Jp<|And.intro @Gt<|And.intro @M9<|And.intro @Nf<|And.intro @Nc<|And.intro @Nd<|And.intro @Gu<|And.intro @JL<|And.intro @JM<|And.intro @Ch<|And.intro @Vn<|And.intro @write_eq<|And.intro @JN<|And.intro @Ja<|And.intro @Jb<|And.intro @Jc<|And.intro @Jd<|And.intro @Je<|And.intro @Jf<|And.intro @Jg<|And.intro @Jh<|And.intro @Ji<|And.intro @BY<|And.intro @BZ<|And.intro @Jj<|And.intro @Jk<|And.intro @Sz<|And.intro @VU<|And.intro @SA<|And.intro @Zt<|And.intro @VV<|And.intro @VW<|And.intro @VX<|And.intro @VQ<|And.intro @VR<|And.intro @VS<|And.intro @ZL<|And.intro @iE<|And.intro @gA<|And.intro @wj<|And.intro @gZ<|And.intro @lT<|And.intro @JY<|And.intro @mO<|And.intro @zD<|And.intro @SB<|And.intro @SC<|And.intro @JZ<|And.intro @ZN<|And.intro @sQ<|And.intro @str_slice<|And.intro @SE<|And.intro @V0<|And.intro @V1<|And.intro @vg<|And.intro @fH<|And.intro @ED<|And.intro @SF<|And.intro @Nz<|And.intro @Ny<|And.intro @SD<|And.intro @Nx<|And.intro @Gw<|And.intro @R8<|And.intro @Ni<|And.intro @JO<|@Sa
def syA:=And.intro ahA ahB
def syB:=And.intro @List.isEmpty_nil.{0}<|And.intro @List.isEmpty_cons.{0}<|And.intro @aV.{0}<|And.intro @Option.isNone_none.{0}<|And.intro @Option.isNone_some.{0}<|And.intro @dn.{0}<|And.intro @Option.getD_none.{0}<|And.intro @decide_true<|And.intro @decide_false<|And.intro @decide_eq_true_eq<|And.intro @decide_eq_false_iff_not<|And.intro @decide_not<|And.intro @Bool.not_true<|And.intro @Bool.not_false<|And.intro @Bool.not_not<|And.intro @bU<|And.intro @dx<|And.intro @dX<|And.intro @Bool.and_false<|And.intro @Bool.false_and<|And.intro @Bool.and_self<|And.intro @Bool.or_true<|And.intro @Bool.true_or<|And.intro @Bool.or_false<|And.intro @fy<|And.intro @Bool.or_self<|And.intro @aO<|And.intro @au<|And.intro @bF<|And.intro @and_true<|And.intro @true_and<|And.intro @and_false<|And.intro @false_and<|And.intro @or_true<|And.intro @true_or<|And.intro @or_false<|And.intro @false_or<|And.intro @not_true_eq_false<|And.intro @not_false_eq_true<|And.intro @bq.{0,0}<|And.intro @Option.map_none.{0,0}<|And.intro @ak.{0,0}<|And.intro @Option.bind_none.{0,0}<|And.intro @Nat.testBit_eq_decide_div_mod_eq<|And.intro @aX<|And.intro @bY<|And.intro @cL<|And.intro @av<|And.intro @Nat.lt_irrefl<|And.intro @dR<|And.intro @Int.mul_one<|And.intro @Int.one_mul<|And.intro @Int.sub_zero<|And.intro @Int.add_zero<|And.intro @Int.zero_add<|And.intro @beq_iff_eq.{0}<|And.intro @bne_iff_ne.{0}<|And.intro @bne_self_eq_false.{0}<|And.intro @bne_eq_false_iff_eq.{0}<|And.intro @beq_eq_false_iff_ne.{0}<|And.intro @ne_eq.{1}<|And.intro @beq_self_eq_true.{0}<|And.intro @ct.{0}<|And.intro @dS.{0}<|And.intro @dV.{0,0}<|And.intro @dK.{0,0}<|And.intro @bB.{0}<|And.intro @aR.{0}<|And.intro @aS.{0}<|And.intro @aB.{0}<|And.intro @aG.{0}<|And.intro @cu<|And.intro @az.{0}<|And.intro @aT.{0}<|And.intro @cI.{0}<|And.intro @cJ.{0}<|And.intro @dP.{0}<|And.intro @cV.{0}<|And.intro @cQ.{0}<|And.intro @eI.{0}<|And.intro @cz.{0}<|And.intro @cC.{0}<|And.intro @List.contains_nil.{0}<|And.intro @dD<|And.intro @Int.lt_irrefl<|And.intro @dG<|@eL
theorem dis{p:Prop}(h:p:=by first | omega | (simp only[lnE]<;>omega) | (refine Fit.mono ‹Fit _ _ _› ?_<;>(simp only[lnE]<;>omega)) | (refine Fit.draw ‹Fit _ _ _› ?_ ?_<;>(simp only[lnE]<;>omega)) | (refine Fit.hid1 ‹Fit _ _ _› ?_ ?_<;>(simp only[lnE]<;>omega)) | (refine Fit.hidc1 ‹Fit _ _ _› ?_ ?_<;>(simp only[lnE]<;>omega)) | (refine Fit.hidc2 ‹Fit _ _ _› ?_ ?_ ?_<;>(simp only[lnE]<;>omega)) | (refine Fit.draw1 ‹Fit _ _ _› ?_ ?_ ?_<;>(simp only[lnE]<;>omega)) | (refine Fit.range0 ?_ ?_<;>(simp only[lnE]<;>omega)) | (intros;contradiction) | (intros;rename_i hx;injection hx;contradiction)):p:=h
def syC:=And.intro @gS.eq_1<|And.intro @gS.eq_2<|And.intro @gB.eq_1<|And.intro @eqF.eq_1<|And.intro @aeq.eq_1<|And.intro @aeq.eq_2<|And.intro @aeq.eq_3<|And.intro @aeq.eq_4<|And.intro @aeq.eq_5<|And.intro @aeq.eq_6<|And.intro @aeq.eq_7<|And.intro @aeq.eq_8<|And.intro @aeq.eq_9<|And.intro @aeq.eq_10<|And.intro @aeq.eq_11<|And.intro @aeq.eq_12<|And.intro @aeq.eq_13<|And.intro @gz.eq_1<|And.intro @gz.eq_2<|And.intro @gz.eq_3<|And.intro @nS.eq_1<|And.intro @nS.eq_2<|And.intro @nS.eq_3<|And.intro @nS.eq_4<|And.intro @gI.eq_1<|And.intro @gI.eq_2<|And.intro @cellsOf.eq_1<|And.intro @cellsOf.eq_2<|And.intro @fill.eq_1<|And.intro @fill.eq_2<|And.intro @putAt.eq_1<|And.intro @putAt.eq_2<|And.intro @fY.eq_1<|And.intro @fY.eq_2<|And.intro @fY.eq_3<|And.intro @fY.eq_4<|And.intro @fY.eq_5<|And.intro @sc.eq_1<|And.intro @sc.eq_2<|And.intro @sc.eq_3<|And.intro @sc.eq_4<|And.intro @sc.eq_5<|And.intro @sc.eq_6<|And.intro @sc.eq_7<|And.intro @sc.eq_8<|And.intro @sc.eq_9<|And.intro @sc.eq_10<|And.intro @sc.eq_11<|And.intro @DZ.eq_1<|And.intro @DZ.eq_2<|And.intro @refs.eq_1<|And.intro @refs.eq_2<|And.intro @fU.eq_1<|And.intro @fU.eq_2<|And.intro @fU.eq_3<|And.intro @fJ.eq_1<|And.intro @fJ.eq_2<|And.intro @fJ.eq_3<|And.intro @fJ.eq_4<|@fJ.eq_5
theorem J6:([]:List Blk).length=0:=rfl
def lnE:=And.intro (@aB Blk)<|And.intro (@az Blk)<|And.intro J6<|And.intro (@aG Blk)<|And.intro @ED<|And.intro @fH<|And.intro (@aG Nat)<|And.intro (@aB Nat)<|And.intro (@aB UInt8)<|And.intro (@az Nat)<|And.intro @UN<|And.intro @RQ<|And.intro @MM<|And.intro @UO<|And.intro @RR<|And.intro @UM<|And.intro @RP<|And.intro @or_false<|And.intro (@eq_self.{1} Nat)<|And.intro @or_true<|And.intro @true_or @and_true
end AM
namespace fO
open Go AM
abbrev T(n:Nat):Operand:=.tmp n
abbrev C(v:Value):Operand:=.const v
abbrev Ki(n:Int):Operand:=.const (.int .i64 n)
abbrev Kb(b:Bool):Operand:=.const (.bool b)
abbrev D(d:Nat)(o:AOp):fB:=⟨some d,none,0,true,o⟩
abbrev Mv(d x:Nat):fB:=⟨some d,none,0,true,.mv (.tmp x)⟩
abbrev Gd(d g:Nat)(b:Bool)(o:AOp):fB:=⟨some d,some (g,b),0,true,o⟩
abbrev E(o:AOp):fB:=⟨none,none,0,true,o⟩
abbrev Fq(d b:Nat)(o:AOp):fB:=⟨some d,none,b,false,o⟩
abbrev Gq(d g:Nat)(w:Bool)(b:Nat)(o:AOp):fB:=⟨some d,some (g,w),b,false,o⟩
def sy:=And.intro @Fq.eq_1<|And.intro @Gq.eq_1<|And.intro syA<|And.intro syB<|And.intro syC<|And.intro @Mv.eq_1<|And.intro @Gd.eq_1<|And.intro @Ki.eq_1<|And.intro @Kb.eq_1<|And.intro @D.eq_1<|And.intro @E.eq_1<|And.intro @T.eq_1<|@C.eq_1
noncomputable def cfn(f:Func):AFn:=(iH Tryz.prog f).getD ⟨.skip,[]⟩
theorem acS{f:Func}(h:(iH Tryz.prog f).isSome=true:=by kernel_rfl):iH Tryz.prog f=some (cfn f):=by
 unfold cfn;cases e:iH Tryz.prog f with
 | none=>rw[e] at h;cases h
 | some x=>rfl
noncomputable def pf(i:Nat):Func:=(Tryz.prog.funcs[i]?).getD Tryz.f9
theorem ckw {P : Program} {r : List (Nat × AFn)} (h : qt P (.base r)) : ∀ {l : List (Nat × AFn)}, (l.map fun p => (P.funcs[p.1]?).bind (iH P)) = l.map (fun p => some p.2) -> (l.all fun p => (P.funcs[p.1]?).any fun f => decide (f.name ≠ "runtime.NumGoroutine")) = true -> qt P (.base (l ++ r))
 | [],_,_=>h
 | (i,a)::l,e,k=>by simp only[aK,dU,aa] at e;obtain⟨⟨f,e1,e2⟩,e3⟩:=e;simp only[ct,e1,Option.any_some,au,decide_eq_true_eq] at k;exact qt.cons e1 e2 k.1 (ckw h e3 k.2)
theorem ckc {P : Program} {g : Nat -> AFn} (hg : ∀ i f, P.funcs[i]? = some f -> (iH P f).isSome = true -> iH P f = some (g i)) : ∀ {s : List Nat}, (s.all fun i => (P.funcs[i]?).any fun f => (iH P f).isSome && decide (f.name ≠ "runtime.NumGoroutine")) = true -> qt P (.base (s.map fun i => (i, g i)))
 | [],_=>qt.nil
 | i::l,k=>by
  simp only[ct,au] at k;cases e:P.funcs[i]? with
  | none=>rw[e] at k;cases k.1
  | some f=>
   rw[e] at k;simp only[Option.any_some,au,decide_eq_true_eq] at k;exact qt.cons e (hg i f e k.1.1) k.1.2 (ckc hg k.2)
theorem cgf(i:Nat)(f:Func)(e:Tryz.prog.funcs[i]?=some f)(h:(iH Tryz.prog f).isSome=true):iH Tryz.prog f=some (cfn (pf i)):=by
 have:pf i=f:=by unfold pf;rw[e];rfl
 rw[this];exact acS h
end fO
namespace fO
open Go AM
def acT:fG:=(.block 3 (.seq (.region [
 Mv 55 12,
 D 56 (.call 46 [(T 55)]),
 Mv 16 56])
 (.seq (.region [
 Mv 58 12,
 D 59 (.call 47 [(T 58)]),
 Mv 57 59,
 D 60 (.ext (T 57) 0),
 D 61 (.ext (T 57) 1),
 D 62 (.ext (T 57) 2),
 Mv 17 60,
 Mv 18 61,
 Mv 19 62])
 (.seq (.region [
 Mv 64 3,
 Mv 65 12,
 D 66 (.call 49 [(T 65)]),
 D 67 (.call 48 [(T 64),(T 66)]),
 Mv 63 67,
 D 68 (.ext (T 63) 0),
 D 69 (.ext (T 63) 1),
 Mv 20 68,
 Mv 21 69])
 (.seq (.seq (.region [
 Mv 70 12,
 D 71 (.call 50 [(T 70)]),
 Mv 72 1,
 D 73 (.bin .gtr (T 71) (T 72)),
 Mv 74 73,
 Gd 75 74 false (.mv (T 21)),
 Gd 76 74 false (.bin .eql (T 75) (Ki 0)),
 Gd 77 74 false (.mv (T 76)),
 Gd 78 77 true (.mv (T 12)),
 Gd 79 77 true (.call 46 [(T 78)]),
 Gd 80 77 true (.mv (T 16)),
 Gd 81 77 true (.bin .sub (T 79) (T 80)),
 Gd 82 77 true (.mv (T 20)),
 Gd 83 77 true (.bin .gtr (T 81) (T 82)),
 Gd 84 74 false (.pick (T 77) (T 83) (Kb false)),
 D 85 (.pick (T 74) (Kb true) (T 84))])
 (.cond (T 85)
 (.seq (.region [
 D 8 (.mv (C (.slice none 0 0))),
 D 9 (.mv (C (.int .u8 0))),
 D 10 (.mv (Ki 0)),
 D 11 (.mv (Kb false))])
 .ret)
 .skip))
 (.seq (.seq (.region [
 Mv 86 18,
 D 87 (.bin .eql (T 86) (C (.int .u8 1)))])
 (.cond (T 87)
 (.seq (.region [
 Mv 88 14,
 Mv 89 17,
 D 90 (.gV true 1 1 [(.int .u8 0)] [(0,1,(T 89))]),
 D 91 (.append true 1 (T 88) (T 90)),
 Mv 14 91])
 (.exit 3))
 .skip))
 (.seq (.seq (.region [
 Mv 92 18,
 D 93 (.bin .neq (T 92) (C (.int .u8 2))),
 Mv 94 93,
 Gd 95 94 false (.mv (T 15)),
 Gd 96 94 false (.mv (T 0)),
 Gd 97 94 false (.len (T 96)),
 Gd 98 94 false (.bin .geq (T 95) (T 97)),
 D 99 (.pick (T 94) (Kb true) (T 98))])
 (.cond (T 99)
 (.seq (.region [
 Mv 100 14,
 Mv 101 18,
 Mv 102 19,
 Mv 103 18,
 D 104 (.bin .neq (T 103) (C (.int .u8 2))),
 Mv 8 100,
 Mv 9 101,
 Mv 10 102,
 Mv 11 104])
 .ret)
 .skip))
 (.exit 2))))))))
def qd:fG:=(.seq (.block 1 (.seq (.seq (.region [
 Mv 37 15,
 Mv 38 0,
 D 39 (.len (T 38)),
 D 40 (.bin .lss (T 37) (T 39))])
 (.cond (T 40)
 (.region [
 Mv 41 12,
 Mv 42 0,
 Mv 43 15,
 Mv 44 15,
 Mv 45 2,
 D 46 (.bin .add (T 44) (T 45)),
 Mv 47 0,
 D 48 (.len (T 47)),
 D 49 (.mm false [(T 46),(T 48)]),
 D 50 (.slice 1 (T 42) (some (T 43)) (some (T 49)) none),
 D 51 (.gV false 1 1 [(.slice none 0 0)] [(0,1,(T 50))]),
 D 52 (.call 44 [(T 41),(T 51)])])
 (.region [
 Mv 53 12,
 D 54 (.call 45 [(T 53)])])))
 (.block 2 (.loop [15,2,0,12,1,3,14] acT))))
 (.region [
 Mv 34 15,
 Mv 35 2,
 D 36 (.bin .add (T 34) (T 35)),
 Mv 15 36]))
def NA:AFn:=⟨(.seq (.region [
 D 8 (.mv (C (.slice none 0 0))),
 D 9 (.mv (C (.int .u8 0))),
 D 10 (.mv (Ki 0)),
 D 11 (.mv (Kb false))])
 (.seq (.region [
 Mv 23 1,
 D 24 (.call 43 [(T 23)]),
 Mv 22 24,
 D 25 (.ext (T 22) 0),
 D 26 (.ext (T 22) 1),
 Mv 12 25,
 Mv 13 26])
 (.seq (.seq (.region [
 Mv 27 13,
 D 28 (.bin .neq (T 27) (Ki 0)),
 Mv 29 28,
 Gd 30 29 false (.mv (T 12)),
 Gd 31 29 false (.eqs false .ptr (T 30) (C (.pointer none))),
 D 32 (.pick (T 29) (Kb true) (T 31))])
 (.cond (T 32)
 (.seq (.region [
 Mv 33 13,
 D 8 (.mv (C (.slice none 0 0))),
 D 9 (.mv (C (.int .u8 0))),
 Mv 10 33,
 D 11 (.mv (Kb false))])
 .ret)
 .skip))
 (.seq (.region [
 D 14 (.mv (C (.slice none 0 0)))])
 (.seq (.region [
 D 15 (.mv (Ki 0))])
 (.block 0 (.loop [15,2,0,12,1,3,14] qd))))))),[.tmp 8,.tmp 9,.tmp 10,.tmp 11]⟩
def Cl:fG:=(.seq (.region [
 D 10 (.bin .lss (T 9) (T 8))])
 (.seq (.cond (T 10)
 .skip
 (.exit 0))
 (.seq (.block 1 (.seq (.region [
 Mv 11 9,
 D 12 (.fK 1 (T 7) (T 9)),
 D 13 (.load none (T 12)),
 Mv 4 11,
 Mv 5 13])
 (.seq (.seq (.region [
 Mv 14 5,
 D 15 (.bin .eql (T 14) (Ki 0))])
 (.cond (T 15)
 (.seq (.region [
 Mv 16 4,
 Mv 3 16])
 (.exit 1))
 .skip))
 (.region [
 Mv 17 2,
 Mv 18 0,
 Mv 19 5,
 D 20 (.bin .sub (T 19) (Ki 1)),
 D 21 (.fK 1 (T 18) (T 20)),
 D 22 (.load none (T 21)),
 D 23 (.gV true 1 1 [(.int .u8 0)] [(0,1,(T 22))]),
 D 24 (.append true 1 (T 17) (T 23)),
 Mv 2 24]))))
 (.region [
 D 25 (.bin .add (T 9) (Ki 1)),
 Mv 9 25]))))
def acU:AFn:=⟨(.seq (.region [
 D 2 (.mv (C (.slice none 0 0))),
 D 3 (.mv (Ki 0))])
 (.seq (.seq (.region [
 Mv 6 0,
 D 7 (.call 53 [(T 6)]),
 D 8 (.len (T 7)),
 D 9 (.mv (Ki 0))])
 (.block 0 (.loop [3,9,8,7,0,2] Cl)))
 (.seq (.region [
 Mv 26 2,
 Mv 27 3,
 Mv 2 26,
 Mv 3 27])
 .ret))),[.tmp 2,.tmp 3]⟩
def acV:AFn:=⟨(.seq (.region [
 D 2 (.mv (C (.slice none 0 0)))])
 (.seq (.region [
 Mv 6 0,
 D 7 (.call 23 [(T 6)]),
 Mv 5 7,
 D 8 (.ext (T 5) 0),
 D 9 (.ext (T 5) 1),
 Mv 3 8,
 Mv 4 9])
 (.seq (.region [
 Mv 10 3,
 D 11 (.call 26 [(T 10)]),
 Mv 2 11])
 .ret))),[.tmp 2]⟩
def acW:AFn:=⟨(.seq (.region [
 D 2 (.alloc true (List.replicate 258 (.int .i64 0))),
 D 3 (.mv (Ki 0))])
 (.seq (.region [
 D 4 (.build (List.replicate 258 (.int .i64 0)) []),
 Mv 5 0,
 D 6 (.call 61 [(T 4),(T 5)]),
 D 7 (.ext (T 6) 0),
 D 8 (.ext (T 6) 1),
 E (.store 258 (T 2) (T 7)),
 Mv 3 8])
 .ret)),[.cell 2 (some 258),.tmp 3]⟩
def GA:fG:=(.seq (.region [
 D 87 (.bin .lss (T 86) (T 85))])
 (.seq (.cond (T 87)
 .skip
 (.exit 4))
 (.seq (.block 5 (.seq (.region [
 D 88 (.fK 2 (T 84) (T 86)),
 D 89 (.load (some 2) (T 88)),
 D 13 (.alloc true [(.int .i64 0),(.bool false)]),
 E (.store 2 (T 13) (T 89))])
 (.seq (.region [
 D 90 (.fQ 1 (T 13)),
 D 91 (.load none (T 90))])
 (.cond (T 91)
 (.seq (.region [
 Mv 92 6,
 Mv 93 11,
 D 94 (.fK 1 (T 92) (T 93)),
 D 95 (.load none (T 94)),
 D 96 (.gO 1 258 (T 4) (T 95)),
 D 97 (.load none (T 96)),
 D 98 (.bin .add (T 97) (C (.int .u8 1))),
 D 99 (.gO 1 258 (T 4) (T 95)),
 E (.store 1 (T 99) (T 98))])
 (.region [
 Mv 100 11,
 D 101 (.bin .add (T 100) (Ki 1)),
 Mv 11 101]))
 .skip))))
 (.region [
 D 102 (.bin .add (T 86) (Ki 1)),
 Mv 86 102]))))
def vh:fG:=(.seq (.seq (.region [
 Mv 71 10,
 D 72 (.bin .geq (T 71) (Ki 0)),
 Mv 73 72,
 Gd 74 73 true (.mv (T 9)),
 Gd 75 73 true (.bin .gtr (T 74) (Ki 0)),
 D 76 (.pick (T 73) (T 75) (Kb false))])
 (.cond (T 76)
 .skip
 (.exit 2)))
 (.seq (.block 3 (.seq (.region [
 D 11 (.mv (Ki 0))])
 (.seq (.seq (.region [
 Mv 79 7,
 Mv 80 10,
 D 81 (.fK 1 (T 79) (T 80)),
 D 82 (.load none (T 81)),
 Mv 83 9,
 D 84 (.slice 2 (T 82) none (some (T 83)) none),
 D 85 (.len (T 84)),
 D 86 (.mv (Ki 0))])
 (.block 4 (.loop [11,86,85,7,10,9,84,6,4] GA)))
 (.region [
 Mv 103 9,
 Mv 104 11,
 D 105 (.bin .sub (T 103) (T 104)),
 D 106 (.bin .mul (Ki 2) (T 105)),
 Mv 9 106]))))
 (.region [
 Mv 77 10,
 D 78 (.bin .sub (T 77) (Ki 1)),
 Mv 10 78])))
def GB:fG:=(.seq (.seq (.region [
 Mv 48 8,
 Mv 49 1,
 D 50 (.bin .lss (T 48) (T 49))])
 (.cond (T 50)
 .skip
 (.exit 0)))
 (.seq (.block 1 (.drawn [
 Fq 53 0 (.mv (T 7)),
 Fq 54 0 (.mv (T 7)),
 Fq 55 2 (.fK 1 (T 54) (Ki 0)),
 Fq 56 6 (.load none (T 55)),
 Fq 57 0 (.mv (T 7)),
 Fq 58 0 (.mv (T 8)),
 Fq 59 32 (.bin .sub (T 58) (Ki 1)),
 Fq 60 112 (.fK 1 (T 57) (T 59)),
 Fq 61 240 (.load none (T 60)),
 ⟨(some 62),none,510,true,.call 65 [(T 56),(T 61)]⟩,
 Fq 63 1022 (.gV false 1 1 [(.slice none 0 0)] [(0,1,(T 62))]),
 ⟨(some 64),none,2047,true,.append false 1 (T 53) (T 63)⟩,
 Fq 7 4095 (.mv (T 64))]))
 (.region [
 Mv 51 8,
 D 52 (.bin .add (T 51) (Ki 1)),
 Mv 8 52])))
def V4:AFn:=⟨(.seq (.region [
 D 2 (.box true (T 0)),
 D 4 (.alloc true (List.replicate 258 (.int .u8 0))),
 D 5 (.mv (Ki 0))])
 (.seq (.region [
 D 14 (.load (some 258) (T 2)),
 D 15 (.call 62 [(T 14)]),
 Mv 6 15])
 (.seq (.seq (.region [
 D 16 (.load (some 258) (T 2)),
 D 17 (.call 63 [(T 16)]),
 D 18 (.un .not (T 17)),
 Mv 19 18,
 Gd 20 19 false (.mv (T 1)),
 Gd 21 19 false (.bin .lss (T 20) (Ki 1)),
 D 22 (.pick (T 19) (Kb true) (T 21)),
 Mv 23 22,
 Gd 24 23 false (.mv (T 1)),
 Gd 25 23 false (.bin .gtr (T 24) (Ki 15)),
 D 26 (.pick (T 23) (Kb true) (T 25)),
 Mv 27 26,
 Gd 28 27 false (.mv (T 6)),
 Gd 29 27 false (.len (T 28)),
 Gd 30 27 false (.mv (T 1)),
 Gd 31 27 false (.conv .u64 (T 30)),
 Gd 32 27 false (.bin .shl (Ki 1) (T 31)),
 Gd 33 27 false (.bin .gtr (T 29) (T 32)),
 D 34 (.pick (T 27) (Kb true) (T 33))])
 (.cond (T 34)
 (.seq (.region [
 D 35 (.load (some 258) (T 4)),
 E (.store 258 (T 4) (T 35)),
 D 5 (.mv (Ki 2))])
 .ret)
 .skip))
 (.seq (.seq (.region [
 Mv 36 6,
 D 37 (.len (T 36)),
 D 38 (.bin .eql (T 37) (Ki 1))])
 (.cond (T 38)
 (.seq (.region [
 Mv 39 6,
 D 40 (.fK 1 (T 39) (Ki 0)),
 D 41 (.load none (T 40)),
 D 42 (.gO 1 258 (T 4) (T 41)),
 E (.store 1 (T 42) (C (.int .u8 1)))])
 (.seq (.region [
 D 43 (.load (some 258) (T 4)),
 E (.store 258 (T 4) (T 43)),
 D 5 (.mv (Ki 0))])
 .ret))
 .skip))
 (.seq (.region [
 D 44 (.load (some 258) (T 2)),
 Mv 45 6,
 D 46 (.call 64 [(T 44),(T 45)]),
 D 47 (.gV false 1 1 [(.slice none 0 0)] [(0,1,(T 46))]),
 Mv 7 47])
 (.seq (.seq (.region [
 D 8 (.mv (Ki 1))])
 (.block 0 (.loop [7,8,4,6,1] GB)))
 (.seq (.region [
 Mv 65 6,
 D 66 (.len (T 65)),
 D 67 (.bin .mul (Ki 2) (T 66)),
 D 68 (.bin .sub (T 67) (Ki 2)),
 Mv 9 68])
 (.seq (.seq (.region [
 Mv 69 1,
 D 70 (.bin .sub (T 69) (Ki 1)),
 Mv 10 70])
 (.block 2 (.loop [7,10,9,6,4] vh)))
 (.seq (.region [
 D 107 (.load (some 258) (T 4)),
 E (.store 258 (T 4) (T 107)),
 D 5 (.mv (Ki 0))])
 .ret))))))))),[.cell 4 (some 258),.tmp 5]⟩
def GC:fG:=(.seq (.region [
 D 12 (.bin .lss (T 11) (Ki 258))])
 (.seq (.cond (T 12)
 .skip
 (.exit 0))
 (.seq (.block 1 (.seq (.region [
 Mv 13 11,
 D 14 (.idx 1 258 none (T 10) (T 11)),
 Mv 5 13,
 Mv 6 14])
 (.region [
 Mv 15 4,
 Mv 16 6,
 Mv 17 5,
 D 18 (.gO 1 258 (T 3) (T 17)),
 D 19 (.load none (T 18)),
 D 20 (.conv .i64 (T 19)),
 D 21 (.bin .mul (T 16) (T 20)),
 D 22 (.bin .add (T 15) (T 21)),
 Mv 4 22])))
 (.region [
 D 23 (.bin .add (T 11) (Ki 1)),
 Mv 11 23]))))
def acX:AFn:=⟨(.seq (.region [
 D 2 (.box true (T 0)),
 D 3 (.box true (T 1)),
 D 4 (.mv (Ki 0))])
 (.seq (.seq (.region [
 D 7 (.load (some 258) (T 2)),
 D 8 (.call 66 [(T 7)]),
 D 9 (.un .not (T 8))])
 (.cond (T 9)
 (.seq (.region [
 D 4 (.mv (Ki 0))])
 .ret)
 .skip))
 (.seq (.seq (.region [
 D 10 (.load (some 258) (T 2)),
 D 11 (.mv (Ki 0))])
 (.block 0 (.loop [4,11,10,3] GC)))
 (.seq (.region [
 Mv 24 4,
 Mv 4 24])
 .ret)))),[.tmp 4]⟩
def acY:AFn:=⟨(.seq (.region [
 D 2 (.alloc true (List.replicate 258 (.int .u8 0)))])
 (.seq (.region [
 Mv 3 0,
 D 4 (.call 18 [(T 3)]),
 D 5 (.call 67 [(T 4)]),
 E (.store 258 (T 2) (T 5))])
 .ret)),[.cell 2 (some 258)]⟩
def acZ:AFn:=⟨(.seq (.region [
 D 2 (.mv (C (.slice none 0 0))),
 D 3 (.mv (Ki 0))])
 (.seq (.region [
 Mv 4 0,
 D 5 (.call 68 [(T 4)]),
 D 6 (.call 15 [(T 5)]),
 D 7 (.ext (T 6) 0),
 D 8 (.ext (T 6) 1),
 Mv 2 7,
 Mv 3 8])
 .ret)),[.tmp 2,.tmp 3]⟩
def ZP:AFn:=⟨(.seq (.region [
 D 2 (.mv (C (.slice none 0 0)))])
 (.seq (.region [
 D 9 (.call 72 []),
 Mv 10 0,
 D 11 (.call 71 [(T 9),(T 10)]),
 Mv 8 11,
 D 12 (.ext (T 8) 0),
 D 13 (.ext (T 8) 1),
 D 14 (.ext (T 8) 2),
 D 3 (.alloc true (List.replicate 256 (.int .u8 0)++[(.int .i64 0)])),
 E (.store 257 (T 3) (T 12)),
 Mv 4 13,
 Mv 5 14])
 (.seq (.region [
 D 16 (.load (some 257) (T 3)),
 D 17 (.call 73 [(T 16)]),
 Mv 15 17,
 D 18 (.ext (T 15) 0),
 D 19 (.ext (T 15) 1),
 Mv 6 18,
 Mv 7 19])
 (.seq (.region [
 Mv 20 4,
 Mv 21 6,
 D 22 (.append true 1 (T 20) (T 21)),
 Mv 2 22])
 .ret)))),[.tmp 2]⟩
def GD:fG:=(.seq (.region [
 D 15 (.bin .lss (T 14) (T 13))])
 (.seq (.cond (T 15)
 .skip
 (.exit 0))
 (.seq (.block 1 (.seq (.region [
 Mv 16 14,
 D 17 (.fK 1 (T 12) (T 14)),
 D 18 (.load none (T 17)),
 Mv 5 16,
 Mv 6 18])
 (.region [
 Mv 19 4,
 Mv 20 6,
 Mv 21 5,
 D 22 (.fK 1 (T 19) (T 20)),
 E (.store 1 (T 22) (T 21))])))
 (.region [
 D 23 (.bin .add (T 14) (Ki 1)),
 Mv 14 23]))))
def ac0:AFn:=⟨(.seq (.region [
 D 2 (.mv (C (.slice none 0 0)))])
 (.seq (.region [
 Mv 7 0,
 D 8 (.call 114 [(T 7)]),
 Mv 3 8])
 (.seq (.region [
 Mv 9 3,
 D 10 (.len (T 9)),
 D 11 (.l7 true 1 [(.int .i64 0)] (T 10) (T 10)),
 Mv 4 11])
 (.seq (.seq (.region [
 Mv 12 3,
 D 13 (.len (T 12)),
 D 14 (.mv (Ki 0))])
 (.block 0 (.loop [14,13,12,4] GD)))
 (.seq (.region [
 Mv 24 4,
 Mv 2 24])
 .ret))))),[.tmp 2]⟩
def GF:fG:=(.seq (.region [
 D 17 (.bin .lss (T 16) (T 15))])
 (.seq (.cond (T 17)
 .skip
 (.exit 0))
 (.seq (.block 1 (.seq (.region [
 D 18 (.fK 1 (T 14) (T 16)),
 D 19 (.load none (T 18)),
 Mv 8 19])
 (.seq (.seq (.region [
 Mv 20 8,
 D 21 (.call 129 [(T 20)]),
 D 22 (.un .not (T 21)),
 Mv 23 22,
 Gd 24 23 false (.mv (T 8)),
 Gd 25 23 false (.gO 1 258 (T 2) (T 24)),
 Gd 26 23 false (.load none (T 25)),
 Gd 27 23 false (.bin .eql (T 26) (Ki 2147483647)),
 D 28 (.pick (T 23) (Kb true) (T 27))])
 (.cond (T 28)
 (.seq (.region [
 D 29 (.load (some 258) (T 6)),
 E (.store 258 (T 4) (T 29)),
 D 5 (.mv (Ki 2))])
 .ret)
 .skip))
 (.region [
 Mv 30 8,
 D 31 (.gO 1 258 (T 2) (T 30)),
 D 32 (.load none (T 31)),
 D 33 (.bin .add (T 32) (Ki 1)),
 D 34 (.gO 1 258 (T 2) (T 30)),
 E (.store 1 (T 34) (T 33))]))))
 (.region [
 D 35 (.bin .add (T 16) (Ki 1)),
 Mv 16 35]))))
def ac1:AFn:=⟨(.seq (.region [
 D 2 (.box true (T 0)),
 D 4 (.alloc true (List.replicate 258 (.int .i64 0))),
 D 5 (.mv (Ki 0))])
 (.seq (.seq (.region [
 D 9 (.load (some 258) (T 2)),
 D 10 (.call 66 [(T 9)]),
 D 11 (.un .not (T 10))])
 (.cond (T 11)
 (.seq (.region [
 D 12 (.load (some 258) (T 2)),
 E (.store 258 (T 4) (T 12)),
 D 5 (.mv (Ki 2))])
 .ret)
 .skip))
 (.seq (.region [
 D 13 (.load (some 258) (T 2)),
 D 6 (.alloc true (List.replicate 258 (.int .i64 0))),
 E (.store 258 (T 6) (T 13))])
 (.seq (.seq (.region [
 Mv 14 1,
 D 15 (.len (T 14)),
 D 16 (.mv (Ki 0))])
 (.block 0 (.loop [2,14,15,16,6,4] GF)))
 (.seq (.region [
 D 36 (.load (some 258) (T 2)),
 E (.store 258 (T 4) (T 36)),
 D 5 (.mv (Ki 0))])
 .ret))))),[.cell 4 (some 258),.tmp 5]⟩
def GG:fG:=(.seq (.region [
 D 10 (.bin .lss (T 9) (Ki 258))])
 (.seq (.cond (T 10)
 .skip
 (.exit 0))
 (.seq (.block 1 (.seq (.region [
 Mv 11 9,
 D 12 (.idx 1 258 none (T 8) (T 9)),
 Mv 3 11,
 Mv 4 12])
 (.seq (.region [
 Mv 13 4,
 D 14 (.bin .gtr (T 13) (Ki 0))])
 (.cond (T 14)
 (.region [
 Mv 15 2,
 Mv 16 3,
 D 17 (.gV true 1 1 [(.int .i64 0)] [(0,1,(T 16))]),
 D 18 (.append true 1 (T 15) (T 17)),
 Mv 2 18])
 .skip))))
 (.region [
 D 19 (.bin .add (T 9) (Ki 1)),
 Mv 9 19]))))
def ZQ:AFn:=⟨(.seq (.region [
 D 1 (.box true (T 0)),
 D 2 (.mv (C (.slice none 0 0)))])
 (.seq (.seq (.region [
 D 5 (.load (some 258) (T 1)),
 D 6 (.call 63 [(T 5)]),
 D 7 (.un .not (T 6))])
 (.cond (T 7)
 (.seq (.region [
 D 2 (.mv (C (.slice none 0 0)))])
 .ret)
 .skip))
 (.seq (.seq (.region [
 D 8 (.load (some 258) (T 1)),
 D 9 (.mv (Ki 0))])
 (.block 0 (.loop [2,9,1,8] GG)))
 (.seq (.region [
 Mv 20 2,
 D 21 (.AQ 131 [] [(T 1)]),
 D 22 (.call 130 [(T 20),(T 21)])])
 (.seq (.region [
 Mv 23 2,
 Mv 2 23])
 .ret))))),[.tmp 2]⟩
def ac2:AFn:=⟨(.seq (.region [
 D 1 (.box true (T 0)),
 D 2 (.mv (Kb false))])
 (.seq (.region [
 D 3 (.m8 1 258 (T 1) none none none),
 D 4 (.call 133 [(T 3),(.func 134)]),
 D 5 (.un .not (T 4)),
 Mv 2 5])
 .ret)),[.tmp 2]⟩
def GH:fG:=(.seq (.region [
 D 10 (.bin .lss (T 9) (T 8))])
 (.seq (.cond (T 10)
 .skip
 (.exit 0))
 (.seq (.block 1 (.seq (.region [
 D 11 (.fK 1 (T 7) (T 9)),
 D 12 (.load none (T 11)),
 Mv 6 12])
 (.region [
 Mv 13 4,
 Mv 14 6,
 D 15 (.gO 1 258 (T 2) (T 14)),
 D 16 (.load none (T 15)),
 D 17 (.build [(.int .i64 0),(.bool false)] [(0,1,(T 16)),(1,1,(Kb true))]),
 D 18 (.gV true 2 1 [(.int .i64 0),(.bool false)] [(0,2,(T 17))]),
 D 19 (.append true 2 (T 13) (T 18)),
 Mv 4 19])))
 (.region [
 D 20 (.bin .add (T 9) (Ki 1)),
 Mv 9 20]))))
def ac3:AFn:=⟨(.seq (.region [
 D 2 (.box true (T 0)),
 D 4 (.mv (C (.slice none 0 0)))])
 (.seq (.seq (.region [
 Mv 7 1,
 D 8 (.len (T 7)),
 D 9 (.mv (Ki 0))])
 (.block 0 (.loop [4,9,8,7,2] GH)))
 (.seq (.region [
 Mv 21 4,
 Mv 4 21])
 .ret))),[.tmp 4]⟩
def Cm:fG:=(.seq (.seq (.drawn [
 Fq 28 0 (.mv (T 5)),
 Fq 29 0 (.mv (T 0)),
 Fq 30 2 (.len (T 29)),
 Fq 31 7 (.bin .lss (T 28) (T 30)),
 Fq 32 15 (.mv (T 31)),
 Gq 33 32 true 31 (.mv (T 0)),
 Gq 34 32 true 31 (.mv (T 5)),
 Gq 35 32 true 127 (.fK 2 (T 33) (T 34)),
 Gq 36 32 true 255 (.fQ 0 (T 35)),
 Gq 37 32 true 511 (.load none (T 36)),
 Gq 38 32 true 31 (.fQ 0 (T 7)),
 Gq 39 32 true 1055 (.load none (T 38)),
 Gq 40 32 true 4095 (.bin .leq (T 37) (T 39)),
 Fq 41 8191 (.pick (T 32) (T 40) (Kb false))])
 (.cond (T 41)
 .skip
 (.exit 2)))
 (.seq (.block 3 (.region [
 Mv 44 4,
 Mv 45 0,
 Mv 46 5,
 D 47 (.fK 2 (T 45) (T 46)),
 D 48 (.load (some 2) (T 47)),
 D 49 (.gV true 2 1 [(.int .i64 0),(.bool false)] [(0,2,(T 48))]),
 D 50 (.append true 2 (T 44) (T 49)),
 Mv 4 50]))
 (.region [
 Mv 42 5,
 D 43 (.bin .add (T 42) (Ki 1)),
 Mv 5 43])))
def vi:fG:=(.seq (.seq (.region [
 Mv 8 6,
 D 9 (.bin .add (T 8) (Ki 1)),
 Mv 10 1,
 D 11 (.len (T 10)),
 D 12 (.bin .lss (T 9) (T 11))])
 (.cond (T 12)
 .skip
 (.exit 0)))
 (.seq (.block 1 (.seq (.drawn [
 Fq 15 0 (.mv (T 1)),
 Fq 16 0 (.mv (T 6)),
 Fq 17 3 (.fK 2 (T 15) (T 16)),
 Fq 18 7 (.fQ 0 (T 17)),
 Fq 19 15 (.load none (T 18)),
 Fq 20 0 (.mv (T 1)),
 Fq 21 0 (.mv (T 6)),
 Fq 22 64 (.bin .add (T 21) (Ki 1)),
 Fq 23 224 (.fK 2 (T 20) (T 22)),
 Fq 24 480 (.fQ 0 (T 23)),
 Fq 25 992 (.load none (T 24)),
 Fq 26 2047 (.bin .add (T 19) (T 25)),
 Fq 27 4095 (.build [(.int .i64 0),(.bool false)] [(0,1,(T 26))]),
 Fq 7 0 (.alloc true [(.int .i64 0),(.bool false)]),
 ⟨none,none,16383,true,.store 2 (T 7) (T 27)⟩])
 (.seq (.block 2 (.loop [4,5,1,6,7,0] Cm))
 (.region [
 Mv 51 4,
 D 52 (.load (some 2) (T 7)),
 D 53 (.gV true 2 1 [(.int .i64 0),(.bool false)] [(0,2,(T 52))]),
 D 54 (.append true 2 (T 51) (T 53)),
 Mv 4 54]))))
 (.region [
 Mv 13 6,
 D 14 (.bin .add (T 13) (Ki 2)),
 Mv 6 14])))
def V5:AFn:=⟨(.seq (.region [
 D 4 (.mv (C (.slice none 0 0)))])
 (.seq (.region [
 D 5 (.mv (Ki 0))])
 (.seq (.seq (.region [
 D 6 (.mv (Ki 0))])
 (.block 0 (.loop [4,5,1,6,0] vi)))
 (.seq (.region [
 Mv 55 4,
 Mv 56 0,
 Mv 57 5,
 D 58 (.slice 2 (T 56) (some (T 57)) none none),
 D 59 (.append true 2 (T 55) (T 58)),
 Mv 4 59])
 .ret)))),[.tmp 4]⟩
def GI:fG:=(.seq (.region [
 D 7 (.bin .lss (T 6) (Ki 258))])
 (.seq (.cond (T 7)
 .skip
 (.exit 0))
 (.seq (.block 1 (.seq (.region [
 D 8 (.idx 1 258 none (T 5) (T 6)),
 Mv 4 8])
 (.seq (.region [
 Mv 9 4,
 D 10 (.bin .lss (T 9) (Ki 0)),
 Mv 11 10,
 Gd 12 11 false (.mv (T 4)),
 Gd 13 11 false (.bin .gtr (T 12) (Ki 2147483647)),
 D 14 (.pick (T 11) (Kb true) (T 13))])
 (.cond (T 14)
 (.seq (.region [
 D 2 (.mv (Kb false))])
 .ret)
 .skip))))
 (.region [
 D 15 (.bin .add (T 6) (Ki 1)),
 Mv 6 15]))))
def ZR:AFn:=⟨(.seq (.region [
 D 1 (.box true (T 0)),
 D 2 (.mv (Kb false))])
 (.seq (.seq (.region [
 D 5 (.load (some 258) (T 1)),
 D 6 (.mv (Ki 0))])
 (.block 0 (.loop [5,6] GI)))
 (.seq (.region [
 D 2 (.mv (Kb true))])
 .ret))),[.tmp 2]⟩
def ac4:AFn:=⟨(.seq (.region [
 D 2 (.alloc true (List.replicate 258 (.int .u8 0)))])
 (.seq (.region [
 Mv 8 0,
 D 9 (.call 19 [(T 8)]),
 Mv 7 9,
 D 10 (.ext (T 7) 0),
 D 11 (.ext (T 7) 1),
 D 3 (.alloc true (List.replicate 258 (.int .i64 0))),
 E (.store 258 (T 3) (T 10)),
 Mv 4 11])
 (.seq (.region [
 D 13 (.load (some 258) (T 3)),
 D 14 (.call 20 [(T 13),(Ki 15)]),
 Mv 12 14,
 D 15 (.ext (T 12) 0),
 D 16 (.ext (T 12) 1),
 D 5 (.alloc true (List.replicate 258 (.int .u8 0))),
 E (.store 258 (T 5) (T 15)),
 Mv 6 16])
 (.seq (.region [
 D 17 (.load (some 258) (T 5)),
 E (.store 258 (T 2) (T 17))])
 .ret)))),[.cell 2 (some 258)]⟩
def ac6:AFn:=⟨(.seq (.region [
 D 2 (.mv (C (.slice none 0 0)))])
 (.seq (.region [
 Mv 3 0,
 D 4 (.call 118 [(T 3)]),
 Mv 0 4])
 (.seq (.region [
 Mv 5 0,
 D 6 (.call 135 [(T 5)])])
 (.seq (.region [
 Mv 7 0,
 Mv 2 7])
 .ret)))),[.tmp 2]⟩
def rC:fG:=(.seq (.region [
 D 28 (.bin .lss (T 27) (T 26))])
 (.seq (.cond (T 28)
 .skip
 (.exit 0))
 (.seq (.block 1 (.seq (.region [
 D 29 (.fK 1 (T 25) (T 27)),
 D 30 (.load none (T 29)),
 Mv 10 30])
 (.seq (.seq (.region [
 D 32 (.fQ 0 (T 2)),
 D 33 (.load (some 256) (T 32)),
 Mv 34 10,
 D 35 (.call 140 [(T 33),(T 34)]),
 Mv 31 35,
 D 36 (.ext (T 31) 0),
 D 37 (.ext (T 31) 1),
 D 38 (.fQ 0 (T 2)),
 E (.store 256 (T 38) (T 36)),
 Mv 8 37])
 (.seq (.region [
 Mv 39 8,
 D 40 (.bin .eql (T 39) (Ki 0))])
 (.cond (T 40)
 (.seq (.region [
 D 41 (.fQ 256 (T 2)),
 D 42 (.load none (T 41)),
 D 43 (.bin .add (T 42) (Ki 1)),
 D 44 (.fQ 256 (T 2)),
 E (.store 1 (T 44) (T 43))])
 (.exit 1))
 .skip)))
 (.seq (.region [
 D 46 (.fQ 256 (T 2)),
 D 47 (.load none (T 46)),
 D 48 (.call 141 [(T 47)]),
 Mv 45 48,
 D 49 (.ext (T 45) 0),
 D 50 (.ext (T 45) 1),
 Mv 11 49,
 Mv 12 50])
 (.seq (.region [
 Mv 51 7,
 Mv 52 11,
 D 53 (.append true 1 (T 51) (T 52)),
 Mv 54 8,
 D 55 (.bin .add (T 54) (Ki 1)),
 D 56 (.gV true 1 1 [(.int .i64 0)] [(0,1,(T 55))]),
 D 57 (.append true 1 (T 53) (T 56)),
 Mv 7 57])
 (.region [
 D 58 (.fQ 256 (T 2)),
 E (.store 1 (T 58) (Ki 0))]))))))
 (.region [
 D 59 (.bin .add (T 27) (Ki 1)),
 Mv 27 59]))))
def ZS:AFn:=⟨(.seq (.region [
 D 2 (.box true (T 0)),
 D 4 (.alloc true (List.replicate 256 (.int .u8 0)++[(.int .i64 0)])),
 D 5 (.mv (C (.slice none 0 0))),
 D 6 (.mv (Ki 0))])
 (.seq (.seq (.region [
 D 13 (.load (some 257) (T 2)),
 D 14 (.call 139 [(T 13)]),
 D 15 (.un .not (T 14)),
 Mv 16 15,
 Gd 17 16 false (.mv (T 1)),
 Gd 18 16 false (.len (T 17)),
 Gd 19 16 false (.fQ 256 (T 2)),
 Gd 20 16 false (.load none (T 19)),
 Gd 21 16 false (.bin .sub (Ki 2147483647) (T 20)),
 Gd 22 16 false (.bin .gtr (T 18) (T 21)),
 D 23 (.pick (T 16) (Kb true) (T 22))])
 (.cond (T 23)
 (.seq (.region [
 D 24 (.load (some 257) (T 2)),
 E (.store 257 (T 4) (T 24)),
 D 5 (.mv (C (.slice none 0 0))),
 D 6 (.mv (Ki 2))])
 .ret)
 .skip))
 (.seq (.region [
 D 7 (.mv (C (.slice none 0 0)))])
 (.seq (.region [
 D 8 (.mv (Ki 0))])
 (.seq (.seq (.region [
 Mv 25 1,
 D 26 (.len (T 25)),
 D 27 (.mv (Ki 0))])
 (.block 0 (.loop [27,26,4,25,7,2] rC)))
 (.seq (.region [
 D 60 (.load (some 257) (T 2)),
 Mv 61 7,
 E (.store 257 (T 4) (T 60)),
 Mv 5 61,
 D 6 (.mv (Ki 0))])
 .ret)))))),[.cell 4 (some 257),.tmp 5,.tmp 6]⟩
def ac7:AFn:=⟨(.seq (.region [
 D 0 (.alloc true (List.replicate 256 (.int .u8 0)++[(.int .i64 0)]))])
 (.seq (.region [
 D 1 (.call 136 []),
 D 2 (.build (List.replicate 256 (.int .u8 0)++[(.int .i64 0)]) [(0,256,(T 1))]),
 E (.store 257 (T 0) (T 2))])
 .ret)),[.cell 0 (some 257)]⟩
def ZT:AFn:=⟨(.seq (.region [
 D 1 (.box true (T 0)),
 D 2 (.mv (C (.slice none 0 0))),
 D 3 (.mv (Ki 0))])
 (.seq (.seq (.region [
 D 6 (.load (some 257) (T 1)),
 D 7 (.call 139 [(T 6)]),
 D 8 (.un .not (T 7))])
 (.cond (T 8)
 (.seq (.region [
 D 2 (.mv (C (.slice none 0 0))),
 D 3 (.mv (Ki 2))])
 .ret)
 .skip))
 (.seq (.region [
 D 10 (.fQ 256 (T 1)),
 D 11 (.load none (T 10)),
 D 12 (.call 141 [(T 11)]),
 Mv 9 12,
 D 13 (.ext (T 9) 0),
 D 14 (.ext (T 9) 1),
 Mv 4 13,
 Mv 5 14])
 (.seq (.region [
 Mv 15 4,
 D 16 (.gV true 1 1 [(.int .i64 0)] [(0,1,(Ki 257))]),
 D 17 (.append true 1 (T 15) (T 16)),
 Mv 2 17,
 D 3 (.mv (Ki 0))])
 .ret)))),[.tmp 2,.tmp 3]⟩
def zX:fG:=(.seq (.region [
 D 43 (.bin .lss (T 42) (T 41))])
 (.seq (.cond (T 43)
 .skip
 (.exit 4))
 (.seq (.block 5 (.seq (.region [
 Mv 44 42,
 Mv 9 44])
 (.seq (.region [
 Mv 45 3,
 Mv 46 9,
 Mv 47 6,
 Mv 48 9,
 D 49 (.fK 1 (T 47) (T 48)),
 D 50 (.load none (T 49)),
 D 51 (.build [(.int .i64 0),(.int .i64 0)] [(0,1,(T 50)),(1,1,(Ki (-1)))]),
 D 52 (.fK 2 (T 45) (T 46)),
 E (.store 2 (T 52) (T 51))])
 (.seq (.region [
 Mv 53 9,
 Mv 54 8,
 D 55 (.bin .add (T 53) (T 54)),
 Mv 56 3,
 D 57 (.len (T 56)),
 D 58 (.bin .lss (T 55) (T 57))])
 (.cond (T 58)
 (.region [
 Mv 59 3,
 Mv 60 9,
 Mv 61 6,
 Mv 62 9,
 Mv 63 8,
 D 64 (.bin .add (T 62) (T 63)),
 D 65 (.fK 1 (T 61) (T 64)),
 D 66 (.load none (T 65)),
 D 67 (.fK 2 (T 59) (T 60)),
 D 68 (.fQ 1 (T 67)),
 E (.store 1 (T 68) (T 66))])
 .skip)))))
 (.region [
 D 69 (.bin .add (T 42) (Ki 1)),
 Mv 42 69]))))
def rD:fG:=(.seq (.seq (.region [
 Mv 34 7,
 Mv 35 3,
 D 36 (.len (T 35)),
 D 37 (.bin .lss (T 34) (T 36))])
 (.cond (T 37)
 .skip
 (.exit 2)))
 (.seq (.block 3 (.seq (.seq (.region [
 Mv 40 3,
 D 41 (.len (T 40)),
 D 42 (.mv (Ki 0))])
 (.block 4 (.loop [42,41,3,6,8] zX)))
 (.region [
 Mv 71 3,
 D 72 (.call 173 [(T 71)]),
 Mv 70 72,
 D 73 (.ext (T 70) 0),
 D 74 (.ext (T 70) 1),
 Mv 6 73,
 Mv 7 74])))
 (.region [
 Mv 38 8,
 D 39 (.bin .shl (T 38) (C (.int .u64 1))),
 Mv 8 39])))
def zY:fG:=(.seq (.region [
 D 17 (.bin .lss (T 16) (T 15))])
 (.seq (.cond (T 17)
 .skip
 (.exit 0))
 (.seq (.block 1 (.seq (.region [
 Mv 18 16,
 D 19 (.fK 1 (T 14) (T 16)),
 D 20 (.load none (T 19)),
 Mv 4 18,
 Mv 5 20])
 (.region [
 Mv 21 3,
 Mv 22 4,
 Mv 23 5,
 D 24 (.conv .i64 (T 23)),
 D 25 (.bin .add (Ki 1) (T 24)),
 D 26 (.fK 2 (T 21) (T 22)),
 D 27 (.fQ 0 (T 26)),
 E (.store 1 (T 27) (T 25))])))
 (.region [
 D 28 (.bin .add (T 16) (Ki 1)),
 Mv 16 28]))))
def J7:AFn:=⟨(.seq (.region [
 D 2 (.mv (C (.slice none 0 0)))])
 (.seq (.region [
 Mv 10 0,
 D 11 (.len (T 10)),
 D 12 (.bin .add (T 11) (Ki 1)),
 D 13 (.l7 true 2 [(.int .i64 0),(.int .i64 0)] (T 12) (T 12)),
 Mv 3 13])
 (.seq (.seq (.region [
 Mv 14 0,
 D 15 (.len (T 14)),
 D 16 (.mv (Ki 0))])
 (.block 0 (.loop [16,15,14,3] zY)))
 (.seq (.region [
 Mv 30 3,
 D 31 (.call 173 [(T 30)]),
 Mv 29 31,
 D 32 (.ext (T 29) 0),
 D 33 (.ext (T 29) 1),
 Mv 6 32,
 Mv 7 33])
 (.seq (.seq (.region [
 D 8 (.mv (Ki 1))])
 (.block 2 (.loop [7,3,6,8] rD)))
 (.seq (.region [
 Mv 75 6,
 Mv 2 75])
 .ret)))))),[.tmp 2]⟩
def Pj:AFn:=⟨(.seq (.region [
 D 3 (.box true (T 1)),
 D 4 (.mv (Kb false))])
 (.seq (.drawn [
 Fq 5 0 (.mv (T 0)),
 Fq 6 1 (.eqs true .ptr (T 5) (C (.pointer none))),
 Fq 7 3 (.mv (T 6)),
 Gq 8 7 true 7 (.fQ 0 (T 3)),
 ⟨(some 9),(some (7,true)),15,true,.load none (T 8)⟩,
 Gq 10 7 true 31 (.bin .geq (T 9) (Ki 0)),
 Fq 11 63 (.pick (T 7) (T 10) (Kb false)),
 Fq 12 127 (.mv (T 11)),
 Gq 13 12 true 255 (.fQ 1 (T 3)),
 ⟨(some 14),(some (12,true)),511,true,.load none (T 13)⟩,
 Gq 15 12 true 1023 (.bin .geq (T 14) (Ki 0)),
 Fq 16 2047 (.pick (T 12) (T 15) (Kb false)),
 Fq 17 4095 (.mv (T 16)),
 Gq 18 17 true 8191 (.fQ 0 (T 3)),
 Gq 19 17 true 16383 (.load none (T 18)),
 Gq 20 17 true 8191 (.mv (T 0)),
 Gq 21 17 true 40959 (.kK (T 20)),
 Gq 22 17 true 106495 (.fQ 1 (T 21)),
 Gq 23 17 true 237567 (.load none (T 22)),
 Gq 24 17 true 524287 (.bin .leq (T 19) (T 23)),
 Fq 25 1048575 (.pick (T 17) (T 24) (Kb false)),
 Fq 26 2097151 (.mv (T 25)),
 Gq 27 26 true 4194303 (.fQ 1 (T 3)),
 Gq 28 26 true 8388607 (.load none (T 27)),
 Gq 29 26 true 4194303 (.mv (T 0)),
 Gq 30 26 true 20971519 (.kK (T 29)),
 Gq 31 26 true 54525951 (.fQ 1 (T 30)),
 Gq 32 26 true 121634815 (.load none (T 31)),
 Gq 33 26 true 4194303 (.fQ 0 (T 3)),
 Gq 34 26 true 272629759 (.load none (T 33)),
 Gq 35 26 true 1061158911 (.bin .sub (T 32) (T 34)),
 Gq 36 26 true 2147483647 (.bin .leq (T 28) (T 35)),
 Fq 37 4294967295 (.pick (T 26) (T 36) (Kb false)),
 Fq 4 8589934591 (.mv (T 37))])
 .ret)),[.tmp 4]⟩
def V6:AFn:=⟨(.seq (.region [
 D 2 (.mv (C (.slice none 0 0)))])
 (.seq (.seq (.region [
 Mv 3 0,
 D 4 (.eqs false .slice (T 3) (C (.slice none 0 0)))])
 (.cond (T 4)
 (.seq (.region [
 D 2 (.mv (C (.slice none 0 0)))])
 .ret)
 .skip))
 (.seq (.region [
 D 5 (.gV true 1 0 [] []),
 Mv 6 0,
 D 7 (.append true 1 (T 5) (T 6)),
 Mv 2 7])
 .ret))),[.tmp 2]⟩
def J8:AFn:=⟨(.seq (.region [
 D 4 (.box true (T 1)),
 D 6 (.mv (C (.int .u8 0))),
 D 7 (.mv (Kb false))])
 (.seq (.region [
 Mv 9 0,
 D 10 (.load (some 2) (T 4)),
 Mv 11 2,
 D 12 (.call 180 [(T 9),(T 10),(T 11),(Ki 1)]),
 Mv 8 12])
 (.seq (.seq (.region [
 Mv 13 8,
 D 14 (.eqs false .slice (T 13) (C (.slice none 0 0)))])
 (.cond (T 14)
 (.seq (.region [
 D 6 (.mv (C (.int .u8 0))),
 D 7 (.mv (Kb false))])
 .ret)
 .skip))
 (.seq (.region [
 Mv 15 8,
 D 16 (.fK 1 (T 15) (Ki 0)),
 D 17 (.load none (T 16)),
 Mv 6 17,
 D 7 (.mv (Kb true))])
 .ret)))),[.tmp 6,.tmp 7]⟩
def V7:AFn:=⟨(.seq (.region [
 D 2 (.mv (Kb false))])
 (.seq (.region [
 Mv 3 0,
 D 4 (.bin .geq (T 3) (Ki 0)),
 Mv 5 4,
 Gd 6 5 true (.mv (T 0)),
 Gd 7 5 true (.bin .lss (T 6) (Ki 258)),
 D 8 (.pick (T 5) (T 7) (Kb false)),
 Mv 2 8])
 .ret)),[.tmp 2]⟩
def V8:AFn:=⟨(.region [
 Mv 4 0,
 Mv 5 0,
 D 6 (.len (T 5)),
 Mv 7 1,
 D 8 (.call 181 [(T 4),(T 6),(T 7)])]),[]⟩
def V9:AFn:=⟨(.seq (.region [
 D 5 (.mv (Ki 0))])
 (.seq (.drawn [
 Fq 6 0 (.mv (T 0)),
 Fq 7 1 (.gO 1 258 (T 2) (T 6)),
 Fq 8 3 (.load none (T 7)),
 Fq 9 0 (.mv (T 1)),
 Fq 10 8 (.gO 1 258 (T 2) (T 9)),
 Fq 11 24 (.load none (T 10)),
 ⟨(some 12),none,63,true,.call 132 [(T 8),(T 11)]⟩,
 Fq 5 127 (.mv (T 12))])
 .ret)),[.tmp 5]⟩
def J9:AFn:=⟨(.seq (.region [
 D 4 (.mv (Ki 0))])
 (.seq (.region [
 Mv 7 0,
 D 8 (.call 182 [(T 7)]),
 Mv 5 8])
 (.seq (.region [
 Mv 9 1,
 D 10 (.call 182 [(T 9)]),
 Mv 6 10])
 (.seq (.seq (.region [
 Mv 11 5])
 (.cond (T 11)
 (.seq (.seq (.region [
 Mv 12 6])
 (.cond (T 12)
 (.seq (.region [
 D 4 (.mv (Ki 0))])
 .ret)
 .skip))
 (.seq (.region [
 D 4 (.mv (Ki (-1)))])
 .ret))
 .skip))
 (.seq (.seq (.region [
 Mv 13 6])
 (.cond (T 13)
 (.seq (.region [
 D 4 (.mv (Ki 1))])
 .ret)
 .skip))
 (.seq (.seq (.region [
 Mv 14 0,
 Mv 15 1,
 D 16 (.bin .lss (T 14) (T 15))])
 (.cond (T 16)
 (.seq (.region [
 D 4 (.mv (Ki (-1)))])
 .ret)
 .skip))
 (.seq (.seq (.region [
 Mv 17 0,
 Mv 18 1,
 D 19 (.bin .gtr (T 17) (T 18))])
 (.cond (T 19)
 (.seq (.region [
 D 4 (.mv (Ki 1))])
 .ret)
 .skip))
 (.seq (.region [
 D 4 (.mv (Ki 0))])
 .ret)))))))),[.tmp 4]⟩
def Wa:AFn:=⟨(.seq (.region [
 D 4 (.mv (Kb false))])
 (.seq (.region [
 Mv 5 0,
 Mv 6 1,
 D 7 (.call 183 [(T 5),(T 6)]),
 D 8 (.bin .geq (T 7) (Ki 0)),
 Mv 4 8])
 .ret)),[.tmp 4]⟩
def Pk:AFn:=⟨(.seq (.region [
 D 2 (.mv (Kb false))])
 (.seq (.region [
 Mv 3 0,
 D 4 (.bin .lss (T 3) (Ki 0)),
 Mv 5 4,
 Gd 6 5 false (.mv (T 0)),
 Gd 7 5 false (.bin .gtr (T 6) (Ki 2147483647)),
 D 8 (.pick (T 5) (Kb true) (T 7)),
 Mv 2 8])
 .ret)),[.tmp 2]⟩
def zZ:fG:=(.seq (.seq (.region [
 Mv 7 2,
 Mv 8 3,
 D 9 (.bin .lss (T 7) (T 8))])
 (.cond (T 9)
 .skip
 (.exit 0)))
 (.seq (.block 1 (.drawn [
 Fq 14 0 (.mv (T 0)),
 Fq 15 0 (.mv (T 2)),
 Fq 16 0 (.mv (T 0)),
 Fq 17 0 (.mv (T 3)),
 Fq 18 0 (.mv (T 0)),
 Fq 19 0 (.mv (T 3)),
 Fq 20 48 (.fK 1 (T 18) (T 19)),
 Fq 21 112 (.load none (T 20)),
 Fq 22 0 (.mv (T 0)),
 Fq 23 0 (.mv (T 2)),
 Fq 24 768 (.fK 1 (T 22) (T 23)),
 Fq 25 1792 (.load none (T 24)),
 Fq 26 4083 (.fK 1 (T 14) (T 15)),
 ⟨none,none,8179,true,.store 1 (T 26) (T 21)⟩,
 Fq 27 16383 (.fK 1 (T 16) (T 17)),
 ⟨none,none,32767,true,.store 1 (T 27) (T 25)⟩]))
 (.region [
 Mv 10 2,
 D 11 (.bin .add (T 10) (Ki 1)),
 Mv 12 3,
 D 13 (.bin .sub (T 12) (Ki 1)),
 Mv 2 11,
 Mv 3 13])))
def Wc:AFn:=⟨(.seq (.region [
 Mv 4 0,
 D 5 (.len (T 4)),
 D 6 (.bin .sub (T 5) (Ki 1)),
 D 2 (.mv (Ki 0)),
 Mv 3 6])
 (.block 0 (.loop [2,3,0] zZ))),[]⟩
def z6:fG:=(.seq (.region [
 D 3 (.bin .lss (T 2) (Ki 256))])
 (.seq (.cond (T 3)
 .skip
 (.exit 0))
 (.seq (.block 1 (.seq (.region [
 Mv 4 2,
 Mv 1 4])
 (.region [
 Mv 5 1,
 Mv 6 1,
 D 7 (.conv .u8 (T 6)),
 D 8 (.gO 1 256 (T 0) (T 5)),
 E (.store 1 (T 8) (T 7))])))
 (.region [
 D 9 (.bin .add (T 2) (Ki 1)),
 Mv 2 9]))))
def Wd:AFn:=⟨(.seq (.region [
 D 0 (.alloc true (List.replicate 256 (.int .u8 0)))])
 (.seq (.seq (.region [
 D 2 (.mv (Ki 0))])
 (.block 0 (.loop [2,0] z6)))
 (.seq (.region [
 D 10 (.load (some 256) (T 0)),
 E (.store 256 (T 0) (T 10))])
 .ret))),[.cell 0 (some 256)]⟩
def Pm:AFn:=⟨(.seq (.region [
 D 1 (.box true (T 0)),
 D 2 (.mv (Kb false))])
 (.seq (.drawn [
 Fq 3 0 (.load (some 257) (T 1)),
 Fq 4 0 (.call 72 []),
 Fq 5 3 (.eqs false (.agg (List.replicate 257 .nu)) (T 3) (T 4)),
 Fq 6 7 (.mv (T 5)),
 Gq 7 6 false 15 (.fQ 256 (T 1)),
 ⟨(some 8),(some (6,false)),31,true,.load none (T 7)⟩,
 Gq 9 6 false 63 (.bin .geq (T 8) (Ki 0)),
 Gq 10 6 false 127 (.mv (T 9)),
 Gq 11 10 true 255 (.fQ 256 (T 1)),
 ⟨(some 12),(some (10,true)),511,true,.load none (T 11)⟩,
 Gq 13 10 true 1023 (.bin .leq (T 12) (Ki 2147483647)),
 Gq 14 6 false 2047 (.pick (T 10) (T 13) (Kb false)),
 Gq 15 6 false 4095 (.mv (T 14)),
 Gq 16 15 true 8191 (.fQ 0 (T 1)),
 ⟨(some 17),(some (15,true)),16383,true,.load (some 256) (T 16)⟩,
 ⟨(some 18),(some (15,true)),32767,true,.call 184 [(T 17)]⟩,
 Gq 19 6 false 65535 (.pick (T 15) (T 18) (Kb false)),
 Fq 20 131071 (.pick (T 6) (Kb true) (T 19)),
 Fq 2 262143 (.mv (T 20))])
 .ret)),[.tmp 2]⟩
def We:AFn:=⟨(.seq (.region [
 D 2 (.box true (T 0)),
 D 4 (.alloc true (List.replicate 256 (.int .u8 0))),
 D 5 (.mv (Ki 0))])
 (.seq (.region [
 D 6 (.m8 1 256 (T 2) none none none),
 Mv 7 1,
 D 8 (.call 188 [(T 6),(T 7)]),
 Mv 5 8])
 (.seq (.region [
 D 10 (.load (some 256) (T 2)),
 Mv 11 5,
 D 12 (.call 187 [(T 10),(T 11)]),
 Mv 9 12,
 D 13 (.ext (T 9) 0),
 D 14 (.ext (T 9) 1),
 D 15 (.ext (T 9) 2),
 E (.store 256 (T 4) (T 13))])
 (.seq (.region [
 D 16 (.load (some 256) (T 4)),
 Mv 17 5,
 E (.store 256 (T 4) (T 16)),
 Mv 5 17])
 .ret)))),[.cell 4 (some 256),.tmp 5]⟩
def z7:fG:=(.seq (.seq (.region [
 D 3 (.load none (T 1)),
 D 4 (.bin .gtr (T 3) (Ki 0))])
 (.cond (T 4)
 .skip
 (.exit 0)))
 (.seq (.block 1 (.seq (.region [
 Mv 8 0,
 D 9 (.load none (T 1)),
 D 10 (.bin .sub (T 9) (Ki 1)),
 D 11 (.bin .and (T 10) (Ki 1)),
 D 12 (.iP (T 8) [(T 11)]),
 D 13 (.un .not (T 12))])
 (.cond (T 13)
 .ret
 .skip)))
 (.region [
 D 5 (.load none (T 1)),
 D 6 (.bin .sub (T 5) (Ki 1)),
 D 7 (.bin .shr (T 6) (C (.int .u64 1))),
 E (.store 1 (T 1) (T 7))])))
def Wf:AFn:=⟨(.seq (.region [
 D 2 (.alloc false [(.slice none 0 0)]),
 D 3 (.mv (Ki 0))])
 (.seq (.seq (.region [
 Mv 5 0,
 D 6 (.bin .lss (T 5) (Ki 0)),
 Mv 7 6,
 Gd 8 7 false (.mv (T 0)),
 Gd 9 7 false (.bin .gtr (T 8) (Ki 2147483647)),
 D 10 (.pick (T 7) (Kb true) (T 9))])
 (.cond (T 10)
 (.seq (.region [
 E (.store 1 (T 2) (C (.slice none 0 0))),
 D 3 (.mv (Ki 2))])
 .ret)
 .skip))
 (.seq (.seq (.region [
 Mv 11 0,
 D 12 (.call 189 [(T 11)])])
 (.block 0 (.each (T 12) 232
 (.block 0 (.loop [1,0] z7))
 [13]
 (.region [
 Mv 4 13])
 (.block 1 (.region [
 D 14 (.load none (T 2)),
 Mv 15 4,
 D 16 (.gV true 1 1 [(.int .i64 0)] [(0,1,(T 15))]),
 D 17 (.append true 1 (T 14) (T 16)),
 E (.store 1 (T 2) (T 17))])))))
 (.seq (.region [
 D 18 (.load none (T 2)),
 E (.store 1 (T 2) (T 18)),
 D 3 (.mv (Ki 0))])
 .ret)))),[.cell 2 none,.tmp 3]⟩
def Cn:AFn:=⟨(.seq (.region [
 D 2 (.box true (T 0)),
 D 4 (.alloc true (List.replicate 258 (.int .u8 0)++[(.int .i64 0),(.int .i64 0),(.int .i64 0),(.int .i64 0)])),
 D 5 (.mv (Kb false)),
 D 6 (.mv (Ki 0))])
 (.seq (.seq (.region [
 D 8 (.load (some 262) (T 2)),
 D 9 (.call 204 [(T 8)]),
 D 10 (.un .not (T 9)),
 Mv 11 10,
 Gd 12 11 false (.fQ 258 (T 2)),
 Gd 13 11 false (.load none (T 12)),
 Gd 14 11 false (.bin .eql (T 13) (Ki 258)),
 D 15 (.pick (T 11) (Kb true) (T 14)),
 Mv 16 15,
 Gd 17 16 false (.mv (T 1)),
 Gd 18 16 false (.bin .shr (T 17) (C (.int .u64 1))),
 Gd 19 16 false (.bin .neq (T 18) (Ki 0)),
 D 20 (.pick (T 16) (Kb true) (T 19))])
 (.cond (T 20)
 (.seq (.region [
 D 21 (.load (some 262) (T 4)),
 E (.store 262 (T 4) (T 21)),
 D 5 (.mv (Kb false)),
 D 6 (.mv (Ki 2))])
 .ret)
 .skip))
 (.seq (.region [
 D 23 (.load (some 262) (T 2)),
 Mv 24 1,
 D 25 (.call 205 [(T 23),(T 24)]),
 Mv 22 25,
 D 26 (.ext (T 22) 0),
 D 27 (.ext (T 22) 1),
 E (.store 262 (T 2) (T 26)),
 Mv 7 27])
 (.seq (.seq (.region [
 Mv 28 7,
 D 29 (.un .not (T 28))])
 (.cond (T 29)
 (.seq (.region [
 D 30 (.load (some 262) (T 4)),
 E (.store 262 (T 4) (T 30)),
 D 5 (.mv (Kb false)),
 D 6 (.mv (Ki 100))])
 .ret)
 .skip))
 (.seq (.sv [] false [
 Fq 31 0 (.load (some 262) (T 2)),
 Fq 32 0 (.fQ 258 (T 2)),
 Fq 33 0 (.load none (T 32)),
 Fq 34 0 (.bin .eql (T 33) (Ki 258)),
 ⟨none,none,0,false,.store 262 (T 4) (T 31)⟩,
 Fq 5 0 (.mv (T 34)),
 Fq 6 0 (.mv (Ki 0))])
 .ret))))),[.cell 4 (some 262),.tmp 5,.tmp 6]⟩
def ZU:fG:=(.seq (.region [
 D 3 (.bin .lss (T 2) (Ki 256))])
 (.seq (.cond (T 3)
 .skip
 (.exit 0))
 (.seq (.block 1 (.seq (.region [
 Mv 4 2,
 Mv 1 4])
 (.region [
 Mv 5 1,
 Mv 6 1,
 D 7 (.conv .u8 (T 6)),
 D 8 (.call 210 [(T 7)]),
 D 9 (.gO 1 256 (T 0) (T 5)),
 E (.store 1 (T 9) (T 8))])))
 (.region [
 D 10 (.bin .add (T 2) (Ki 1)),
 Mv 2 10]))))
def abS:AFn:=⟨(.seq (.region [
 D 0 (.alloc true (List.replicate 256 (.int .u32 0)))])
 (.seq (.seq (.region [
 D 2 (.mv (Ki 0))])
 (.block 0 (.loop [2,0] ZU)))
 (.seq (.region [
 D 11 (.load (some 256) (T 0)),
 E (.store 256 (T 0) (T 11))])
 .ret))),[.cell 0 (some 256)]⟩
def z8:fG:=(.seq (.region [
 D 39 (.bin .lss (T 38) (T 37))])
 (.seq (.cond (T 39)
 .skip
 (.exit 2))
 (.seq (.block 3 (.seq (.region [
 D 40 (.fK 2 (T 36) (T 38)),
 D 41 (.load (some 2) (T 40)),
 D 11 (.alloc true [(.int .i64 0),(.int .i64 0)]),
 E (.store 2 (T 11) (T 41))])
 (.region [
 Mv 42 2,
 Mv 43 5,
 D 44 (.load (some 2) (T 11)),
 D 45 (.AR true [.nu,.nu] (.int .i64 0) false (T 43) (T 44)),
 D 46 (.gV true 1 1 [(.int .i64 0)] [(0,1,(T 45))]),
 D 47 (.append true 1 (T 42) (T 46)),
 Mv 2 47])))
 (.region [
 D 48 (.bin .add (T 38) (Ki 1)),
 Mv 38 48]))))
def z9:fG:=(.seq (.region [
 D 20 (.bin .lss (T 19) (T 18))])
 (.seq (.cond (T 20)
 .skip
 (.exit 0))
 (.seq (.block 1 (.seq (.region [
 D 21 (.fK 2 (T 17) (T 19)),
 D 22 (.load (some 2) (T 21)),
 D 7 (.alloc true [(.int .i64 0),(.int .i64 0)]),
 E (.store 2 (T 7) (T 22))])
 (.seq (.region [
 Mv 24 5,
 D 25 (.load (some 2) (T 7)),
 D 26 (.AR true [.nu,.nu] (.int .i64 0) true (T 24) (T 25)),
 Mv 23 26,
 D 27 (.ext (T 23) 0),
 D 28 (.ext (T 23) 1),
 Mv 8 27,
 Mv 9 28])
 (.seq (.region [
 Mv 29 9,
 D 30 (.un .not (T 29))])
 (.cond (T 30)
 (.region [
 Mv 31 5,
 D 32 (.load (some 2) (T 7)),
 Mv 33 5,
 D 34 (.AS (T 33)),
 E (.jN true [.nu,.nu] (T 31) (T 32) (T 34))])
 .skip)))))
 (.region [
 D 35 (.bin .add (T 19) (Ki 1)),
 Mv 19 35]))))
def Pn:AFn:=⟨(.seq (.region [
 D 2 (.mv (C (.slice none 0 0))),
 D 3 (.mv (Ki 0))])
 (.seq (.region [
 Mv 12 0,
 D 13 (.call 221 [(T 12)]),
 Mv 4 13])
 (.seq (.region [
 Mv 14 4,
 D 15 (.call 222 [(T 14),(.func 223)])])
 (.seq (.region [
 D 16 (.nI),
 Mv 5 16])
 (.seq (.seq (.region [
 Mv 17 4,
 D 18 (.len (T 17)),
 D 19 (.mv (Ki 0))])
 (.block 0 (.loop [19,18,2,0,17,5] z9)))
 (.seq (.seq (.region [
 Mv 36 0,
 D 37 (.len (T 36)),
 D 38 (.mv (Ki 0))])
 (.block 2 (.loop [2,38,37,36,5] z8)))
 (.seq (.region [
 Mv 49 2,
 Mv 50 5,
 D 51 (.AS (T 50)),
 Mv 2 49,
 Mv 3 51])
 .ret))))))),[.tmp 2,.tmp 3]⟩
def rE:fG:=(.seq (.region [
 D 18 (.bin .lss (T 17) (T 16))])
 (.seq (.cond (T 18)
 .skip
 (.exit 0))
 (.seq (.block 1 (.seq (.region [
 Mv 19 17,
 D 20 (.fK 1 (T 15) (T 17)),
 D 21 (.load none (T 20)),
 Mv 9 19,
 Mv 10 21])
 (.region [
 Mv 22 6,
 Mv 23 10,
 D 24 (.conv .u32 (T 23)),
 Mv 25 9,
 D 26 (.bin .mul (Ki 8) (T 25)),
 D 27 (.bin .shl (T 24) (T 26)),
 D 28 (.bin .or (T 22) (T 27)),
 Mv 6 28])))
 (.region [
 D 29 (.bin .add (T 17) (Ki 1)),
 Mv 17 29]))))
def Po:AFn:=⟨(.seq (.region [
 D 4 (.box true (T 1)),
 D 6 (.mv (C (.int .u32 0))),
 D 7 (.mv (Kb false))])
 (.seq (.region [
 Mv 11 0,
 D 12 (.load (some 2) (T 4)),
 Mv 13 2,
 D 14 (.call 226 [(T 11),(T 12),(T 13)]),
 Mv 8 14])
 (.seq (.seq (.region [
 Mv 15 8,
 D 16 (.len (T 15)),
 D 17 (.mv (Ki 0))])
 (.block 0 (.loop [6,17,16,8,15] rE)))
 (.seq (.region [
 Mv 30 6,
 Mv 31 8,
 D 32 (.eqs true .slice (T 31) (C (.slice none 0 0))),
 Mv 6 30,
 Mv 7 32])
 .ret)))),[.tmp 6,.tmp 7]⟩
def Co:AFn:=⟨(.seq (.region [
 D 5 (.box true (T 1)),
 D 8 (.mv (C (.slice none 0 0)))])
 (.seq (.seq (.region [
 Mv 9 0,
 D 10 (.load (some 2) (T 5)),
 D 11 (.call 115 [(T 9),(T 10)]),
 D 12 (.un .not (T 11)),
 Mv 13 12,
 Gd 14 13 false (.mv (T 2)),
 Gd 15 13 false (.bin .lss (T 14) (Ki 0)),
 D 16 (.pick (T 13) (Kb true) (T 15)),
 Mv 17 16,
 Gd 18 17 false (.mv (T 2)),
 Gd 19 17 false (.fQ 1 (T 5)),
 Gd 20 17 false (.load none (T 19)),
 Gd 21 17 false (.mv (T 3)),
 Gd 22 17 false (.bin .sub (T 20) (T 21)),
 Gd 23 17 false (.bin .gtr (T 18) (T 22)),
 D 24 (.pick (T 17) (Kb true) (T 23))])
 (.cond (T 24)
 (.seq (.region [
 D 8 (.mv (C (.slice none 0 0)))])
 .ret)
 .skip))
 (.seq (.region [
 Mv 25 2,
 D 26 (.fQ 0 (T 5)),
 D 27 (.load none (T 26)),
 D 28 (.bin .add (T 25) (T 27)),
 Mv 2 28])
 (.seq (.region [
 Mv 29 0,
 D 30 (.kK (T 29)),
 D 31 (.fQ 0 (T 30)),
 D 32 (.load none (T 31)),
 Mv 33 2,
 Mv 34 2,
 Mv 35 3,
 D 36 (.bin .add (T 34) (T 35)),
 Mv 37 2,
 Mv 38 3,
 D 39 (.bin .add (T 37) (T 38)),
 D 40 (.slice 1 (T 32) (some (T 33)) (some (T 36)) (some (T 39))),
 Mv 8 40])
 .ret)))),[.tmp 8]⟩
def GJ:fG:=(.seq (.seq (.region [
 Mv 33 8,
 Mv 34 1,
 D 35 (.bin .leq (T 33) (T 34))])
 (.cond (T 35)
 .skip
 (.exit 4)))
 (.block 5 (.seq (.region [
 Mv 36 0,
 Mv 37 7,
 Mv 38 7,
 Mv 39 6,
 D 40 (.bin .add (T 38) (T 39)),
 Mv 41 8,
 Mv 42 2,
 D 43 (.call 228 [(T 36),(T 37),(T 40),(T 41),(T 42)])])
 (.seq (.region [
 Mv 44 8,
 Mv 7 44])
 (.region [
 Mv 45 8,
 Mv 46 6,
 D 47 (.bin .mul (Ki 2) (T 46)),
 D 48 (.bin .add (T 45) (T 47)),
 Mv 8 48])))))
def GK:fG:=(.seq (.seq (.region [
 Mv 28 6,
 Mv 29 1,
 D 30 (.bin .lss (T 28) (T 29))])
 (.cond (T 30)
 .skip
 (.exit 2)))
 (.block 3 (.seq (.region [
 Mv 31 6,
 D 32 (.bin .mul (Ki 2) (T 31)),
 D 7 (.mv (Ki 0)),
 Mv 8 32])
 (.seq (.block 4 (.loop [7,8,1,0,2,6] GJ))
 (.seq (.seq (.region [
 Mv 49 7,
 Mv 50 6,
 D 51 (.bin .add (T 49) (T 50)),
 Mv 9 51])
 (.seq (.region [
 Mv 52 9,
 Mv 53 1,
 D 54 (.bin .lss (T 52) (T 53))])
 (.cond (T 54)
 (.region [
 Mv 55 0,
 Mv 56 7,
 Mv 57 9,
 Mv 58 1,
 Mv 59 2,
 D 60 (.call 228 [(T 55),(T 56),(T 57),(T 58),(T 59)])])
 .skip)))
 (.region [
 Mv 61 6,
 D 62 (.bin .mul (T 61) (Ki 2)),
 Mv 6 62]))))))
def GL:fG:=(.seq (.seq (.region [
 Mv 11 8,
 Mv 12 1,
 D 13 (.bin .leq (T 11) (T 12))])
 (.cond (T 13)
 .skip
 (.exit 0)))
 (.block 1 (.seq (.region [
 Mv 14 0,
 Mv 15 7,
 Mv 16 8,
 Mv 17 2,
 D 18 (.call 227 [(T 14),(T 15),(T 16),(T 17)])])
 (.seq (.region [
 Mv 19 8,
 Mv 7 19])
 (.region [
 Mv 20 8,
 Mv 21 6,
 D 22 (.bin .add (T 20) (T 21)),
 Mv 8 22])))))
def Wg:AFn:=⟨(.seq (.region [
 D 6 (.mv (Ki 20))])
 (.seq (.region [
 Mv 10 6,
 D 7 (.mv (Ki 0)),
 Mv 8 10])
 (.seq (.block 0 (.loop [7,8,1,0,2,6] GL))
 (.seq (.region [
 Mv 23 0,
 Mv 24 7,
 Mv 25 1,
 Mv 26 2,
 D 27 (.call 227 [(T 23),(T 24),(T 25),(T 26)])])
 (.block 2 (.loop [1,0,2,6] GK)))))),[]⟩
def Wh:AFn:=⟨(.seq (.region [
 D 2 (.mv (Kb false))])
 (.seq (.region [
 Mv 3 0,
 Mv 4 0,
 D 5 (.bin .neq (T 3) (T 4)),
 Mv 2 5])
 .ret)),[.tmp 2]⟩
def Aa:fG:=(.seq (.region [
 D 9 (.bin .lss (T 8) (T 7))])
 (.seq (.cond (T 9)
 .skip
 (.exit 0))
 (.seq (.block 1 (.seq (.region [
 Mv 10 8,
 Mv 5 10])
 (.seq (.region [
 Mv 11 1,
 Mv 12 0,
 Mv 13 5,
 D 14 (.fK 1 (T 12) (T 13)),
 D 15 (.load none (T 14)),
 D 16 (.iP (T 11) [(T 15)])])
 (.cond (T 16)
 (.seq (.region [
 Mv 17 5,
 Mv 4 17])
 .ret)
 .skip))))
 (.region [
 D 18 (.bin .add (T 8) (Ki 1)),
 Mv 8 18]))))
def Wi:AFn:=⟨(.seq (.region [
 D 4 (.mv (Ki 0))])
 (.seq (.seq (.region [
 Mv 6 0,
 D 7 (.len (T 6)),
 D 8 (.mv (Ki 0))])
 (.block 0 (.loop [0,1,7,8] Aa)))
 (.seq (.region [
 D 4 (.mv (Ki (-1)))])
 .ret))),[.tmp 4]⟩
def Ab:fG:=(.seq (.region [
 D 8 (.bin .lss (T 7) (Ki 256))])
 (.seq (.cond (T 8)
 .skip
 (.exit 0))
 (.seq (.block 1 (.seq (.region [
 D 9 (.idx 1 256 none (T 6) (T 7)),
 Mv 5 9])
 (.region [
 Mv 10 5,
 D 11 (.gO 1 256 (T 3) (T 10)),
 E (.store 1 (T 11) (Ki 1))])))
 (.region [
 D 12 (.bin .add (T 7) (Ki 1)),
 Mv 7 12]))))
def Pp:AFn:=⟨(.seq (.region [
 D 1 (.box true (T 0)),
 D 2 (.mv (Kb false))])
 (.seq (.region [
 D 3 (.alloc true (List.replicate 256 (.int .i64 0)))])
 (.seq (.seq (.region [
 D 6 (.load (some 256) (T 1)),
 D 7 (.mv (Ki 0))])
 (.block 0 (.loop [7,6,3] Ab)))
 (.seq (.drawn [
 Fq 13 0 (.load (some 256) (T 3)),
 Fq 14 0 (.call 229 []),
 Fq 15 3 (.eqs false (.agg (List.replicate 256 .nu)) (T 13) (T 14)),
 Fq 2 7 (.mv (T 15))])
 .ret)))),[.tmp 2]⟩
def Ka:AFn:=⟨(.seq (.region [
 D 2 (.box true (T 0)),
 D 4 (.alloc true (List.replicate 256 (.int .u8 0))),
 D 5 (.mv (C (.int .u8 0))),
 D 6 (.mv (Kb false))])
 (.seq (.seq (.region [
 Mv 7 1,
 D 8 (.bin .lss (T 7) (Ki 0)),
 Mv 9 8,
 Gd 10 9 false (.mv (T 1)),
 Gd 11 9 false (.bin .geq (T 10) (Ki 256)),
 D 12 (.pick (T 9) (Kb true) (T 11))])
 (.cond (T 12)
 (.seq (.region [
 D 13 (.load (some 256) (T 2)),
 E (.store 256 (T 4) (T 13)),
 D 5 (.mv (C (.int .u8 0))),
 D 6 (.mv (Kb false))])
 .ret)
 .skip))
 (.seq (.drawn [
 Fq 14 0 (.load (some 256) (T 2)),
 Fq 15 0 (.mv (T 1)),
 Fq 16 2 (.gO 1 256 (T 2) (T 15)),
 Fq 17 6 (.load none (T 16)),
 ⟨none,none,15,true,.store 256 (T 4) (T 14)⟩,
 Fq 5 31 (.mv (T 17))])
 (.seq (.drawn [
 Fq 18 0 (.mv (T 1)),
 Fq 19 1 (.bin .add (T 18) (Ki 1)),
 Fq 20 3 (.m8 1 256 (T 4) (some (Ki 1)) (some (T 19)) none),
 Fq 21 0 (.mv (T 1)),
 Fq 22 8 (.m8 1 256 (T 2) none (some (T 21)) none),
 ⟨(some 23),none,31,true,.copy 1 (T 20) (T 22)⟩])
 (.seq (.region [
 Mv 24 5,
 D 25 (.gO 1 256 (T 4) (Ki 0)),
 E (.store 1 (T 25) (T 24))])
 (.seq (.region [
 D 26 (.load (some 256) (T 4)),
 Mv 27 5,
 E (.store 256 (T 4) (T 26)),
 Mv 5 27,
 D 6 (.mv (Kb true))])
 .ret)))))),[.cell 4 (some 256),.tmp 5,.tmp 6]⟩
def Wj:AFn:=⟨(.seq (.region [
 D 4 (.mv (Ki 0))])
 (.seq (.region [
 Mv 5 0,
 Mv 6 1,
 D 7 (.Dy (T 5) (T 6)),
 Mv 4 7])
 .ret)),[.tmp 4]⟩
def Wk:AFn:=⟨(.seq (.region [
 D 1 (.box true (T 0)),
 D 2 (.mv (C .nilFunc))])
 (.seq (.region [
 D 3 (.AQ 232 [] [(T 1)]),
 Mv 2 3])
 .ret)),[.tmp 2]⟩
def nO:AFn:=⟨(.seq (.region [
 D 1 (.box true (T 0)),
 D 2 (.mv (Kb false))])
 (.seq (.seq (.region [
 D 3 (.load (some 262) (T 1)),
 D 4 (.call 244 [(T 3)])])
 (.cond (T 4)
 (.seq (.region [
 D 2 (.mv (Kb true))])
 .ret)
 .skip))
 (.seq (.seq (.region [
 D 5 (.fQ 259 (T 1)),
 D 6 (.load none (T 5)),
 D 7 (.call 245 [(T 6),(Ki 4),(Ki 5)]),
 D 8 (.un .not (T 7)),
 Mv 9 8,
 Gd 10 9 false (.fQ 258 (T 1)),
 Gd 11 9 false (.load none (T 10)),
 Gd 12 9 false (.call 245 [(T 11),(Ki 0),(Ki 258)]),
 Gd 13 9 false (.un .not (T 12)),
 D 14 (.pick (T 9) (Kb true) (T 13)),
 Mv 15 14,
 Gd 16 15 false (.fQ 260 (T 1)),
 Gd 17 15 false (.load none (T 16)),
 Gd 18 15 false (.call 245 [(T 17),(Ki 0),(Ki 15)]),
 Gd 19 15 false (.un .not (T 18)),
 D 20 (.pick (T 15) (Kb true) (T 19)),
 Mv 21 20,
 Gd 22 21 false (.fQ 261 (T 1)),
 Gd 23 21 false (.load none (T 22)),
 Gd 24 21 false (.call 245 [(T 23),(Ki 0),(Ki 2)]),
 Gd 25 21 false (.un .not (T 24)),
 D 26 (.pick (T 21) (Kb true) (T 25)),
 Mv 27 26,
 Gd 28 27 false (.load (some 262) (T 1)),
 Gd 29 27 false (.call 246 [(T 28)]),
 Gd 30 27 false (.un .not (T 29)),
 D 31 (.pick (T 27) (Kb true) (T 30))])
 (.cond (T 31)
 (.seq (.region [
 D 2 (.mv (Kb false))])
 .ret)
 .skip))
 (.seq (.seq (.region [
 D 32 (.fQ 258 (T 1)),
 D 33 (.load none (T 32))])
 (.block 0 (.seq (.region [
 D 35 (.bin .eql (T 33) (Ki 0)),
 Mv 34 35])
 (.cond (T 34)
 (.seq (.region [
 D 36 (.fQ 261 (T 1)),
 D 37 (.load none (T 36)),
 D 38 (.bin .eql (T 37) (Ki 0)),
 Mv 39 38,
 Gd 40 39 false (.fQ 261 (T 1)),
 Gd 41 39 false (.load none (T 40)),
 Gd 42 39 false (.bin .eql (T 41) (Ki 1)),
 Gd 43 39 false (.mv (T 42)),
 Gd 44 43 true (.fQ 260 (T 1)),
 Gd 45 43 true (.load none (T 44)),
 Gd 46 43 true (.bin .gtr (T 45) (Ki 0)),
 Gd 47 39 false (.pick (T 43) (T 46) (Kb false)),
 D 48 (.pick (T 39) (Kb true) (T 47)),
 Mv 49 48,
 Gd 50 49 false (.fQ 261 (T 1)),
 Gd 51 49 false (.load none (T 50)),
 Gd 52 49 false (.bin .eql (T 51) (Ki 2)),
 Gd 53 49 false (.mv (T 52)),
 Gd 54 53 true (.fQ 260 (T 1)),
 Gd 55 53 true (.load none (T 54)),
 Gd 56 53 true (.bin .lss (T 55) (Ki 15)),
 Gd 57 49 false (.pick (T 53) (T 56) (Kb false)),
 D 58 (.pick (T 49) (Kb true) (T 57)),
 Mv 2 58])
 .ret)
 (.seq (.region [
 D 60 (.bin .eql (T 33) (Ki 258)),
 Mv 59 60])
 (.cond (T 59)
 (.seq (.drawn [
 Fq 61 0 (.fQ 259 (T 1)),
 ⟨(some 62),none,1,true,.load none (T 61)⟩,
 Fq 63 3 (.bin .eql (T 62) (Ki 4)),
 Fq 64 7 (.mv (T 63)),
 Gq 65 64 true 15 (.fQ 261 (T 1)),
 ⟨(some 66),(some (64,true)),31,true,.load none (T 65)⟩,
 Gq 67 64 true 63 (.bin .eql (T 66) (Ki 0)),
 Fq 68 127 (.pick (T 64) (T 67) (Kb false)),
 Fq 69 255 (.mv (T 68)),
 Gq 70 69 true 511 (.fQ 260 (T 1)),
 Gq 71 69 true 1023 (.load none (T 70)),
 Gq 72 69 true 511 (.fQ 258 (T 1)),
 Gq 73 69 true 2559 (.load none (T 72)),
 Gq 74 69 true 6655 (.bin .sub (T 73) (Ki 1)),
 Gq 75 69 true 511 (.fQ 0 (T 1)),
 Gq 76 69 true 31231 (.gO 1 258 (T 75) (T 74)),
 Gq 77 69 true 63999 (.load none (T 76)),
 Gq 78 69 true 129535 (.conv .i64 (T 77)),
 Gq 79 69 true 262143 (.bin .eql (T 71) (T 78)),
 Fq 80 524287 (.pick (T 69) (T 79) (Kb false)),
 Fq 81 1048575 (.mv (T 80)),
 Gq 82 81 true 2097151 (.fQ 0 (T 1)),
 ⟨(some 83),(some (81,true)),4194303,true,.load (some 258) (T 82)⟩,
 ⟨(some 84),(some (81,true)),8388607,true,.call 206 [(T 83)]⟩,
 Fq 85 16777215 (.pick (T 81) (T 84) (Kb false)),
 Fq 2 33554431 (.mv (T 85))])
 .ret)
 .skip))))))
 (.seq (.drawn [
 Fq 86 0 (.fQ 258 (T 1)),
 Fq 87 1 (.load none (T 86)),
 Fq 88 3 (.bin .sub (T 87) (Ki 1)),
 Fq 89 0 (.fQ 0 (T 1)),
 Fq 90 15 (.gO 1 258 (T 89) (T 88)),
 Fq 91 31 (.load none (T 90)),
 Fq 92 63 (.conv .i64 (T 91)),
 Fq 93 0 (.fQ 260 (T 1)),
 Fq 94 128 (.load none (T 93)),
 Fq 95 0 (.fQ 261 (T 1)),
 Fq 96 512 (.load none (T 95)),
 ⟨(some 97),none,2047,true,.call 247 [(T 92),(T 94),(T 96)]⟩,
 Fq 2 4095 (.mv (T 97))])
 .ret))))),[.tmp 2]⟩
def sR:AFn:=⟨(.seq (.region [
 D 2 (.box true (T 0)),
 D 4 (.alloc true (List.replicate 258 (.int .u8 0)++[(.int .i64 0),(.int .i64 0),(.int .i64 0),(.int .i64 0)])),
 D 5 (.mv (Kb false))])
 (.seq (.block 0 (.seq (.region [
 D 25 (.fQ 259 (T 2)),
 D 26 (.load none (T 25)),
 D 27 (.bin .lss (T 26) (Ki 4)),
 Mv 24 27])
 (.cond (T 24)
 (.region [
 D 28 (.fQ 260 (T 2)),
 D 29 (.load none (T 28)),
 D 30 (.bin .shl (T 29) (C (.int .u64 1))),
 Mv 31 1,
 D 32 (.bin .or (T 30) (T 31)),
 D 33 (.fQ 259 (T 2)),
 D 34 (.load none (T 33)),
 D 35 (.bin .add (T 34) (Ki 1)),
 D 36 (.fQ 260 (T 2)),
 E (.store 1 (T 36) (T 32)),
 D 37 (.fQ 259 (T 2)),
 E (.store 1 (T 37) (T 35))])
 (.seq (.region [
 D 39 (.fQ 259 (T 2)),
 D 40 (.load none (T 39)),
 D 41 (.bin .eql (T 40) (Ki 4)),
 Mv 42 41,
 Gd 43 42 true (.mv (T 1)),
 Gd 44 42 true (.bin .eql (T 43) (Ki 0)),
 D 45 (.pick (T 42) (T 44) (Kb false)),
 Mv 38 45])
 (.cond (T 38)
 (.seq (.region [
 D 46 (.fQ 258 (T 2)),
 D 47 (.load none (T 46)),
 D 48 (.fQ 260 (T 2)),
 D 49 (.load none (T 48)),
 D 50 (.conv .u8 (T 49)),
 D 51 (.fQ 0 (T 2)),
 D 52 (.gO 1 258 (T 51) (T 47)),
 E (.store 1 (T 52) (T 50))])
 (.seq (.region [
 D 53 (.fQ 258 (T 2)),
 D 54 (.load none (T 53)),
 D 55 (.bin .add (T 54) (Ki 1)),
 D 56 (.fQ 258 (T 2)),
 E (.store 1 (T 56) (T 55)),
 D 57 (.fQ 261 (T 2)),
 E (.store 1 (T 57) (Ki 0))])
 (.seq (.drawn [
 Fq 58 0 (.load (some 262) (T 2)),
 Fq 59 0 (.fQ 258 (T 2)),
 Fq 60 2 (.load none (T 59)),
 Fq 61 6 (.bin .lss (T 60) (Ki 258)),
 Fq 62 14 (.mv (T 61)),
 Gq 63 62 false 30 (.fQ 0 (T 2)),
 Gq 64 62 false 62 (.load (some 258) (T 63)),
 Gq 65 62 false 126 (.call 206 [(T 64)]),
 Fq 66 254 (.pick (T 62) (Kb true) (T 65)),
 ⟨none,none,255,true,.store 262 (T 4) (T 58)⟩,
 Fq 5 1023 (.mv (T 66))])
 .ret)))
 (.seq (.region [
 D 68 (.fQ 259 (T 2)),
 D 69 (.load none (T 68)),
 D 70 (.bin .eql (T 69) (Ki 4)),
 Mv 67 70])
 (.cond (T 67)
 (.region [
 D 71 (.fQ 259 (T 2)),
 E (.store 1 (T 71) (Ki 5))])
 (.seq (.region [
 Mv 73 1,
 D 74 (.bin .eql (T 73) (Ki 0)),
 Mv 72 74])
 (.cond (T 72)
 (.seq (.region [
 D 75 (.fQ 261 (T 2)),
 D 76 (.load none (T 75)),
 D 77 (.bin .neq (T 76) (Ki 2)),
 Mv 78 77,
 Gd 79 78 true (.fQ 260 (T 2)),
 Gd 80 78 true (.load none (T 79)),
 Gd 81 78 true (.bin .lss (T 80) (Ki 15)),
 D 82 (.pick (T 78) (T 81) (Kb false)),
 Mv 6 82])
 (.seq (.region [
 D 83 (.fQ 260 (T 2)),
 D 84 (.load none (T 83)),
 D 85 (.bin .add (T 84) (Ki 1)),
 D 86 (.fQ 260 (T 2)),
 E (.store 1 (T 86) (T 85)),
 D 87 (.fQ 261 (T 2)),
 E (.store 1 (T 87) (Ki 1)),
 D 88 (.fQ 259 (T 2)),
 E (.store 1 (T 88) (Ki 4))])
 (.seq (.region [
 D 89 (.load (some 262) (T 2)),
 Mv 90 6,
 E (.store 262 (T 4) (T 89)),
 Mv 5 90])
 .ret)))
 (.seq (.region [
 D 8 (.fQ 261 (T 2)),
 D 9 (.load none (T 8)),
 D 10 (.bin .neq (T 9) (Ki 1)),
 Mv 11 10,
 Gd 12 11 true (.fQ 260 (T 2)),
 Gd 13 11 true (.load none (T 12)),
 Gd 14 11 true (.bin .gtr (T 13) (Ki 0)),
 D 15 (.pick (T 11) (T 14) (Kb false)),
 Mv 7 15])
 (.seq (.region [
 D 16 (.fQ 260 (T 2)),
 D 17 (.load none (T 16)),
 D 18 (.bin .sub (T 17) (Ki 1)),
 D 19 (.fQ 260 (T 2)),
 E (.store 1 (T 19) (T 18)),
 D 20 (.fQ 261 (T 2)),
 E (.store 1 (T 20) (Ki 2)),
 D 21 (.fQ 259 (T 2)),
 E (.store 1 (T 21) (Ki 4))])
 (.seq (.region [
 D 22 (.load (some 262) (T 2)),
 Mv 23 7,
 E (.store 262 (T 4) (T 22)),
 Mv 5 23])
 .ret))))))))))))
 (.seq (.region [
 D 91 (.load (some 262) (T 2)),
 E (.store 262 (T 4) (T 91)),
 D 5 (.mv (Kb true))])
 .ret))),[.cell 4 (some 262),.tmp 5]⟩
def Kc:AFn:=⟨(.seq (.region [
 D 1 (.box true (T 0)),
 D 2 (.mv (Kb false))])
 (.seq (.region [
 D 3 (.load (some 258) (T 1)),
 D 4 (.call 248 [(T 3)]),
 Mv 5 4,
 Gd 6 5 true (.gO 1 258 (T 1) (Ki 257)),
 Gd 7 5 true (.load none (T 6)),
 Gd 8 5 true (.bin .gtr (T 7) (C (.int .u8 0))),
 D 9 (.pick (T 5) (T 8) (Kb false)),
 Mv 2 9])
 .ret)),[.tmp 2]⟩
def Wl:AFn:=⟨(.seq (.region [
 D 2 (.mv (C (.slice none 0 0)))])
 (.seq (.seq (.region [
 Mv 3 0,
 D 4 (.eqs false .slice (T 3) (C (.slice none 0 0)))])
 (.cond (T 4)
 (.seq (.region [
 D 2 (.mv (C (.slice none 0 0)))])
 .ret)
 .skip))
 (.seq (.region [
 D 5 (.gV true 2 0 [] []),
 Mv 6 0,
 D 7 (.append true 2 (T 5) (T 6)),
 Mv 2 7])
 .ret))),[.tmp 2]⟩
def Wm:AFn:=⟨(.seq (.region [
 Mv 5 0,
 D 6 (.len (T 5)),
 Mv 4 6])
 (.region [
 Mv 7 0,
 Mv 8 4,
 Mv 9 4,
 D 10 (.conv .u64 (T 9)),
 D 11 (.call 256 [(T 10)]),
 Mv 12 1,
 D 13 (.call 255 [(T 7),(Ki 0),(T 8),(T 11),(T 12)])])),[]⟩
def Pq:AFn:=⟨(.seq (.region [
 D 2 (.box true (T 0)),
 D 3 (.box true (T 1)),
 D 4 (.mv (Ki 0))])
 (.seq (.drawn [
 Fq 5 0 (.fQ 0 (T 2)),
 Fq 6 1 (.load none (T 5)),
 Fq 7 0 (.fQ 0 (T 3)),
 Fq 8 4 (.load none (T 7)),
 Fq 9 15 (.call 132 [(T 6),(T 8)]),
 Fq 10 0 (.fQ 1 (T 2)),
 Fq 11 32 (.load none (T 10)),
 Fq 12 0 (.fQ 1 (T 3)),
 Fq 13 128 (.load none (T 12)),
 ⟨(some 14),none,511,true,.call 132 [(T 11),(T 13)]⟩,
 Fq 15 1023 (.gV true 1 2 [(.int .i64 0),(.int .i64 0)] [(0,1,(T 9)),(1,1,(T 14))]),
 ⟨(some 16),none,2047,true,.call 224 [(T 15)]⟩,
 Fq 4 4095 (.mv (T 16))])
 .ret)),[.tmp 4]⟩
def rF:fG:=(.seq (.region [
 D 9 (.bin .lss (T 8) (T 7))])
 (.seq (.cond (T 9)
 .skip
 (.exit 0))
 (.seq (.block 1 (.seq (.region [
 D 10 (.fK 1 (T 6) (T 8)),
 D 11 (.load none (T 10)),
 Mv 5 11])
 (.seq (.region [
 Mv 12 5,
 Mv 13 3,
 D 14 (.bin .neq (T 12) (T 13))])
 (.cond (T 14)
 (.seq (.region [
 Mv 15 5,
 Mv 2 15])
 .ret)
 .skip))))
 (.region [
 D 16 (.bin .add (T 8) (Ki 1)),
 Mv 8 16]))))
def Ke:AFn:=⟨(.seq (.region [
 D 2 (.mv (Ki 0))])
 (.seq (.region [
 D 3 (.mv (Ki 0))])
 (.seq (.seq (.region [
 Mv 6 0,
 D 7 (.len (T 6)),
 D 8 (.mv (Ki 0))])
 (.block 0 (.loop [3,6,7,8] rF)))
 (.seq (.region [
 Mv 17 3,
 Mv 2 17])
 .ret)))),[.tmp 2]⟩
def EF:AFn:=⟨(.seq (.region [
 D 4 (.box true (T 1)),
 D 6 (.mv (C (.slice none 0 0)))])
 (.seq (.seq (.region [
 Mv 7 2,
 D 8 (.bin .lss (T 7) (Ki 0)),
 Mv 9 8,
 Gd 10 9 false (.mv (T 2)),
 Gd 11 9 false (.bin .gtr (T 10) (Ki 1048576)),
 D 12 (.pick (T 9) (Kb true) (T 11))])
 (.cond (T 12)
 (.seq (.region [
 D 6 (.mv (C (.slice none 0 0)))])
 .ret)
 .skip))
 (.seq (.region [
 Mv 13 0,
 D 14 (.load (some 2) (T 4)),
 Mv 15 2,
 D 16 (.bin .shl (T 15) (C (.int .u64 2))),
 D 17 (.call 180 [(T 13),(T 14),(T 16),(Ki 4)]),
 Mv 6 17])
 .ret))),[.tmp 6]⟩
def Ac:fG:=(.seq (.seq (.drawn [
 Fq 18 0 (.mv (T 9)),
 Fq 19 0 (.mv (T 1)),
 Fq 20 3 (.bin .gtr (T 18) (T 19)),
 Fq 21 7 (.mv (T 20)),
 Gq 22 21 true 15 (.mv (T 3)),
 Gq 23 21 true 15 (.mv (T 0)),
 Gq 24 21 true 15 (.mv (T 9)),
 Gq 25 21 true 111 (.fK 1 (T 23) (T 24)),
 Gq 26 21 true 239 (.load none (T 25)),
 Gq 27 21 true 15 (.mv (T 0)),
 Gq 28 21 true 15 (.mv (T 9)),
 Gq 29 21 true 1039 (.bin .sub (T 28) (Ki 1)),
 Gq 30 21 true 3599 (.fK 1 (T 27) (T 29)),
 Gq 31 21 true 7695 (.load none (T 30)),
 ⟨(some 32),(some (21,true)),16383,true,.iP (T 22) [(T 26),(T 31)]⟩,
 Gq 33 21 true 32767 (.bin .lss (T 32) (Ki 0)),
 Fq 34 65535 (.pick (T 21) (T 33) (Kb false))])
 (.cond (T 34)
 .skip
 (.exit 2)))
 (.seq (.block 3 (.drawn [
 Fq 37 0 (.mv (T 0)),
 Fq 38 0 (.mv (T 9)),
 Fq 39 0 (.mv (T 0)),
 Fq 40 0 (.mv (T 9)),
 Fq 41 8 (.bin .sub (T 40) (Ki 1)),
 Fq 42 0 (.mv (T 0)),
 Fq 43 0 (.mv (T 9)),
 Fq 44 64 (.bin .sub (T 43) (Ki 1)),
 Fq 45 224 (.fK 1 (T 42) (T 44)),
 Fq 46 480 (.load none (T 45)),
 Fq 47 0 (.mv (T 0)),
 Fq 48 0 (.mv (T 9)),
 Fq 49 3072 (.fK 1 (T 47) (T 48)),
 Fq 50 7168 (.load none (T 49)),
 Fq 51 16355 (.fK 1 (T 37) (T 38)),
 ⟨none,none,32739,true,.store 1 (T 51) (T 46)⟩,
 Fq 52 65535 (.fK 1 (T 39) (T 41)),
 ⟨none,none,131071,true,.store 1 (T 52) (T 50)⟩]))
 (.region [
 Mv 35 9,
 D 36 (.bin .sub (T 35) (Ki 1)),
 Mv 9 36])))
def Ad:fG:=(.seq (.seq (.region [
 Mv 12 8,
 Mv 13 2,
 D 14 (.bin .lss (T 12) (T 13))])
 (.cond (T 14)
 .skip
 (.exit 0)))
 (.seq (.block 1 (.seq (.region [
 Mv 17 8,
 Mv 9 17])
 (.block 2 (.loop [9,2,1,3,8,0] Ac))))
 (.region [
 Mv 15 8,
 D 16 (.bin .add (T 15) (Ki 1)),
 Mv 8 16])))
def Wn:AFn:=⟨(.seq (.region [
 Mv 10 1,
 D 11 (.bin .add (T 10) (Ki 1)),
 Mv 8 11])
 (.block 0 (.loop [3,1,2,8,0] Ad))),[]⟩
def GM:fG:=(.seq (.seq (.region [
 Mv 149 20,
 Mv 150 21,
 D 151 (.bin .lss (T 149) (T 150))])
 (.cond (T 151)
 .skip
 (.exit 8)))
 (.block 9 (.seq (.region [
 Mv 152 20,
 Mv 153 21,
 D 154 (.bin .add (T 152) (T 153)),
 D 155 (.conv .u64 (T 154)),
 D 156 (.bin .shr (T 155) (C (.int .u64 1))),
 D 157 (.conv .i64 (T 156)),
 Mv 23 157])
 (.seq (.drawn [
 Fq 158 0 (.mv (T 4)),
 Fq 159 0 (.mv (T 0)),
 Fq 160 0 (.mv (T 22)),
 Fq 161 0 (.mv (T 23)),
 Fq 162 12 (.bin .sub (T 160) (T 161)),
 Fq 163 30 (.fK 1 (T 159) (T 162)),
 Fq 164 62 (.load none (T 163)),
 Fq 165 0 (.mv (T 0)),
 Fq 166 0 (.mv (T 23)),
 Fq 167 384 (.fK 1 (T 165) (T 166)),
 Fq 168 896 (.load none (T 167)),
 ⟨(some 169),none,2047,true,.iP (T 158) [(T 164),(T 168)]⟩,
 Fq 170 4095 (.bin .lss (T 169) (Ki 0)),
 Fq 171 8191 (.un .not (T 170))])
 (.cond (T 171)
 (.region [
 Mv 172 23,
 D 173 (.bin .add (T 172) (Ki 1)),
 Mv 20 173])
 (.region [
 Mv 174 23,
 Mv 21 174]))))))
def Ae:fG:=(.seq (.seq (.region [
 Mv 108 17,
 Mv 109 14,
 D 110 (.bin .gtr (T 108) (T 109))])
 (.cond (T 110)
 .skip
 (.exit 6)))
 (.seq (.block 7 (.drawn [
 Fq 113 0 (.mv (T 0)),
 Fq 114 0 (.mv (T 17)),
 Fq 115 0 (.mv (T 0)),
 Fq 116 0 (.mv (T 17)),
 Fq 117 8 (.bin .sub (T 116) (Ki 1)),
 Fq 118 0 (.mv (T 0)),
 Fq 119 0 (.mv (T 17)),
 Fq 120 64 (.bin .sub (T 119) (Ki 1)),
 Fq 121 224 (.fK 1 (T 118) (T 120)),
 Fq 122 480 (.load none (T 121)),
 Fq 123 0 (.mv (T 0)),
 Fq 124 0 (.mv (T 17)),
 Fq 125 3072 (.fK 1 (T 123) (T 124)),
 Fq 126 7168 (.load none (T 125)),
 Fq 127 16355 (.fK 1 (T 113) (T 114)),
 ⟨none,none,32739,true,.store 1 (T 127) (T 122)⟩,
 Fq 128 65535 (.fK 1 (T 115) (T 117)),
 ⟨none,none,131071,true,.store 1 (T 128) (T 126)⟩]))
 (.region [
 Mv 111 17,
 D 112 (.bin .sub (T 111) (Ki 1)),
 Mv 17 112])))
def GN:fG:=(.seq (.seq (.region [
 Mv 83 14,
 Mv 84 15,
 D 85 (.bin .lss (T 83) (T 84))])
 (.cond (T 85)
 .skip
 (.exit 4)))
 (.block 5 (.seq (.region [
 Mv 86 14,
 Mv 87 15,
 D 88 (.bin .add (T 86) (T 87)),
 D 89 (.conv .u64 (T 88)),
 D 90 (.bin .shr (T 89) (C (.int .u64 1))),
 D 91 (.conv .i64 (T 90)),
 Mv 16 91])
 (.seq (.drawn [
 Fq 92 0 (.mv (T 4)),
 Fq 93 0 (.mv (T 0)),
 Fq 94 0 (.mv (T 2)),
 Fq 95 6 (.fK 1 (T 93) (T 94)),
 Fq 96 14 (.load none (T 95)),
 Fq 97 0 (.mv (T 0)),
 Fq 98 0 (.mv (T 16)),
 Fq 99 96 (.fK 1 (T 97) (T 98)),
 Fq 100 224 (.load none (T 99)),
 ⟨(some 101),none,511,true,.iP (T 92) [(T 96),(T 100)]⟩,
 Fq 102 1023 (.bin .lss (T 101) (Ki 0)),
 Fq 103 2047 (.un .not (T 102))])
 (.cond (T 103)
 (.region [
 Mv 104 16,
 D 105 (.bin .add (T 104) (Ki 1)),
 Mv 14 105])
 (.region [
 Mv 106 16,
 Mv 15 106]))))))
def Af:fG:=(.seq (.seq (.region [
 Mv 55 13,
 Mv 56 10,
 D 57 (.bin .sub (T 56) (Ki 1)),
 D 58 (.bin .lss (T 55) (T 57))])
 (.cond (T 58)
 .skip
 (.exit 2)))
 (.seq (.block 3 (.drawn [
 Fq 61 0 (.mv (T 0)),
 Fq 62 0 (.mv (T 13)),
 Fq 63 0 (.mv (T 0)),
 Fq 64 0 (.mv (T 13)),
 Fq 65 8 (.bin .add (T 64) (Ki 1)),
 Fq 66 0 (.mv (T 0)),
 Fq 67 0 (.mv (T 13)),
 Fq 68 64 (.bin .add (T 67) (Ki 1)),
 Fq 69 224 (.fK 1 (T 66) (T 68)),
 Fq 70 480 (.load none (T 69)),
 Fq 71 0 (.mv (T 0)),
 Fq 72 0 (.mv (T 13)),
 Fq 73 3072 (.fK 1 (T 71) (T 72)),
 Fq 74 7168 (.load none (T 73)),
 Fq 75 16355 (.fK 1 (T 61) (T 62)),
 ⟨none,none,32739,true,.store 1 (T 75) (T 70)⟩,
 Fq 76 65535 (.fK 1 (T 63) (T 65)),
 ⟨none,none,131071,true,.store 1 (T 76) (T 74)⟩]))
 (.region [
 Mv 59 13,
 D 60 (.bin .add (T 59) (Ki 1)),
 Mv 13 60])))
def GO:fG:=(.seq (.seq (.region [
 Mv 31 10,
 Mv 32 11,
 D 33 (.bin .lss (T 31) (T 32))])
 (.cond (T 33)
 .skip
 (.exit 0)))
 (.block 1 (.seq (.region [
 Mv 34 10,
 Mv 35 11,
 D 36 (.bin .add (T 34) (T 35)),
 D 37 (.conv .u64 (T 36)),
 D 38 (.bin .shr (T 37) (C (.int .u64 1))),
 D 39 (.conv .i64 (T 38)),
 Mv 12 39])
 (.seq (.drawn [
 Fq 40 0 (.mv (T 4)),
 Fq 41 0 (.mv (T 0)),
 Fq 42 0 (.mv (T 12)),
 Fq 43 6 (.fK 1 (T 41) (T 42)),
 Fq 44 14 (.load none (T 43)),
 Fq 45 0 (.mv (T 0)),
 Fq 46 0 (.mv (T 1)),
 Fq 47 96 (.fK 1 (T 45) (T 46)),
 Fq 48 224 (.load none (T 47)),
 ⟨(some 49),none,511,true,.iP (T 40) [(T 44),(T 48)]⟩,
 Fq 50 1023 (.bin .lss (T 49) (Ki 0))])
 (.cond (T 50)
 (.region [
 Mv 51 12,
 D 52 (.bin .add (T 51) (Ki 1)),
 Mv 10 52])
 (.region [
 Mv 53 12,
 Mv 11 53]))))))
def lF:AFn:=⟨(.seq (.seq (.region [
 Mv 25 2,
 Mv 26 1,
 D 27 (.bin .sub (T 25) (T 26)),
 D 28 (.bin .eql (T 27) (Ki 1))])
 (.cond (T 28)
 (.seq (.region [
 Mv 29 2,
 Mv 10 29])
 (.seq (.region [
 Mv 30 3,
 Mv 11 30])
 (.seq (.block 0 (.loop [10,11,4,0,1] GO))
 (.seq (.seq (.region [
 Mv 54 1,
 Mv 13 54])
 (.block 2 (.loop [13,10,0] Af)))
 .ret))))
 .skip))
 (.seq (.seq (.region [
 Mv 77 3,
 Mv 78 2,
 D 79 (.bin .sub (T 77) (T 78)),
 D 80 (.bin .eql (T 79) (Ki 1))])
 (.cond (T 80)
 (.seq (.region [
 Mv 81 1,
 Mv 14 81])
 (.seq (.region [
 Mv 82 2,
 Mv 15 82])
 (.seq (.block 4 (.loop [14,15,4,2,0] GN))
 (.seq (.seq (.region [
 Mv 107 2,
 Mv 17 107])
 (.block 6 (.loop [17,14,0] Ae)))
 .ret))))
 .skip))
 (.seq (.region [
 Mv 129 1,
 Mv 130 3,
 D 131 (.bin .add (T 129) (T 130)),
 D 132 (.conv .u64 (T 131)),
 D 133 (.bin .shr (T 132) (C (.int .u64 1))),
 D 134 (.conv .i64 (T 133)),
 Mv 18 134])
 (.seq (.region [
 Mv 135 18,
 Mv 136 2,
 D 137 (.bin .add (T 135) (T 136)),
 Mv 19 137])
 (.seq (.region [
 D 20 (.mv (Ki 0)),
 D 21 (.mv (Ki 0))])
 (.seq (.seq (.region [
 Mv 138 2,
 Mv 139 18,
 D 140 (.bin .gtr (T 138) (T 139))])
 (.cond (T 140)
 (.seq (.region [
 Mv 141 19,
 Mv 142 3,
 D 143 (.bin .sub (T 141) (T 142)),
 Mv 20 143])
 (.region [
 Mv 144 18,
 Mv 21 144]))
 (.seq (.region [
 Mv 145 1,
 Mv 20 145])
 (.region [
 Mv 146 2,
 Mv 21 146]))))
 (.seq (.region [
 Mv 147 19,
 D 148 (.bin .sub (T 147) (Ki 1)),
 Mv 22 148])
 (.seq (.block 8 (.loop [20,3,18,1,2,19,21,4,22,0] GM))
 (.seq (.region [
 Mv 175 19,
 Mv 176 20,
 D 177 (.bin .sub (T 175) (T 176)),
 Mv 24 177])
 (.seq (.seq (.region [
 Mv 178 20,
 Mv 179 2,
 D 180 (.bin .lss (T 178) (T 179)),
 Mv 181 180,
 Gd 182 181 true (.mv (T 2)),
 Gd 183 181 true (.mv (T 24)),
 Gd 184 181 true (.bin .lss (T 182) (T 183)),
 D 185 (.pick (T 181) (T 184) (Kb false))])
 (.cond (T 185)
 (.region [
 Mv 186 0,
 Mv 187 20,
 Mv 188 2,
 Mv 189 24,
 Mv 190 4,
 D 191 (.call 257 [(T 186),(T 187),(T 188),(T 189),(T 190)])])
 .skip))
 (.seq (.seq (.region [
 Mv 192 1,
 Mv 193 20,
 D 194 (.bin .lss (T 192) (T 193)),
 Mv 195 194,
 Gd 196 195 true (.mv (T 20)),
 Gd 197 195 true (.mv (T 18)),
 Gd 198 195 true (.bin .lss (T 196) (T 197)),
 D 199 (.pick (T 195) (T 198) (Kb false))])
 (.cond (T 199)
 (.region [
 Mv 200 0,
 Mv 201 1,
 Mv 202 20,
 Mv 203 18,
 Mv 204 4,
 D 205 (.call 228 [(T 200),(T 201),(T 202),(T 203),(T 204)])])
 .skip))
 (.seq (.region [
 Mv 206 18,
 Mv 207 24,
 D 208 (.bin .lss (T 206) (T 207)),
 Mv 209 208,
 Gd 210 209 true (.mv (T 24)),
 Gd 211 209 true (.mv (T 3)),
 Gd 212 209 true (.bin .lss (T 210) (T 211)),
 D 213 (.pick (T 209) (T 212) (Kb false))])
 (.cond (T 213)
 (.region [
 Mv 214 0,
 Mv 215 18,
 Mv 216 24,
 Mv 217 3,
 Mv 218 4,
 D 219 (.call 228 [(T 214),(T 215),(T 216),(T 217),(T 218)])])
 .skip))))))))))))),[]⟩
def Ag:fG:=(.seq (.region [
 D 3 (.bin .lss (T 2) (Ki 256))])
 (.seq (.cond (T 3)
 .skip
 (.exit 0))
 (.seq (.block 1 (.seq (.region [
 Mv 4 2,
 Mv 1 4])
 (.region [
 Mv 5 1,
 D 6 (.gO 1 256 (T 0) (T 5)),
 E (.store 1 (T 6) (Ki 1))])))
 (.region [
 D 7 (.bin .add (T 2) (Ki 1)),
 Mv 2 7]))))
def Wo:AFn:=⟨(.seq (.region [
 D 0 (.alloc true (List.replicate 256 (.int .i64 0)))])
 (.seq (.seq (.region [
 D 2 (.mv (Ki 0))])
 (.block 0 (.loop [2,0] Ag)))
 (.seq (.region [
 D 8 (.load (some 256) (T 0)),
 E (.store 256 (T 0) (T 8))])
 .ret))),[.cell 0 (some 256)]⟩
def Kf:AFn:=⟨(.seq (.region [
 D 1 (.box true (T 0)),
 D 2 (.mv (Kb false))])
 (.seq (.drawn [
 Fq 3 0 (.fQ 259 (T 1)),
 ⟨(some 4),none,1,true,.load none (T 3)⟩,
 ⟨(some 5),none,3,true,.call 245 [(T 4),(Ki 0),(Ki 3)]⟩,
 Fq 6 7 (.mv (T 5)),
 Gq 7 6 true 15 (.fQ 260 (T 1)),
 Gq 8 6 true 31 (.load none (T 7)),
 Gq 9 6 true 15 (.fQ 259 (T 1)),
 Gq 10 6 true 79 (.load none (T 9)),
 Gq 11 6 true 207 (.bin .shl (Ki 1) (T 10)),
 Gq 12 6 true 463 (.bin .sub (T 11) (Ki 1)),
 ⟨(some 13),(some (6,true)),1023,true,.call 245 [(T 8),(Ki 0),(T 12)]⟩,
 Fq 14 2047 (.pick (T 6) (T 13) (Kb false)),
 Fq 15 4095 (.mv (T 14)),
 Gq 16 15 true 8191 (.load (some 262) (T 1)),
 Gq 17 15 true 8191 (.fQ 259 (T 1)),
 Gq 18 15 true 24575 (.load none (T 17)),
 Gq 19 15 true 8191 (.fQ 260 (T 1)),
 Gq 20 15 true 73727 (.load none (T 19)),
 Gq 21 15 true 253951 (.build (List.replicate 258 (.int .u8 0)++[(.int .i64 0),(.int .i64 0),(.int .i64 0),(.int .i64 0)]) [(259,1,(T 18)),(260,1,(T 20))]),
 Gq 22 15 true 524287 (.eqs false (.agg (List.replicate 262 .nu)) (T 16) (T 21)),
 Fq 23 1048575 (.pick (T 15) (T 22) (Kb false)),
 Fq 2 2097151 (.mv (T 23))])
 .ret)),[.tmp 2]⟩
def Pt:AFn:=⟨(.seq (.region [
 D 6 (.mv (Kb false))])
 (.seq (.region [
 Mv 7 0,
 Mv 8 1,
 D 9 (.bin .geq (T 7) (T 8)),
 Mv 10 9,
 Gd 11 10 true (.mv (T 0)),
 Gd 12 10 true (.mv (T 2)),
 Gd 13 10 true (.bin .leq (T 11) (T 12)),
 D 14 (.pick (T 10) (T 13) (Kb false)),
 Mv 6 14])
 .ret)),[.tmp 6]⟩
def rG:fG:=(.seq (.region [
 D 8 (.bin .lss (T 7) (Ki 258))])
 (.seq (.cond (T 8)
 .skip
 (.exit 0))
 (.seq (.block 1 (.seq (.region [
 Mv 9 7,
 D 10 (.idx 1 258 none (T 6) (T 7)),
 Mv 3 9,
 Mv 4 10])
 (.seq (.region [
 Mv 11 4,
 D 12 (.bin .gtr (T 11) (C (.int .u8 15))),
 Mv 13 12,
 Gd 14 13 false (.mv (T 3)),
 Gd 15 13 false (.fQ 258 (T 1)),
 Gd 16 13 false (.load none (T 15)),
 Gd 17 13 false (.bin .geq (T 14) (T 16)),
 Gd 18 13 false (.mv (T 17)),
 Gd 19 18 true (.mv (T 4)),
 Gd 20 18 true (.bin .gtr (T 19) (C (.int .u8 0))),
 Gd 21 13 false (.pick (T 18) (T 20) (Kb false)),
 D 22 (.pick (T 13) (Kb true) (T 21))])
 (.cond (T 22)
 (.seq (.region [
 D 2 (.mv (Kb false))])
 .ret)
 .skip))))
 (.region [
 D 23 (.bin .add (T 7) (Ki 1)),
 Mv 7 23]))))
def Pu:AFn:=⟨(.seq (.region [
 D 1 (.box true (T 0)),
 D 2 (.mv (Kb false))])
 (.seq (.seq (.region [
 D 5 (.fQ 0 (T 1)),
 D 6 (.load (some 258) (T 5)),
 D 7 (.mv (Ki 0))])
 (.block 0 (.loop [1,6,7] rG)))
 (.seq (.region [
 D 2 (.mv (Kb true))])
 .ret))),[.tmp 2]⟩
def Kg:AFn:=⟨(.seq (.region [
 D 6 (.mv (Kb false))])
 (.seq (.seq (.region [
 Mv 7 2])
 (.block 0 (.seq (.region [
 D 9 (.bin .eql (T 7) (Ki 0)),
 Mv 8 9])
 (.cond (T 8)
 (.seq (.region [
 Mv 10 0,
 Mv 11 1,
 D 12 (.bin .eql (T 10) (T 11)),
 Mv 6 12])
 .ret)
 (.seq (.region [
 D 14 (.bin .eql (T 7) (Ki 1)),
 Mv 13 14])
 (.cond (T 13)
 (.seq (.region [
 Mv 15 0,
 Mv 16 1,
 D 17 (.bin .lss (T 15) (T 16)),
 Mv 6 17])
 .ret)
 .skip))))))
 (.seq (.region [
 Mv 18 0,
 Mv 19 1,
 D 20 (.bin .gtr (T 18) (T 19)),
 Mv 6 20])
 .ret))),[.tmp 6]⟩
def Wp:AFn:=⟨(.seq (.region [
 D 1 (.box true (T 0)),
 D 2 (.mv (Kb false))])
 (.seq (.region [
 D 3 (.load (some 258) (T 1)),
 D 4 (.call 266 [(T 3)]),
 D 5 (.bin .eql (T 4) (Ki 32768)),
 Mv 2 5])
 .ret)),[.tmp 2]⟩
def Ah:fG:=(.seq (.region [
 D 7 (.bin .lss (T 6) (Ki 258))])
 (.seq (.cond (T 7)
 .skip
 (.exit 0))
 (.seq (.block 1 (.seq (.region [
 D 8 (.idx 1 258 none (T 5) (T 6)),
 Mv 4 8])
 (.seq (.region [
 Mv 9 4,
 D 10 (.conv .i64 (T 9)),
 D 11 (.bin .lss (T 10) (Ki 16))])
 (.cond (T 11)
 (.region [
 Mv 12 4,
 D 13 (.gO 1 16 (T 2) (T 12)),
 D 14 (.load none (T 13)),
 D 15 (.bin .add (T 14) (Ki 1)),
 D 16 (.gO 1 16 (T 2) (T 12)),
 E (.store 1 (T 16) (T 15))])
 .skip))))
 (.region [
 D 17 (.bin .add (T 6) (Ki 1)),
 Mv 6 17]))))
def Wq:AFn:=⟨(.seq (.region [
 D 1 (.box true (T 0)),
 D 2 (.alloc true (List.replicate 16 (.int .i64 0)))])
 (.seq (.seq (.region [
 D 5 (.load (some 258) (T 1)),
 D 6 (.mv (Ki 0))])
 (.block 0 (.loop [6,5,2] Ah)))
 (.seq (.region [
 D 18 (.load (some 16) (T 2)),
 E (.store 16 (T 2) (T 18))])
 .ret))),[.cell 2 (some 16)]⟩
def Ai:fG:=(.seq (.seq (.region [
 Mv 56 18,
 Mv 57 5,
 D 58 (.bin .lss (T 56) (T 57))])
 (.cond (T 58)
 .skip
 (.exit 0)))
 (.seq (.block 1 (.seq (.seq (.region [
 Mv 62 0,
 D 63 (.load (some 2) (T 7)),
 Mv 64 18,
 D 65 (.call 125 [(T 62),(T 63),(T 64)]),
 Mv 61 65,
 D 66 (.ext (T 61) 0),
 D 67 (.ext (T 61) 1),
 Mv 19 66,
 Mv 20 67])
 (.seq (.region [
 Mv 68 19,
 Mv 69 4,
 D 70 (.bin .eql (T 68) (T 69))])
 (.cond (T 70)
 (.region [
 Mv 71 12,
 D 72 (.bin .add (T 71) (Ki 1)),
 Mv 12 72])
 .skip)))
 (.region [
 Mv 73 13,
 D 74 (.bin .add (T 73) (Ki 1)),
 Mv 13 74])))
 (.region [
 Mv 59 18,
 D 60 (.bin .add (T 59) (Ki 1)),
 Mv 18 60])))
def Pv:AFn:=⟨(.seq (.region [
 D 7 (.box true (T 1)),
 D 8 (.box true (T 2)),
 D 12 (.mv (Ki 0)),
 D 13 (.mv (Ki 0)),
 D 14 (.mv (Kb false))])
 (.seq (.seq (.region [
 Mv 21 0,
 D 22 (.load (some 2) (T 7)),
 D 23 (.load (some 2) (T 8)),
 Mv 24 3,
 D 25 (.call 267 [(T 21),(T 22),(T 23),(T 24)]),
 D 26 (.un .not (T 25)),
 Mv 27 26,
 Gd 28 27 false (.mv (T 5)),
 Gd 29 27 false (.fQ 1 (T 7)),
 Gd 30 27 false (.load none (T 29)),
 Gd 31 27 false (.call 268 [(T 28),(Ki 0),(T 30)]),
 Gd 32 27 false (.un .not (T 31)),
 D 33 (.pick (T 27) (Kb true) (T 32))])
 (.cond (T 33)
 (.seq (.region [
 D 12 (.mv (Ki 0)),
 D 13 (.mv (Ki 0)),
 D 14 (.mv (Kb false))])
 .ret)
 .skip))
 (.seq (.region [
 Mv 34 5,
 Mv 35 3,
 D 36 (.bin .quo (T 34) (T 35)),
 Mv 15 36])
 (.seq (.seq (.region [
 Mv 37 15,
 D 38 (.bin .gtr (T 37) (Ki 0))])
 (.cond (T 38)
 (.seq (.region [
 Mv 40 0,
 D 41 (.load (some 2) (T 8)),
 Mv 42 15,
 D 43 (.bin .sub (T 42) (Ki 1)),
 D 44 (.bin .mul (T 43) (Ki 256)),
 Mv 45 4,
 D 46 (.conv .i64 (T 45)),
 D 47 (.bin .add (T 44) (T 46)),
 D 48 (.call 179 [(T 40),(T 41),(T 47)]),
 Mv 39 48,
 D 49 (.ext (T 39) 0),
 D 50 (.ext (T 39) 1),
 Mv 16 49,
 Mv 17 50])
 (.region [
 Mv 51 16,
 D 52 (.conv .i64 (T 51)),
 Mv 12 52]))
 .skip))
 (.seq (.seq (.region [
 Mv 53 15,
 Mv 54 3,
 D 55 (.bin .mul (T 53) (T 54)),
 Mv 18 55])
 (.block 0 (.loop [12,13,18,5,0,7,4] Ai)))
 (.seq (.region [
 Mv 75 12,
 Mv 76 13,
 Mv 12 75,
 Mv 13 76,
 D 14 (.mv (Kb true))])
 .ret)))))),[.tmp 12,.tmp 13,.tmp 14]⟩
def pK:fG:=(.block 1 (.seq (.region [
 Mv 21 2,
 Mv 22 1,
 D 23 (.bin .sub (T 21) (T 22)),
 Mv 12 23])
 (.seq (.seq (.region [
 Mv 24 12,
 D 25 (.bin .leq (T 24) (Ki 12))])
 (.cond (T 25)
 (.seq (.region [
 Mv 26 0,
 Mv 27 1,
 Mv 28 2,
 Mv 29 4,
 D 30 (.call 269 [(T 26),(T 27),(T 28),(T 29)])])
 .ret)
 .skip))
 (.seq (.seq (.region [
 Mv 31 3,
 D 32 (.bin .eql (T 31) (Ki 0))])
 (.cond (T 32)
 (.seq (.region [
 Mv 33 0,
 Mv 34 1,
 Mv 35 2,
 Mv 36 4,
 D 37 (.call 270 [(T 33),(T 34),(T 35),(T 36)])])
 .ret)
 .skip))
 (.seq (.seq (.region [
 Mv 38 10,
 D 39 (.un .not (T 38))])
 (.cond (T 39)
 (.seq (.region [
 Mv 40 0,
 Mv 41 1,
 Mv 42 2,
 Mv 43 4,
 D 44 (.call 271 [(T 40),(T 41),(T 42),(T 43)])])
 (.region [
 Mv 45 3,
 D 46 (.bin .sub (T 45) (Ki 1)),
 Mv 3 46]))
 .skip))
 (.seq (.region [
 Mv 48 0,
 Mv 49 1,
 Mv 50 2,
 Mv 51 4,
 D 52 (.call 272 [(T 48),(T 49),(T 50),(T 51)]),
 Mv 47 52,
 D 53 (.ext (T 47) 0),
 D 54 (.ext (T 47) 1),
 Mv 13 53,
 Mv 14 54])
 (.seq (.seq (.region [
 Mv 55 14,
 D 56 (.bin .eql (T 55) (Ki 2))])
 (.cond (T 56)
 (.seq (.region [
 Mv 57 0,
 Mv 58 1,
 Mv 59 2,
 Mv 60 4,
 D 61 (.call 273 [(T 57),(T 58),(T 59),(T 60)])])
 (.seq (.region [
 Mv 62 2,
 D 63 (.bin .sub (T 62) (Ki 1)),
 Mv 64 13,
 Mv 65 1,
 D 66 (.bin .sub (T 64) (T 65)),
 D 67 (.bin .sub (T 63) (T 66)),
 Mv 13 67])
 (.region [
 D 14 (.mv (Ki 1))])))
 .skip))
 (.seq (.seq (.region [
 Mv 68 10,
 Mv 69 68,
 Gd 70 69 true (.mv (T 11)),
 D 71 (.pick (T 69) (T 70) (Kb false)),
 Mv 72 71,
 Gd 73 72 true (.mv (T 14)),
 Gd 74 72 true (.bin .eql (T 73) (Ki 1)),
 D 75 (.pick (T 72) (T 74) (Kb false))])
 (.cond (T 75)
 (.seq (.region [
 Mv 76 0,
 Mv 77 1,
 Mv 78 2,
 Mv 79 4,
 D 80 (.call 274 [(T 76),(T 77),(T 78),(T 79)])])
 (.cond (T 80)
 .ret
 .skip))
 .skip))
 (.seq (.seq (.drawn [
 Fq 81 0 (.mv (T 1)),
 Fq 82 1 (.bin .gtr (T 81) (Ki 0)),
 Fq 83 3 (.mv (T 82)),
 Gq 84 83 true 7 (.mv (T 4)),
 Gq 85 83 true 7 (.mv (T 0)),
 Gq 86 83 true 7 (.mv (T 1)),
 Gq 87 83 true 39 (.bin .sub (T 86) (Ki 1)),
 Gq 88 83 true 119 (.fK 2 (T 85) (T 87)),
 Gq 89 83 true 247 (.load (some 2) (T 88)),
 Gq 90 83 true 7 (.mv (T 0)),
 Gq 91 83 true 7 (.mv (T 13)),
 Gq 92 83 true 1543 (.fK 2 (T 90) (T 91)),
 Gq 93 83 true 3591 (.load (some 2) (T 92)),
 ⟨(some 94),(some (83,true)),8191,true,.iP (T 84) [(T 89),(T 93)]⟩,
 Gq 95 83 true 16383 (.bin .lss (T 94) (Ki 0)),
 Gq 96 83 true 32767 (.un .not (T 95)),
 Fq 97 65535 (.pick (T 83) (T 96) (Kb false))])
 (.cond (T 97)
 (.seq (.region [
 Mv 98 0,
 Mv 99 1,
 Mv 100 2,
 Mv 101 13,
 Mv 102 4,
 D 103 (.call 275 [(T 98),(T 99),(T 100),(T 101),(T 102)]),
 Mv 15 103])
 (.seq (.region [
 Mv 104 15,
 Mv 1 104])
 (.exit 1)))
 .skip))
 (.seq (.region [
 Mv 106 0,
 Mv 107 1,
 Mv 108 2,
 Mv 109 13,
 Mv 110 4,
 D 111 (.call 276 [(T 106),(T 107),(T 108),(T 109),(T 110)]),
 Mv 105 111,
 D 112 (.ext (T 105) 0),
 D 113 (.ext (T 105) 1),
 Mv 16 112,
 Mv 17 113])
 (.seq (.region [
 Mv 114 17,
 Mv 11 114])
 (.seq (.region [
 Mv 115 16,
 Mv 116 1,
 D 117 (.bin .sub (T 115) (T 116)),
 Mv 118 2,
 Mv 119 16,
 D 120 (.bin .sub (T 118) (T 119)),
 Mv 18 117,
 Mv 19 120])
 (.seq (.region [
 Mv 121 12,
 D 122 (.bin .quo (T 121) (Ki 8)),
 Mv 20 122])
 (.seq (.region [
 Mv 123 18,
 Mv 124 19,
 D 125 (.bin .lss (T 123) (T 124))])
 (.cond (T 125)
 (.seq (.region [
 Mv 126 18,
 Mv 127 20,
 D 128 (.bin .geq (T 126) (T 127)),
 Mv 10 128])
 (.seq (.region [
 Mv 129 0,
 Mv 130 1,
 Mv 131 16,
 Mv 132 3,
 Mv 133 4,
 D 134 (.call 255 [(T 129),(T 130),(T 131),(T 132),(T 133)])])
 (.region [
 Mv 135 16,
 D 136 (.bin .add (T 135) (Ki 1)),
 Mv 1 136])))
 (.seq (.region [
 Mv 137 19,
 Mv 138 20,
 D 139 (.bin .geq (T 137) (T 138)),
 Mv 10 139])
 (.seq (.region [
 Mv 140 0,
 Mv 141 16,
 D 142 (.bin .add (T 141) (Ki 1)),
 Mv 143 2,
 Mv 144 3,
 Mv 145 4,
 D 146 (.call 255 [(T 140),(T 142),(T 143),(T 144),(T 145)])])
 (.region [
 Mv 147 16,
 Mv 2 147]))))))))))))))))))
def Wt:AFn:=⟨(.seq (.region [
 D 10 (.mv (Kb true))])
 (.seq (.region [
 D 11 (.mv (Kb true))])
 (.block 0 (.loop [3,11,10,0,1,2,4] pK)))),[]⟩
def Wu:AFn:=⟨(.seq (.region [
 D 2 (.mv (Ki 0))])
 (.seq (.cond (Kb false)
 (.seq (.region [
 Mv 3 0,
 D 4 (.conv .u32 (T 3)),
 D 5 (.call 277 [(T 4)]),
 Mv 2 5])
 .ret)
 .skip)
 (.seq (.region [
 Mv 6 0,
 D 7 (.call 278 [(T 6)]),
 Mv 2 7])
 .ret))),[.tmp 2]⟩
def GP:fG:=(.seq (.seq (.region [
 Mv 18 10,
 Mv 19 11,
 D 20 (.bin .neq (T 18) (T 19))])
 (.cond (T 20)
 .skip
 (.exit 0)))
 (.block 1 (.seq (.region [
 Mv 21 10,
 Mv 22 11,
 D 23 (.bin .gtr (T 21) (T 22))])
 (.cond (T 23)
 (.seq (.region [
 Mv 24 0,
 Mv 25 2,
 Mv 26 10,
 D 27 (.bin .sub (T 25) (T 26)),
 Mv 28 2,
 Mv 29 11,
 Mv 30 4,
 D 31 (.call 279 [(T 24),(T 27),(T 28),(T 29),(T 30)])])
 (.region [
 Mv 32 10,
 Mv 33 11,
 D 34 (.bin .sub (T 32) (T 33)),
 Mv 10 34]))
 (.seq (.region [
 Mv 35 0,
 Mv 36 2,
 Mv 37 10,
 D 38 (.bin .sub (T 36) (T 37)),
 Mv 39 2,
 Mv 40 11,
 D 41 (.bin .add (T 39) (T 40)),
 Mv 42 10,
 D 43 (.bin .sub (T 41) (T 42)),
 Mv 44 10,
 Mv 45 4,
 D 46 (.call 279 [(T 35),(T 38),(T 43),(T 44),(T 45)])])
 (.region [
 Mv 47 11,
 Mv 48 10,
 D 49 (.bin .sub (T 47) (T 48)),
 Mv 11 49]))))))
def Ww:AFn:=⟨(.seq (.region [
 Mv 12 2,
 Mv 13 1,
 D 14 (.bin .sub (T 12) (T 13)),
 Mv 10 14])
 (.seq (.region [
 Mv 15 3,
 Mv 16 2,
 D 17 (.bin .sub (T 15) (T 16)),
 Mv 11 17])
 (.seq (.block 0 (.loop [10,0,2,4,11] GP))
 (.region [
 Mv 50 0,
 Mv 51 2,
 Mv 52 10,
 D 53 (.bin .sub (T 51) (T 52)),
 Mv 54 2,
 Mv 55 10,
 Mv 56 4,
 D 57 (.call 279 [(T 50),(T 53),(T 54),(T 55),(T 56)])])))),[]⟩
def Aj:fG:=(.seq (.region [
 D 7 (.bin .lss (T 6) (Ki 258))])
 (.seq (.cond (T 7)
 .skip
 (.exit 0))
 (.seq (.block 1 (.seq (.region [
 D 8 (.idx 1 258 none (T 5) (T 6)),
 Mv 4 8])
 (.region [
 Mv 9 2,
 Mv 10 4,
 D 11 (.call 283 [(T 10)]),
 D 12 (.bin .add (T 9) (T 11)),
 Mv 2 12])))
 (.region [
 D 13 (.bin .add (T 6) (Ki 1)),
 Mv 6 13]))))
def Wx:AFn:=⟨(.seq (.region [
 D 1 (.box true (T 0)),
 D 2 (.mv (Ki 0))])
 (.seq (.seq (.region [
 D 5 (.load (some 258) (T 1)),
 D 6 (.mv (Ki 0))])
 (.block 0 (.loop [2,6,5] Aj)))
 (.seq (.region [
 Mv 14 2,
 Mv 2 14])
 .ret))),[.tmp 2]⟩
def yV:AFn:=⟨(.seq (.region [
 D 5 (.box true (T 1)),
 D 6 (.box true (T 2)),
 D 8 (.mv (Kb false))])
 (.seq (.seq (.region [
 Mv 9 0,
 D 10 (.load (some 2) (T 5)),
 D 11 (.call 115 [(T 9),(T 10)]),
 D 12 (.un .not (T 11)),
 Mv 13 12,
 Gd 14 13 false (.mv (T 0)),
 Gd 15 13 false (.load (some 2) (T 6)),
 Gd 16 13 false (.call 115 [(T 14),(T 15)]),
 Gd 17 13 false (.un .not (T 16)),
 D 18 (.pick (T 13) (Kb true) (T 17)),
 Mv 19 18,
 Gd 20 19 false (.fQ 1 (T 5)),
 Gd 21 19 false (.load none (T 20)),
 Gd 22 19 false (.call 268 [(T 21),(Ki 1),(Ki 65536)]),
 Gd 23 19 false (.un .not (T 22)),
 D 24 (.pick (T 19) (Kb true) (T 23)),
 Mv 25 24,
 Gd 26 25 false (.mv (T 3)),
 Gd 27 25 false (.call 268 [(T 26),(Ki 1),(Ki 65536)]),
 Gd 28 25 false (.un .not (T 27)),
 D 29 (.pick (T 25) (Kb true) (T 28))])
 (.cond (T 29)
 (.seq (.region [
 D 8 (.mv (Kb false))])
 .ret)
 .skip))
 (.seq (.drawn [
 Fq 30 0 (.load (some 2) (T 5)),
 Fq 31 0 (.load (some 2) (T 6)),
 ⟨(some 32),none,3,true,.call 284 [(T 30),(T 31)]⟩,
 Fq 33 7 (.mv (T 32)),
 Gq 34 33 true 15 (.fQ 1 (T 6)),
 Gq 35 33 true 31 (.load none (T 34)),
 Gq 36 33 true 15 (.fQ 1 (T 5)),
 Gq 37 33 true 79 (.load none (T 36)),
 Gq 38 33 true 15 (.mv (T 3)),
 Gq 39 33 true 463 (.call 285 [(T 37),(T 38)]),
 Gq 40 33 true 1023 (.bin .geq (T 35) (T 39)),
 Fq 41 2047 (.pick (T 33) (T 40) (Kb false)),
 Fq 8 4095 (.mv (T 41))])
 .ret))),[.tmp 8]⟩
def Pw:AFn:=⟨(.seq (.region [
 D 6 (.mv (Kb false))])
 (.seq (.region [
 Mv 7 0,
 Mv 8 1,
 D 9 (.bin .geq (T 7) (T 8)),
 Mv 10 9,
 Gd 11 10 true (.mv (T 0)),
 Gd 12 10 true (.mv (T 2)),
 Gd 13 10 true (.bin .leq (T 11) (T 12)),
 D 14 (.pick (T 10) (T 13) (Kb false)),
 Mv 6 14])
 .ret)),[.tmp 6]⟩
def Ak:fG:=(.seq (.seq (.drawn [
 Fq 18 0 (.mv (T 9)),
 Fq 19 0 (.mv (T 1)),
 Fq 20 3 (.bin .gtr (T 18) (T 19)),
 Fq 21 7 (.mv (T 20)),
 Gq 22 21 true 15 (.mv (T 3)),
 Gq 23 21 true 15 (.mv (T 0)),
 Gq 24 21 true 15 (.mv (T 9)),
 Gq 25 21 true 111 (.fK 2 (T 23) (T 24)),
 Gq 26 21 true 239 (.load (some 2) (T 25)),
 Gq 27 21 true 15 (.mv (T 0)),
 Gq 28 21 true 15 (.mv (T 9)),
 Gq 29 21 true 1039 (.bin .sub (T 28) (Ki 1)),
 Gq 30 21 true 3599 (.fK 2 (T 27) (T 29)),
 Gq 31 21 true 7695 (.load (some 2) (T 30)),
 ⟨(some 32),(some (21,true)),16383,true,.iP (T 22) [(T 26),(T 31)]⟩,
 Gq 33 21 true 32767 (.bin .lss (T 32) (Ki 0)),
 Fq 34 65535 (.pick (T 21) (T 33) (Kb false))])
 (.cond (T 34)
 .skip
 (.exit 2)))
 (.seq (.block 3 (.drawn [
 Fq 37 0 (.mv (T 0)),
 Fq 38 0 (.mv (T 9)),
 Fq 39 0 (.mv (T 0)),
 Fq 40 0 (.mv (T 9)),
 Fq 41 8 (.bin .sub (T 40) (Ki 1)),
 Fq 42 0 (.mv (T 0)),
 Fq 43 0 (.mv (T 9)),
 Fq 44 64 (.bin .sub (T 43) (Ki 1)),
 Fq 45 224 (.fK 2 (T 42) (T 44)),
 Fq 46 480 (.load (some 2) (T 45)),
 Fq 47 0 (.mv (T 0)),
 Fq 48 0 (.mv (T 9)),
 Fq 49 3072 (.fK 2 (T 47) (T 48)),
 Fq 50 7168 (.load (some 2) (T 49)),
 Fq 51 16355 (.fK 2 (T 37) (T 38)),
 ⟨none,none,32739,true,.store 2 (T 51) (T 46)⟩,
 Fq 52 65535 (.fK 2 (T 39) (T 41)),
 ⟨none,none,131071,true,.store 2 (T 52) (T 50)⟩]))
 (.region [
 Mv 35 9,
 D 36 (.bin .sub (T 35) (Ki 1)),
 Mv 9 36])))
def Al:fG:=(.seq (.seq (.region [
 Mv 12 8,
 Mv 13 2,
 D 14 (.bin .lss (T 12) (T 13))])
 (.cond (T 14)
 .skip
 (.exit 0)))
 (.seq (.block 1 (.seq (.region [
 Mv 17 8,
 Mv 9 17])
 (.block 2 (.loop [9,2,1,3,8,0] Ak))))
 (.region [
 Mv 15 8,
 D 16 (.bin .add (T 15) (Ki 1)),
 Mv 8 16])))
def Wy:AFn:=⟨(.seq (.region [
 Mv 10 1,
 D 11 (.bin .add (T 10) (Ki 1)),
 Mv 8 11])
 (.block 0 (.loop [3,1,2,8,0] Al))),[]⟩
def Am:fG:=(.seq (.seq (.region [
 Mv 32 12,
 D 33 (.bin .geq (T 32) (Ki 0))])
 (.cond (T 33)
 .skip
 (.exit 2)))
 (.seq (.block 3 (.seq (.drawn [
 Fq 36 0 (.mv (T 0)),
 Fq 37 0 (.mv (T 8)),
 Fq 38 0 (.mv (T 0)),
 Fq 39 0 (.mv (T 8)),
 Fq 40 0 (.mv (T 12)),
 Fq 41 24 (.bin .add (T 39) (T 40)),
 Fq 42 0 (.mv (T 0)),
 Fq 43 0 (.mv (T 8)),
 Fq 44 0 (.mv (T 12)),
 Fq 45 384 (.bin .add (T 43) (T 44)),
 Fq 46 960 (.fK 2 (T 42) (T 45)),
 Fq 47 1984 (.load (some 2) (T 46)),
 Fq 48 0 (.mv (T 0)),
 Fq 49 0 (.mv (T 8)),
 Fq 50 12288 (.fK 2 (T 48) (T 49)),
 Fq 51 28672 (.load (some 2) (T 50)),
 Fq 52 65475 (.fK 2 (T 36) (T 37)),
 ⟨none,none,131011,true,.store 2 (T 52) (T 47)⟩,
 Fq 53 262143 (.fK 2 (T 38) (T 41)),
 ⟨none,none,524287,true,.store 2 (T 53) (T 51)⟩])
 (.region [
 Mv 54 0,
 Mv 55 9,
 Mv 56 12,
 Mv 57 8,
 Mv 58 3,
 D 59 (.call 286 [(T 54),(T 55),(T 56),(T 57),(T 58)])])))
 (.region [
 Mv 34 12,
 D 35 (.bin .sub (T 34) (Ki 1)),
 Mv 12 35])))
def An:fG:=(.seq (.seq (.region [
 Mv 20 11,
 D 21 (.bin .geq (T 20) (Ki 0))])
 (.cond (T 21)
 .skip
 (.exit 0)))
 (.seq (.block 1 (.region [
 Mv 24 0,
 Mv 25 11,
 Mv 26 10,
 Mv 27 8,
 Mv 28 3,
 D 29 (.call 286 [(T 24),(T 25),(T 26),(T 27),(T 28)])]))
 (.region [
 Mv 22 11,
 D 23 (.bin .sub (T 22) (Ki 1)),
 Mv 11 23])))
def Wz:AFn:=⟨(.seq (.region [
 Mv 13 1,
 Mv 8 13])
 (.seq (.region [
 D 9 (.mv (Ki 0))])
 (.seq (.region [
 Mv 14 2,
 Mv 15 1,
 D 16 (.bin .sub (T 14) (T 15)),
 Mv 10 16])
 (.seq (.seq (.region [
 Mv 17 10,
 D 18 (.bin .sub (T 17) (Ki 1)),
 D 19 (.bin .quo (T 18) (Ki 2)),
 Mv 11 19])
 (.block 0 (.loop [11,9,0,10,8,3] An)))
 (.seq (.region [
 Mv 30 10,
 D 31 (.bin .sub (T 30) (Ki 1)),
 Mv 12 31])
 (.block 2 (.loop [12,0,9,8,3] Am))))))),[]⟩
def rH:fG:=(.seq (.seq (.region [
 Mv 28 11,
 Mv 29 1,
 Mv 30 8,
 D 31 (.bin .quo (T 30) (Ki 4)),
 D 32 (.bin .mul (T 31) (Ki 2)),
 D 33 (.bin .add (T 29) (T 32)),
 D 34 (.bin .add (T 33) (Ki 1)),
 D 35 (.bin .leq (T 28) (T 34))])
 (.cond (T 35)
 .skip
 (.exit 0)))
 (.seq (.block 1 (.seq (.region [
 D 38 (.call 288 [(T 9)]),
 Mv 39 10,
 D 40 (.bin .sub (T 39) (C (.int .u64 1))),
 D 41 (.bin .and (T 38) (T 40)),
 D 42 (.conv .i64 (T 41)),
 Mv 12 42])
 (.seq (.seq (.region [
 Mv 43 12,
 Mv 44 8,
 D 45 (.bin .geq (T 43) (T 44))])
 (.cond (T 45)
 (.region [
 Mv 46 12,
 Mv 47 8,
 D 48 (.bin .sub (T 46) (T 47)),
 Mv 12 48])
 .skip))
 (.drawn [
 Fq 49 0 (.mv (T 0)),
 Fq 50 0 (.mv (T 11)),
 Fq 51 0 (.mv (T 0)),
 Fq 52 0 (.mv (T 1)),
 Fq 53 0 (.mv (T 12)),
 Fq 54 24 (.bin .add (T 52) (T 53)),
 Fq 55 0 (.mv (T 0)),
 Fq 56 0 (.mv (T 1)),
 Fq 57 0 (.mv (T 12)),
 Fq 58 384 (.bin .add (T 56) (T 57)),
 Fq 59 960 (.fK 2 (T 55) (T 58)),
 Fq 60 1984 (.load (some 2) (T 59)),
 Fq 61 0 (.mv (T 0)),
 Fq 62 0 (.mv (T 11)),
 Fq 63 12288 (.fK 2 (T 61) (T 62)),
 Fq 64 28672 (.load (some 2) (T 63)),
 Fq 65 65475 (.fK 2 (T 49) (T 50)),
 ⟨none,none,131011,true,.store 2 (T 65) (T 60)⟩,
 Fq 66 262143 (.fK 2 (T 51) (T 54)),
 ⟨none,none,524287,true,.store 2 (T 66) (T 64)⟩]))))
 (.region [
 Mv 36 11,
 D 37 (.bin .add (T 36) (Ki 1)),
 Mv 11 37])))
def Px:AFn:=⟨(.seq (.region [
 Mv 13 2,
 Mv 14 1,
 D 15 (.bin .sub (T 13) (T 14)),
 Mv 8 15])
 (.seq (.region [
 Mv 16 8,
 D 17 (.bin .geq (T 16) (Ki 8))])
 (.cond (T 17)
 (.seq (.region [
 Mv 18 8,
 D 19 (.conv .u64 (T 18)),
 D 9 (.alloc true [(.int .u64 0)]),
 E (.store 1 (T 9) (T 19))])
 (.seq (.region [
 Mv 20 8,
 D 21 (.call 287 [(T 20)]),
 Mv 10 21])
 (.seq (.region [
 Mv 22 1,
 Mv 23 8,
 D 24 (.bin .quo (T 23) (Ki 4)),
 D 25 (.bin .mul (T 24) (Ki 2)),
 D 26 (.bin .add (T 22) (T 25)),
 D 27 (.bin .sub (T 26) (Ki 1)),
 Mv 11 27])
 (.block 0 (.loop [11,9,10,8,1,0] rH)))))
 .skip))),[]⟩
def yW:AFn:=⟨(.seq (.region [
 D 8 (.mv (Ki 0)),
 D 9 (.mv (Ki 0))])
 (.seq (.region [
 Mv 15 2,
 Mv 16 1,
 D 17 (.bin .sub (T 15) (T 16)),
 Mv 10 17])
 (.seq (.region [
 D 11 (.alloc true [(.int .i64 0)])])
 (.seq (.region [
 Mv 18 1,
 Mv 19 10,
 D 20 (.bin .quo (T 19) (Ki 4)),
 D 21 (.bin .mul (T 20) (Ki 1)),
 D 22 (.bin .add (T 18) (T 21)),
 Mv 12 22])
 (.seq (.region [
 Mv 23 1,
 Mv 24 10,
 D 25 (.bin .quo (T 24) (Ki 4)),
 D 26 (.bin .mul (T 25) (Ki 2)),
 D 27 (.bin .add (T 23) (T 26)),
 Mv 13 27])
 (.seq (.region [
 Mv 28 1,
 Mv 29 10,
 D 30 (.bin .quo (T 29) (Ki 4)),
 D 31 (.bin .mul (T 30) (Ki 3)),
 D 32 (.bin .add (T 28) (T 31)),
 Mv 14 32])
 (.seq (.seq (.region [
 Mv 33 10,
 D 34 (.bin .geq (T 33) (Ki 8))])
 (.cond (T 34)
 (.seq (.seq (.region [
 Mv 35 10,
 D 36 (.bin .geq (T 35) (Ki 50))])
 (.cond (T 36)
 (.seq (.region [
 Mv 37 0,
 Mv 38 12,
 Mv 39 3,
 D 40 (.call 289 [(T 37),(T 38),(T 11),(T 39)]),
 Mv 12 40])
 (.seq (.region [
 Mv 41 0,
 Mv 42 13,
 Mv 43 3,
 D 44 (.call 289 [(T 41),(T 42),(T 11),(T 43)]),
 Mv 13 44])
 (.region [
 Mv 45 0,
 Mv 46 14,
 Mv 47 3,
 D 48 (.call 289 [(T 45),(T 46),(T 11),(T 47)]),
 Mv 14 48])))
 .skip))
 (.region [
 Mv 49 0,
 Mv 50 12,
 Mv 51 13,
 Mv 52 14,
 Mv 53 3,
 D 54 (.call 290 [(T 49),(T 50),(T 51),(T 52),(T 11),(T 53)]),
 Mv 13 54]))
 .skip))
 (.seq (.region [
 D 55 (.load none (T 11))])
 (.block 0 (.seq (.region [
 D 58 (.bin .eql (T 55) (Ki 0)),
 Mv 57 58])
 (.cond (T 57)
 (.seq (.region [
 Mv 59 13,
 Mv 8 59,
 D 9 (.mv (Ki 1))])
 .ret)
 (.seq (.region [
 D 61 (.bin .eql (T 55) (Ki 12)),
 Mv 60 61])
 (.cond (T 60)
 (.seq (.region [
 Mv 62 13,
 Mv 8 62,
 D 9 (.mv (Ki 2))])
 .ret)
 (.seq (.region [
 Mv 56 13,
 Mv 8 56,
 D 9 (.mv (Ki 0))])
 .ret)))))))))))))),[.tmp 8,.tmp 9]⟩
def Ao:fG:=(.seq (.seq (.region [
 Mv 13 8,
 Mv 14 9,
 D 15 (.bin .lss (T 13) (T 14))])
 (.cond (T 15)
 .skip
 (.exit 0)))
 (.block 1 (.seq (.drawn [
 Fq 16 0 (.mv (T 0)),
 Fq 17 0 (.mv (T 8)),
 Fq 18 0 (.mv (T 0)),
 Fq 19 0 (.mv (T 9)),
 Fq 20 0 (.mv (T 0)),
 Fq 21 0 (.mv (T 9)),
 Fq 22 48 (.fK 2 (T 20) (T 21)),
 Fq 23 112 (.load (some 2) (T 22)),
 Fq 24 0 (.mv (T 0)),
 Fq 25 0 (.mv (T 8)),
 Fq 26 768 (.fK 2 (T 24) (T 25)),
 Fq 27 1792 (.load (some 2) (T 26)),
 Fq 28 4083 (.fK 2 (T 16) (T 17)),
 ⟨none,none,8179,true,.store 2 (T 28) (T 23)⟩,
 Fq 29 16383 (.fK 2 (T 18) (T 19)),
 ⟨none,none,32767,true,.store 2 (T 29) (T 27)⟩])
 (.seq (.region [
 Mv 30 8,
 D 31 (.bin .add (T 30) (Ki 1)),
 Mv 8 31])
 (.region [
 Mv 32 9,
 D 33 (.bin .sub (T 32) (Ki 1)),
 Mv 9 33])))))
def WA:AFn:=⟨(.seq (.region [
 Mv 10 1,
 Mv 8 10])
 (.seq (.region [
 Mv 11 2,
 D 12 (.bin .sub (T 11) (Ki 1)),
 Mv 9 12])
 (.block 0 (.loop [8,9,0] Ao)))),[]⟩
def GQ:fG:=(.seq (.seq (.region [
 Mv 107 12,
 Mv 108 2,
 D 109 (.bin .lss (T 107) (T 108))])
 (.cond (T 109)
 .skip
 (.exit 6)))
 (.seq (.block 7 (.seq (.seq (.drawn [
 Fq 112 0 (.mv (T 3)),
 Fq 113 0 (.mv (T 0)),
 Fq 114 0 (.mv (T 12)),
 Fq 115 6 (.fK 2 (T 113) (T 114)),
 Fq 116 14 (.load (some 2) (T 115)),
 Fq 117 0 (.mv (T 0)),
 Fq 118 0 (.mv (T 12)),
 Fq 119 64 (.bin .sub (T 118) (Ki 1)),
 Fq 120 224 (.fK 2 (T 117) (T 119)),
 Fq 121 480 (.load (some 2) (T 120)),
 ⟨(some 122),none,1023,true,.iP (T 112) [(T 116),(T 121)]⟩,
 Fq 123 2047 (.bin .lss (T 122) (Ki 0)),
 Fq 124 4095 (.un .not (T 123))])
 (.cond (T 124)
 (.exit 6)
 .skip))
 (.drawn [
 Fq 125 0 (.mv (T 0)),
 Fq 126 0 (.mv (T 12)),
 Fq 127 0 (.mv (T 0)),
 Fq 128 0 (.mv (T 12)),
 Fq 129 8 (.bin .sub (T 128) (Ki 1)),
 Fq 130 0 (.mv (T 0)),
 Fq 131 0 (.mv (T 12)),
 Fq 132 64 (.bin .sub (T 131) (Ki 1)),
 Fq 133 224 (.fK 2 (T 130) (T 132)),
 Fq 134 480 (.load (some 2) (T 133)),
 Fq 135 0 (.mv (T 0)),
 Fq 136 0 (.mv (T 12)),
 Fq 137 3072 (.fK 2 (T 135) (T 136)),
 Fq 138 7168 (.load (some 2) (T 137)),
 Fq 139 16355 (.fK 2 (T 125) (T 126)),
 ⟨none,none,32739,true,.store 2 (T 139) (T 134)⟩,
 Fq 140 65535 (.fK 2 (T 127) (T 129)),
 ⟨none,none,131071,true,.store 2 (T 140) (T 138)⟩])))
 (.region [
 Mv 110 12,
 D 111 (.bin .add (T 110) (Ki 1)),
 Mv 12 111])))
def Ap:fG:=(.seq (.seq (.region [
 Mv 68 11,
 D 69 (.bin .geq (T 68) (Ki 1))])
 (.cond (T 69)
 .skip
 (.exit 4)))
 (.seq (.block 5 (.seq (.seq (.drawn [
 Fq 72 0 (.mv (T 3)),
 Fq 73 0 (.mv (T 0)),
 Fq 74 0 (.mv (T 11)),
 Fq 75 6 (.fK 2 (T 73) (T 74)),
 Fq 76 14 (.load (some 2) (T 75)),
 Fq 77 0 (.mv (T 0)),
 Fq 78 0 (.mv (T 11)),
 Fq 79 64 (.bin .sub (T 78) (Ki 1)),
 Fq 80 224 (.fK 2 (T 77) (T 79)),
 Fq 81 480 (.load (some 2) (T 80)),
 ⟨(some 82),none,1023,true,.iP (T 72) [(T 76),(T 81)]⟩,
 Fq 83 2047 (.bin .lss (T 82) (Ki 0)),
 Fq 84 4095 (.un .not (T 83))])
 (.cond (T 84)
 (.exit 4)
 .skip))
 (.drawn [
 Fq 85 0 (.mv (T 0)),
 Fq 86 0 (.mv (T 11)),
 Fq 87 0 (.mv (T 0)),
 Fq 88 0 (.mv (T 11)),
 Fq 89 8 (.bin .sub (T 88) (Ki 1)),
 Fq 90 0 (.mv (T 0)),
 Fq 91 0 (.mv (T 11)),
 Fq 92 64 (.bin .sub (T 91) (Ki 1)),
 Fq 93 224 (.fK 2 (T 90) (T 92)),
 Fq 94 480 (.load (some 2) (T 93)),
 Fq 95 0 (.mv (T 0)),
 Fq 96 0 (.mv (T 11)),
 Fq 97 3072 (.fK 2 (T 95) (T 96)),
 Fq 98 7168 (.load (some 2) (T 97)),
 Fq 99 16355 (.fK 2 (T 85) (T 86)),
 ⟨none,none,32739,true,.store 2 (T 99) (T 94)⟩,
 Fq 100 65535 (.fK 2 (T 87) (T 89)),
 ⟨none,none,131071,true,.store 2 (T 100) (T 98)⟩])))
 (.region [
 Mv 70 11,
 D 71 (.bin .sub (T 70) (Ki 1)),
 Mv 11 71])))
def GR:fG:=(.seq (.seq (.drawn [
 Fq 19 0 (.mv (T 9)),
 Fq 20 0 (.mv (T 2)),
 Fq 21 3 (.bin .lss (T 19) (T 20)),
 Fq 22 7 (.mv (T 21)),
 Gq 23 22 true 15 (.mv (T 3)),
 Gq 24 22 true 15 (.mv (T 0)),
 Gq 25 22 true 15 (.mv (T 9)),
 Gq 26 22 true 111 (.fK 2 (T 24) (T 25)),
 Gq 27 22 true 239 (.load (some 2) (T 26)),
 Gq 28 22 true 15 (.mv (T 0)),
 Gq 29 22 true 15 (.mv (T 9)),
 Gq 30 22 true 1039 (.bin .sub (T 29) (Ki 1)),
 Gq 31 22 true 3599 (.fK 2 (T 28) (T 30)),
 Gq 32 22 true 7695 (.load (some 2) (T 31)),
 ⟨(some 33),(some (22,true)),16383,true,.iP (T 23) [(T 27),(T 32)]⟩,
 Gq 34 22 true 32767 (.bin .lss (T 33) (Ki 0)),
 Gq 35 22 true 65535 (.un .not (T 34)),
 Fq 36 131071 (.pick (T 22) (T 35) (Kb false))])
 (.cond (T 36)
 .skip
 (.exit 2)))
 (.block 3 (.region [
 Mv 37 9,
 D 38 (.bin .add (T 37) (Ki 1)),
 Mv 9 38])))
def Aq:fG:=(.seq (.seq (.region [
 Mv 15 10,
 D 16 (.bin .lss (T 15) (Ki 5))])
 (.cond (T 16)
 .skip
 (.exit 0)))
 (.seq (.block 1 (.seq (.block 2 (.loop [9,2,3,0,1,10] GR))
 (.seq (.seq (.region [
 Mv 39 9,
 Mv 40 2,
 D 41 (.bin .eql (T 39) (T 40))])
 (.cond (T 41)
 (.seq (.region [
 D 8 (.mv (Kb true))])
 .ret)
 .skip))
 (.seq (.seq (.region [
 Mv 42 2,
 Mv 43 1,
 D 44 (.bin .sub (T 42) (T 43)),
 D 45 (.bin .lss (T 44) (Ki 50))])
 (.cond (T 45)
 (.seq (.region [
 D 8 (.mv (Kb false))])
 .ret)
 .skip))
 (.seq (.drawn [
 Fq 46 0 (.mv (T 0)),
 Fq 47 0 (.mv (T 9)),
 Fq 48 0 (.mv (T 0)),
 Fq 49 0 (.mv (T 9)),
 Fq 50 8 (.bin .sub (T 49) (Ki 1)),
 Fq 51 0 (.mv (T 0)),
 Fq 52 0 (.mv (T 9)),
 Fq 53 64 (.bin .sub (T 52) (Ki 1)),
 Fq 54 224 (.fK 2 (T 51) (T 53)),
 Fq 55 480 (.load (some 2) (T 54)),
 Fq 56 0 (.mv (T 0)),
 Fq 57 0 (.mv (T 9)),
 Fq 58 3072 (.fK 2 (T 56) (T 57)),
 Fq 59 7168 (.load (some 2) (T 58)),
 Fq 60 16355 (.fK 2 (T 46) (T 47)),
 ⟨none,none,32739,true,.store 2 (T 60) (T 55)⟩,
 Fq 61 65535 (.fK 2 (T 48) (T 50)),
 ⟨none,none,131071,true,.store 2 (T 61) (T 59)⟩])
 (.seq (.seq (.region [
 Mv 62 9,
 Mv 63 1,
 D 64 (.bin .sub (T 62) (T 63)),
 D 65 (.bin .geq (T 64) (Ki 2))])
 (.cond (T 65)
 (.seq (.region [
 Mv 66 9,
 D 67 (.bin .sub (T 66) (Ki 1)),
 Mv 11 67])
 (.block 4 (.loop [11,10,9,1,0,3,2] Ap)))
 .skip))
 (.seq (.region [
 Mv 101 2,
 Mv 102 9,
 D 103 (.bin .sub (T 101) (T 102)),
 D 104 (.bin .geq (T 103) (Ki 2))])
 (.cond (T 104)
 (.seq (.region [
 Mv 105 9,
 D 106 (.bin .add (T 105) (Ki 1)),
 Mv 12 106])
 (.block 6 (.loop [12,10,9,1,0,3,2] GQ)))
 .skip))))))))
 (.region [
 Mv 17 10,
 D 18 (.bin .add (T 17) (Ki 1)),
 Mv 10 18])))
def Py:AFn:=⟨(.seq (.region [
 D 8 (.mv (Kb false))])
 (.seq (.region [
 Mv 13 1,
 D 14 (.bin .add (T 13) (Ki 1)),
 Mv 9 14])
 (.seq (.seq (.region [
 D 10 (.mv (Ki 0))])
 (.block 0 (.loop [9,1,0,3,2,10] Aq)))
 (.seq (.region [
 D 8 (.mv (Kb false))])
 .ret)))),[.tmp 8]⟩
def Ar:fG:=(.seq (.seq (.drawn [
 Fq 50 0 (.mv (T 11)),
 Fq 51 0 (.mv (T 12)),
 Fq 52 3 (.bin .leq (T 50) (T 51)),
 Fq 53 7 (.mv (T 52)),
 Gq 54 53 true 15 (.mv (T 4)),
 Gq 55 53 true 15 (.mv (T 0)),
 Gq 56 53 true 15 (.mv (T 1)),
 Gq 57 53 true 111 (.fK 2 (T 55) (T 56)),
 Gq 58 53 true 239 (.load (some 2) (T 57)),
 Gq 59 53 true 15 (.mv (T 0)),
 Gq 60 53 true 15 (.mv (T 12)),
 Gq 61 53 true 1551 (.fK 2 (T 59) (T 60)),
 Gq 62 53 true 3599 (.load (some 2) (T 61)),
 ⟨(some 63),(some (53,true)),8191,true,.iP (T 54) [(T 58),(T 62)]⟩,
 Gq 64 53 true 16383 (.bin .lss (T 63) (Ki 0)),
 Fq 65 32767 (.pick (T 53) (T 64) (Kb false))])
 (.cond (T 65)
 .skip
 (.exit 4)))
 (.block 5 (.region [
 Mv 66 12,
 D 67 (.bin .sub (T 66) (Ki 1)),
 Mv 12 67])))
def GS:fG:=(.seq (.seq (.drawn [
 Fq 31 0 (.mv (T 11)),
 Fq 32 0 (.mv (T 12)),
 Fq 33 3 (.bin .leq (T 31) (T 32)),
 Fq 34 7 (.mv (T 33)),
 Gq 35 34 true 15 (.mv (T 4)),
 Gq 36 34 true 15 (.mv (T 0)),
 Gq 37 34 true 15 (.mv (T 1)),
 Gq 38 34 true 111 (.fK 2 (T 36) (T 37)),
 Gq 39 34 true 239 (.load (some 2) (T 38)),
 Gq 40 34 true 15 (.mv (T 0)),
 Gq 41 34 true 15 (.mv (T 11)),
 Gq 42 34 true 1551 (.fK 2 (T 40) (T 41)),
 Gq 43 34 true 3599 (.load (some 2) (T 42)),
 ⟨(some 44),(some (34,true)),8191,true,.iP (T 35) [(T 39),(T 43)]⟩,
 Gq 45 34 true 16383 (.bin .lss (T 44) (Ki 0)),
 Gq 46 34 true 32767 (.un .not (T 45)),
 Fq 47 65535 (.pick (T 34) (T 46) (Kb false))])
 (.cond (T 47)
 .skip
 (.exit 2)))
 (.block 3 (.region [
 Mv 48 11,
 D 49 (.bin .add (T 48) (Ki 1)),
 Mv 11 49])))
def As:fG:=(.block 1 (.seq (.block 2 (.loop [11,0,1,4,12] GS))
 (.seq (.block 4 (.loop [12,11,4,1,0] Ar))
 (.seq (.seq (.region [
 Mv 68 11,
 Mv 69 12,
 D 70 (.bin .gtr (T 68) (T 69))])
 (.cond (T 70)
 (.exit 0)
 .skip))
 (.seq (.drawn [
 Fq 71 0 (.mv (T 0)),
 Fq 72 0 (.mv (T 11)),
 Fq 73 0 (.mv (T 0)),
 Fq 74 0 (.mv (T 12)),
 Fq 75 0 (.mv (T 0)),
 Fq 76 0 (.mv (T 12)),
 Fq 77 48 (.fK 2 (T 75) (T 76)),
 Fq 78 112 (.load (some 2) (T 77)),
 Fq 79 0 (.mv (T 0)),
 Fq 80 0 (.mv (T 11)),
 Fq 81 768 (.fK 2 (T 79) (T 80)),
 Fq 82 1792 (.load (some 2) (T 81)),
 Fq 83 4083 (.fK 2 (T 71) (T 72)),
 ⟨none,none,8179,true,.store 2 (T 83) (T 78)⟩,
 Fq 84 16383 (.fK 2 (T 73) (T 74)),
 ⟨none,none,32767,true,.store 2 (T 84) (T 82)⟩])
 (.seq (.region [
 Mv 85 11,
 D 86 (.bin .add (T 85) (Ki 1)),
 Mv 11 86])
 (.region [
 Mv 87 12,
 D 88 (.bin .sub (T 87) (Ki 1)),
 Mv 12 88])))))))
def WB:AFn:=⟨(.seq (.region [
 D 10 (.mv (Ki 0))])
 (.seq (.drawn [
 Fq 13 0 (.mv (T 0)),
 Fq 14 0 (.mv (T 1)),
 Fq 15 0 (.mv (T 0)),
 Fq 16 0 (.mv (T 3)),
 Fq 17 0 (.mv (T 0)),
 Fq 18 0 (.mv (T 3)),
 Fq 19 48 (.fK 2 (T 17) (T 18)),
 Fq 20 112 (.load (some 2) (T 19)),
 Fq 21 0 (.mv (T 0)),
 Fq 22 0 (.mv (T 1)),
 Fq 23 768 (.fK 2 (T 21) (T 22)),
 Fq 24 1792 (.load (some 2) (T 23)),
 Fq 25 4083 (.fK 2 (T 13) (T 14)),
 ⟨none,none,8179,true,.store 2 (T 25) (T 20)⟩,
 Fq 26 16383 (.fK 2 (T 15) (T 16)),
 ⟨none,none,32767,true,.store 2 (T 26) (T 24)⟩])
 (.seq (.region [
 Mv 27 1,
 D 28 (.bin .add (T 27) (Ki 1)),
 Mv 29 2,
 D 30 (.bin .sub (T 29) (Ki 1)),
 Mv 11 28,
 Mv 12 30])
 (.seq (.block 0 (.loop [11,4,1,0,12] As))
 (.seq (.region [
 Mv 89 11,
 Mv 10 89])
 .ret))))),[.tmp 10]⟩
def Au:fG:=(.seq (.seq (.drawn [
 Fq 123 0 (.mv (T 12)),
 Fq 124 0 (.mv (T 13)),
 Fq 125 3 (.bin .leq (T 123) (T 124)),
 Fq 126 7 (.mv (T 125)),
 Gq 127 126 true 15 (.mv (T 4)),
 Gq 128 126 true 15 (.mv (T 0)),
 Gq 129 126 true 15 (.mv (T 13)),
 Gq 130 126 true 111 (.fK 2 (T 128) (T 129)),
 Gq 131 126 true 239 (.load (some 2) (T 130)),
 Gq 132 126 true 15 (.mv (T 0)),
 Gq 133 126 true 15 (.mv (T 1)),
 Gq 134 126 true 1551 (.fK 2 (T 132) (T 133)),
 Gq 135 126 true 3599 (.load (some 2) (T 134)),
 ⟨(some 136),(some (126,true)),8191,true,.iP (T 127) [(T 131),(T 135)]⟩,
 Gq 137 126 true 16383 (.bin .lss (T 136) (Ki 0)),
 Gq 138 126 true 32767 (.un .not (T 137)),
 Fq 139 65535 (.pick (T 126) (T 138) (Kb false))])
 (.cond (T 139)
 .skip
 (.exit 8)))
 (.block 9 (.region [
 Mv 140 13,
 D 141 (.bin .sub (T 140) (Ki 1)),
 Mv 13 141])))
def GU:fG:=(.seq (.seq (.drawn [
 Fq 105 0 (.mv (T 12)),
 Fq 106 0 (.mv (T 13)),
 Fq 107 3 (.bin .leq (T 105) (T 106)),
 Fq 108 7 (.mv (T 107)),
 Gq 109 108 true 15 (.mv (T 4)),
 Gq 110 108 true 15 (.mv (T 0)),
 Gq 111 108 true 15 (.mv (T 12)),
 Gq 112 108 true 111 (.fK 2 (T 110) (T 111)),
 Gq 113 108 true 239 (.load (some 2) (T 112)),
 Gq 114 108 true 15 (.mv (T 0)),
 Gq 115 108 true 15 (.mv (T 1)),
 Gq 116 108 true 1551 (.fK 2 (T 114) (T 115)),
 Gq 117 108 true 3599 (.load (some 2) (T 116)),
 ⟨(some 118),(some (108,true)),8191,true,.iP (T 109) [(T 113),(T 117)]⟩,
 Gq 119 108 true 16383 (.bin .lss (T 118) (Ki 0)),
 Fq 120 32767 (.pick (T 108) (T 119) (Kb false))])
 (.cond (T 120)
 .skip
 (.exit 6)))
 (.block 7 (.region [
 Mv 121 12,
 D 122 (.bin .add (T 121) (Ki 1)),
 Mv 12 122])))
def Av:fG:=(.block 5 (.seq (.block 6 (.loop [12,4,1,0,13] GU))
 (.seq (.block 8 (.loop [13,0,1,12,4] Au))
 (.seq (.seq (.region [
 Mv 142 12,
 Mv 143 13,
 D 144 (.bin .gtr (T 142) (T 143))])
 (.cond (T 144)
 (.exit 4)
 .skip))
 (.seq (.drawn [
 Fq 145 0 (.mv (T 0)),
 Fq 146 0 (.mv (T 12)),
 Fq 147 0 (.mv (T 0)),
 Fq 148 0 (.mv (T 13)),
 Fq 149 0 (.mv (T 0)),
 Fq 150 0 (.mv (T 13)),
 Fq 151 48 (.fK 2 (T 149) (T 150)),
 Fq 152 112 (.load (some 2) (T 151)),
 Fq 153 0 (.mv (T 0)),
 Fq 154 0 (.mv (T 12)),
 Fq 155 768 (.fK 2 (T 153) (T 154)),
 Fq 156 1792 (.load (some 2) (T 155)),
 Fq 157 4083 (.fK 2 (T 145) (T 146)),
 ⟨none,none,8179,true,.store 2 (T 157) (T 152)⟩,
 Fq 158 16383 (.fK 2 (T 147) (T 148)),
 ⟨none,none,32767,true,.store 2 (T 158) (T 156)⟩])
 (.seq (.region [
 Mv 159 12,
 D 160 (.bin .add (T 159) (Ki 1)),
 Mv 12 160])
 (.region [
 Mv 161 13,
 D 162 (.bin .sub (T 161) (Ki 1)),
 Mv 13 162])))))))
def Aw:fG:=(.seq (.seq (.drawn [
 Fq 50 0 (.mv (T 12)),
 Fq 51 0 (.mv (T 13)),
 Fq 52 3 (.bin .leq (T 50) (T 51)),
 Fq 53 7 (.mv (T 52)),
 Gq 54 53 true 15 (.mv (T 4)),
 Gq 55 53 true 15 (.mv (T 0)),
 Gq 56 53 true 15 (.mv (T 13)),
 Gq 57 53 true 111 (.fK 2 (T 55) (T 56)),
 Gq 58 53 true 239 (.load (some 2) (T 57)),
 Gq 59 53 true 15 (.mv (T 0)),
 Gq 60 53 true 15 (.mv (T 1)),
 Gq 61 53 true 1551 (.fK 2 (T 59) (T 60)),
 Gq 62 53 true 3599 (.load (some 2) (T 61)),
 ⟨(some 63),(some (53,true)),8191,true,.iP (T 54) [(T 58),(T 62)]⟩,
 Gq 64 53 true 16383 (.bin .lss (T 63) (Ki 0)),
 Gq 65 53 true 32767 (.un .not (T 64)),
 Fq 66 65535 (.pick (T 53) (T 65) (Kb false))])
 (.cond (T 66)
 .skip
 (.exit 2)))
 (.block 3 (.region [
 Mv 67 13,
 D 68 (.bin .sub (T 67) (Ki 1)),
 Mv 13 68])))
def GV:fG:=(.seq (.seq (.drawn [
 Fq 32 0 (.mv (T 12)),
 Fq 33 0 (.mv (T 13)),
 Fq 34 3 (.bin .leq (T 32) (T 33)),
 Fq 35 7 (.mv (T 34)),
 Gq 36 35 true 15 (.mv (T 4)),
 Gq 37 35 true 15 (.mv (T 0)),
 Gq 38 35 true 15 (.mv (T 12)),
 Gq 39 35 true 111 (.fK 2 (T 37) (T 38)),
 Gq 40 35 true 239 (.load (some 2) (T 39)),
 Gq 41 35 true 15 (.mv (T 0)),
 Gq 42 35 true 15 (.mv (T 1)),
 Gq 43 35 true 1551 (.fK 2 (T 41) (T 42)),
 Gq 44 35 true 3599 (.load (some 2) (T 43)),
 ⟨(some 45),(some (35,true)),8191,true,.iP (T 36) [(T 40),(T 44)]⟩,
 Gq 46 35 true 16383 (.bin .lss (T 45) (Ki 0)),
 Fq 47 32767 (.pick (T 35) (T 46) (Kb false))])
 (.cond (T 47)
 .skip
 (.exit 0)))
 (.block 1 (.region [
 Mv 48 12,
 D 49 (.bin .add (T 48) (Ki 1)),
 Mv 12 49])))
def Pz:AFn:=⟨(.seq (.region [
 D 10 (.mv (Ki 0)),
 D 11 (.mv (Kb false))])
 (.seq (.drawn [
 Fq 14 0 (.mv (T 0)),
 Fq 15 0 (.mv (T 1)),
 Fq 16 0 (.mv (T 0)),
 Fq 17 0 (.mv (T 3)),
 Fq 18 0 (.mv (T 0)),
 Fq 19 0 (.mv (T 3)),
 Fq 20 48 (.fK 2 (T 18) (T 19)),
 Fq 21 112 (.load (some 2) (T 20)),
 Fq 22 0 (.mv (T 0)),
 Fq 23 0 (.mv (T 1)),
 Fq 24 768 (.fK 2 (T 22) (T 23)),
 Fq 25 1792 (.load (some 2) (T 24)),
 Fq 26 4083 (.fK 2 (T 14) (T 15)),
 ⟨none,none,8179,true,.store 2 (T 26) (T 21)⟩,
 Fq 27 16383 (.fK 2 (T 16) (T 17)),
 ⟨none,none,32767,true,.store 2 (T 27) (T 25)⟩])
 (.seq (.region [
 Mv 28 1,
 D 29 (.bin .add (T 28) (Ki 1)),
 Mv 30 2,
 D 31 (.bin .sub (T 30) (Ki 1)),
 Mv 12 29,
 Mv 13 31])
 (.seq (.block 0 (.loop [12,4,1,0,13] GV))
 (.seq (.block 2 (.loop [13,0,1,12,4] Aw))
 (.seq (.seq (.region [
 Mv 69 12,
 Mv 70 13,
 D 71 (.bin .gtr (T 69) (T 70))])
 (.cond (T 71)
 (.seq (.drawn [
 Fq 72 0 (.mv (T 0)),
 Fq 73 0 (.mv (T 13)),
 Fq 74 0 (.mv (T 0)),
 Fq 75 0 (.mv (T 1)),
 Fq 76 0 (.mv (T 0)),
 Fq 77 0 (.mv (T 1)),
 Fq 78 48 (.fK 2 (T 76) (T 77)),
 Fq 79 112 (.load (some 2) (T 78)),
 Fq 80 0 (.mv (T 0)),
 Fq 81 0 (.mv (T 13)),
 Fq 82 768 (.fK 2 (T 80) (T 81)),
 Fq 83 1792 (.load (some 2) (T 82)),
 Fq 84 4083 (.fK 2 (T 72) (T 73)),
 ⟨none,none,8179,true,.store 2 (T 84) (T 79)⟩,
 Fq 85 16383 (.fK 2 (T 74) (T 75)),
 ⟨none,none,32767,true,.store 2 (T 85) (T 83)⟩])
 (.seq (.region [
 Mv 86 13,
 Mv 10 86,
 D 11 (.mv (Kb true))])
 .ret))
 .skip))
 (.seq (.drawn [
 Fq 87 0 (.mv (T 0)),
 Fq 88 0 (.mv (T 12)),
 Fq 89 0 (.mv (T 0)),
 Fq 90 0 (.mv (T 13)),
 Fq 91 0 (.mv (T 0)),
 Fq 92 0 (.mv (T 13)),
 Fq 93 48 (.fK 2 (T 91) (T 92)),
 Fq 94 112 (.load (some 2) (T 93)),
 Fq 95 0 (.mv (T 0)),
 Fq 96 0 (.mv (T 12)),
 Fq 97 768 (.fK 2 (T 95) (T 96)),
 Fq 98 1792 (.load (some 2) (T 97)),
 Fq 99 4083 (.fK 2 (T 87) (T 88)),
 ⟨none,none,8179,true,.store 2 (T 99) (T 94)⟩,
 Fq 100 16383 (.fK 2 (T 89) (T 90)),
 ⟨none,none,32767,true,.store 2 (T 100) (T 98)⟩])
 (.seq (.region [
 Mv 101 12,
 D 102 (.bin .add (T 101) (Ki 1)),
 Mv 12 102])
 (.seq (.region [
 Mv 103 13,
 D 104 (.bin .sub (T 103) (Ki 1)),
 Mv 13 104])
 (.seq (.block 4 (.loop [12,4,1,0,13] Av))
 (.seq (.drawn [
 Fq 163 0 (.mv (T 0)),
 Fq 164 0 (.mv (T 13)),
 Fq 165 0 (.mv (T 0)),
 Fq 166 0 (.mv (T 1)),
 Fq 167 0 (.mv (T 0)),
 Fq 168 0 (.mv (T 1)),
 Fq 169 48 (.fK 2 (T 167) (T 168)),
 Fq 170 112 (.load (some 2) (T 169)),
 Fq 171 0 (.mv (T 0)),
 Fq 172 0 (.mv (T 13)),
 Fq 173 768 (.fK 2 (T 171) (T 172)),
 Fq 174 1792 (.load (some 2) (T 173)),
 Fq 175 4083 (.fK 2 (T 163) (T 164)),
 ⟨none,none,8179,true,.store 2 (T 175) (T 170)⟩,
 Fq 176 16383 (.fK 2 (T 165) (T 166)),
 ⟨none,none,32767,true,.store 2 (T 176) (T 174)⟩])
 (.seq (.region [
 Mv 177 13,
 Mv 10 177,
 D 11 (.mv (Kb false))])
 .ret)))))))))))),[.tmp 10,.tmp 11]⟩
def WC:AFn:=⟨(.seq (.region [
 D 2 (.mv (Ki 0))])
 (.seq (.seq (.region [
 Mv 3 0,
 D 4 (.bin .geq (T 3) (C (.int .u64 4294967296)))])
 (.cond (T 4)
 (.seq (.region [
 Mv 5 0,
 D 6 (.bin .shr (T 5) (C (.int .u64 32))),
 Mv 0 6])
 (.region [
 D 2 (.mv (Ki 32))]))
 .skip))
 (.seq (.seq (.region [
 Mv 7 0,
 D 8 (.bin .geq (T 7) (C (.int .u64 65536)))])
 (.cond (T 8)
 (.seq (.region [
 Mv 9 0,
 D 10 (.bin .shr (T 9) (C (.int .u64 16))),
 Mv 0 10])
 (.region [
 Mv 11 2,
 D 12 (.bin .add (T 11) (Ki 16)),
 Mv 2 12]))
 .skip))
 (.seq (.seq (.region [
 Mv 13 0,
 D 14 (.bin .geq (T 13) (C (.int .u64 256)))])
 (.cond (T 14)
 (.seq (.region [
 Mv 15 0,
 D 16 (.bin .shr (T 15) (C (.int .u64 8))),
 Mv 0 16])
 (.region [
 Mv 17 2,
 D 18 (.bin .add (T 17) (Ki 8)),
 Mv 2 18]))
 .skip))
 (.seq (.region [
 Mv 19 2,
 Mv 20 0,
 D 21 (.conv .u8 (T 20)),
 D 22 (.idxs (C (.string ⟨#[0,1,2,2,3,3,3,3,4,4,4,4,4,4,4,4,5,5,5,5,5,5,5,5,5,5,5,5,5,5,5,5,6,6,6,6,6,6,6,6,6,6,6,6,6,6,6,6,6,6,6,6,6,6,6,6,6,6,6,6,6,6,6,6,7,7,7,7,7,7,7,7,7,7,7,7,7,7,7,7,7,7,7,7,7,7,7,7,7,7,7,7,7,7,7,7,7,7,7,7,7,7,7,7,7,7,7,7,7,7,7,7,7,7,7,7,7,7,7,7,7,7,7,7,7,7,7,7,8,8,8,8,8,8,8,8,8,8,8,8,8,8,8,8,8,8,8,8,8,8,8,8,8,8,8,8,8,8,8,8,8,8,8,8,8,8,8,8,8,8,8,8,8,8,8,8,8,8,8,8,8,8,8,8,8,8,8,8,8,8,8,8,8,8,8,8,8,8,8,8,8,8,8,8,8,8,8,8,8,8,8,8,8,8,8,8,8,8,8,8,8,8,8,8,8,8,8,8,8,8,8,8,8,8,8,8,8,8,8,8,8,8,8,8,8,8,8,8,8,8,8,8,8,8,8,8]⟩)) (T 21)),
 D 23 (.conv .i64 (T 22)),
 D 24 (.bin .add (T 19) (T 23)),
 Mv 2 24])
 .ret))))),[.tmp 2]⟩
def Ax:fG:=(.seq (.seq (.region [
 Mv 11 10,
 Mv 12 3,
 D 13 (.bin .lss (T 11) (T 12))])
 (.cond (T 13)
 .skip
 (.exit 0)))
 (.seq (.block 1 (.drawn [
 Fq 16 0 (.mv (T 0)),
 Fq 17 0 (.mv (T 1)),
 Fq 18 0 (.mv (T 10)),
 Fq 19 6 (.bin .add (T 17) (T 18)),
 Fq 20 0 (.mv (T 0)),
 Fq 21 0 (.mv (T 2)),
 Fq 22 0 (.mv (T 10)),
 Fq 23 96 (.bin .add (T 21) (T 22)),
 Fq 24 0 (.mv (T 0)),
 Fq 25 0 (.mv (T 2)),
 Fq 26 0 (.mv (T 10)),
 Fq 27 1536 (.bin .add (T 25) (T 26)),
 Fq 28 3840 (.fK 1 (T 24) (T 27)),
 Fq 29 7936 (.load none (T 28)),
 Fq 30 0 (.mv (T 0)),
 Fq 31 0 (.mv (T 1)),
 Fq 32 0 (.mv (T 10)),
 Fq 33 98304 (.bin .add (T 31) (T 32)),
 Fq 34 245760 (.fK 1 (T 30) (T 33)),
 Fq 35 507904 (.load none (T 34)),
 Fq 36 1048335 (.fK 1 (T 16) (T 19)),
 ⟨none,none,2096911,true,.store 1 (T 36) (T 29)⟩,
 Fq 37 4194303 (.fK 1 (T 20) (T 23)),
 ⟨none,none,8388607,true,.store 1 (T 37) (T 35)⟩]))
 (.region [
 Mv 14 10,
 D 15 (.bin .add (T 14) (Ki 1)),
 Mv 10 15])))
def WD:AFn:=⟨(.seq (.region [
 D 10 (.mv (Ki 0))])
 (.block 0 (.loop [10,3,2,0,1] Ax))),[]⟩
def Kh:AFn:=⟨(.seq (.region [
 D 2 (.mv (Ki 0))])
 (.seq (.block 0 (.seq (.region [
 Mv 4 0,
 D 5 (.bin .eql (T 4) (C (.int .u8 0))),
 Mv 3 5])
 (.cond (T 3)
 (.seq (.region [
 D 2 (.mv (Ki 0))])
 .ret)
 (.seq (.region [
 Mv 7 0,
 D 8 (.bin .gtr (T 7) (C (.int .u8 15))),
 Mv 6 8])
 (.cond (T 6)
 (.seq (.region [
 D 2 (.mv (Ki 32769))])
 .ret)
 .skip)))))
 (.seq (.region [
 Mv 9 0,
 D 10 (.bin .shr (Ki 32768) (T 9)),
 Mv 2 10])
 .ret))),[.tmp 2]⟩
def EG:AFn:=⟨(.seq (.region [
 D 2 (.box true (T 0)),
 D 3 (.box true (T 1)),
 D 4 (.mv (Kb false))])
 (.seq (.region [
 D 5 (.fQ 1 (T 2)),
 D 6 (.load none (T 5)),
 D 7 (.bin .eql (T 6) (Ki 0)),
 Mv 8 7,
 Gd 9 8 false (.fQ 1 (T 3)),
 Gd 10 8 false (.load none (T 9)),
 Gd 11 8 false (.bin .eql (T 10) (Ki 0)),
 D 12 (.pick (T 8) (Kb true) (T 11)),
 Mv 13 12,
 Gd 14 13 false (.fQ 0 (T 2)),
 Gd 15 13 false (.load none (T 14)),
 Gd 16 13 false (.fQ 1 (T 2)),
 Gd 17 13 false (.load none (T 16)),
 Gd 18 13 false (.bin .add (T 15) (T 17)),
 Gd 19 13 false (.fQ 0 (T 3)),
 Gd 20 13 false (.load none (T 19)),
 Gd 21 13 false (.bin .leq (T 18) (T 20)),
 D 22 (.pick (T 13) (Kb true) (T 21)),
 Mv 23 22,
 Gd 24 23 false (.fQ 0 (T 3)),
 Gd 25 23 false (.load none (T 24)),
 Gd 26 23 false (.fQ 1 (T 3)),
 Gd 27 23 false (.load none (T 26)),
 Gd 28 23 false (.bin .add (T 25) (T 27)),
 Gd 29 23 false (.fQ 0 (T 2)),
 Gd 30 23 false (.load none (T 29)),
 Gd 31 23 false (.bin .leq (T 28) (T 30)),
 D 32 (.pick (T 23) (Kb true) (T 31)),
 Mv 4 32])
 .ret)),[.tmp 4]⟩
def Kj:AFn:=⟨(.seq (.region [
 D 4 (.mv (Ki 0))])
 (.seq (.seq (.region [
 Mv 5 0,
 D 6 (.call 268 [(T 5),(Ki 0),(Ki 65536)]),
 D 7 (.un .not (T 6)),
 Mv 8 7,
 Gd 9 8 false (.mv (T 1)),
 Gd 10 8 false (.call 268 [(T 9),(Ki 1),(Ki 65536)]),
 Gd 11 8 false (.un .not (T 10)),
 D 12 (.pick (T 8) (Kb true) (T 11))])
 (.cond (T 12)
 (.seq (.region [
 D 4 (.mv (Ki 0))])
 .ret)
 .skip))
 (.seq (.region [
 Mv 13 0,
 Mv 14 1,
 D 15 (.bin .quo (T 13) (T 14)),
 D 16 (.bin .mul (T 15) (Ki 1024)),
 Mv 4 16])
 .ret))),[.tmp 4]⟩
def GW:fG:=(.block 1 (.seq (.region [
 Mv 13 10,
 D 14 (.bin .mul (Ki 2) (T 13)),
 D 15 (.bin .add (T 14) (Ki 1)),
 Mv 11 15])
 (.seq (.seq (.region [
 Mv 16 11,
 Mv 17 2,
 D 18 (.bin .geq (T 16) (T 17))])
 (.cond (T 18)
 (.exit 0)
 .skip))
 (.seq (.seq (.drawn [
 Fq 19 0 (.mv (T 11)),
 Fq 20 1 (.bin .add (T 19) (Ki 1)),
 Fq 21 0 (.mv (T 2)),
 Fq 22 7 (.bin .lss (T 20) (T 21)),
 Fq 23 15 (.mv (T 22)),
 Gq 24 23 true 31 (.mv (T 4)),
 Gq 25 23 true 31 (.mv (T 0)),
 Gq 26 23 true 31 (.mv (T 3)),
 Gq 27 23 true 31 (.mv (T 11)),
 Gq 28 23 true 415 (.bin .add (T 26) (T 27)),
 Gq 29 23 true 991 (.fK 2 (T 25) (T 28)),
 Gq 30 23 true 2015 (.load (some 2) (T 29)),
 Gq 31 23 true 31 (.mv (T 0)),
 Gq 32 23 true 31 (.mv (T 3)),
 Gq 33 23 true 31 (.mv (T 11)),
 Gq 34 23 true 24607 (.bin .add (T 32) (T 33)),
 Gq 35 23 true 57375 (.bin .add (T 34) (Ki 1)),
 Gq 36 23 true 127007 (.fK 2 (T 31) (T 35)),
 Gq 37 23 true 258079 (.load (some 2) (T 36)),
 ⟨(some 38),(some (23,true)),524287,true,.iP (T 24) [(T 30),(T 37)]⟩,
 Gq 39 23 true 1048575 (.bin .lss (T 38) (Ki 0)),
 Fq 40 2097151 (.pick (T 23) (T 39) (Kb false))])
 (.cond (T 40)
 (.region [
 Mv 41 11,
 D 42 (.bin .add (T 41) (Ki 1)),
 Mv 11 42])
 .skip))
 (.seq (.seq (.drawn [
 Fq 43 0 (.mv (T 4)),
 Fq 44 0 (.mv (T 0)),
 Fq 45 0 (.mv (T 3)),
 Fq 46 0 (.mv (T 10)),
 Fq 47 12 (.bin .add (T 45) (T 46)),
 Fq 48 30 (.fK 2 (T 44) (T 47)),
 Fq 49 62 (.load (some 2) (T 48)),
 Fq 50 0 (.mv (T 0)),
 Fq 51 0 (.mv (T 3)),
 Fq 52 0 (.mv (T 11)),
 Fq 53 768 (.bin .add (T 51) (T 52)),
 Fq 54 1920 (.fK 2 (T 50) (T 53)),
 Fq 55 3968 (.load (some 2) (T 54)),
 ⟨(some 56),none,8191,true,.iP (T 43) [(T 49),(T 55)]⟩,
 Fq 57 16383 (.bin .lss (T 56) (Ki 0)),
 Fq 58 32767 (.un .not (T 57))])
 (.cond (T 58)
 .ret
 .skip))
 (.seq (.drawn [
 Fq 59 0 (.mv (T 0)),
 Fq 60 0 (.mv (T 3)),
 Fq 61 0 (.mv (T 10)),
 Fq 62 6 (.bin .add (T 60) (T 61)),
 Fq 63 0 (.mv (T 0)),
 Fq 64 0 (.mv (T 3)),
 Fq 65 0 (.mv (T 11)),
 Fq 66 96 (.bin .add (T 64) (T 65)),
 Fq 67 0 (.mv (T 0)),
 Fq 68 0 (.mv (T 3)),
 Fq 69 0 (.mv (T 11)),
 Fq 70 1536 (.bin .add (T 68) (T 69)),
 Fq 71 3840 (.fK 2 (T 67) (T 70)),
 Fq 72 7936 (.load (some 2) (T 71)),
 Fq 73 0 (.mv (T 0)),
 Fq 74 0 (.mv (T 3)),
 Fq 75 0 (.mv (T 10)),
 Fq 76 98304 (.bin .add (T 74) (T 75)),
 Fq 77 245760 (.fK 2 (T 73) (T 76)),
 Fq 78 507904 (.load (some 2) (T 77)),
 Fq 79 1048335 (.fK 2 (T 59) (T 62)),
 ⟨none,none,2096911,true,.store 2 (T 79) (T 72)⟩,
 Fq 80 4194303 (.fK 2 (T 63) (T 66)),
 ⟨none,none,8388607,true,.store 2 (T 80) (T 78)⟩])
 (.region [
 Mv 81 11,
 Mv 10 81])))))))
def PA:AFn:=⟨(.seq (.region [
 Mv 12 1,
 Mv 10 12])
 (.block 0 (.loop [10,0,3,4,2] GW))),[]⟩
def WE:AFn:=⟨(.seq (.region [
 D 2 (.mv (C (.int .u64 0)))])
 (.seq (.region [
 Mv 3 0,
 D 4 (.conv .u64 (T 3)),
 D 5 (.call 256 [(T 4)]),
 D 6 (.bin .shl (C (.int .u64 1)) (T 5)),
 Mv 2 6])
 .ret)),[.tmp 2]⟩
def WG:AFn:=⟨(.seq (.region [
 D 2 (.mv (C (.int .u64 0)))])
 (.seq (.drawn [
 Fq 3 0 (.mv (T 0)),
 Fq 4 1 (.kK (T 3)),
 Fq 5 3 (.load none (T 4)),
 Fq 6 0 (.mv (T 0)),
 Fq 7 8 (.kK (T 6)),
 Fq 8 24 (.load none (T 7)),
 Fq 9 56 (.bin .shl (T 8) (C (.int .u64 13))),
 Fq 10 127 (.bin .xor (T 5) (T 9)),
 Fq 11 255 (.kK (T 3)),
 ⟨none,none,511,true,.store 1 (T 11) (T 10)⟩])
 (.seq (.drawn [
 Fq 12 0 (.mv (T 0)),
 Fq 13 1 (.kK (T 12)),
 Fq 14 3 (.load none (T 13)),
 Fq 15 0 (.mv (T 0)),
 Fq 16 8 (.kK (T 15)),
 Fq 17 24 (.load none (T 16)),
 Fq 18 56 (.bin .shr (T 17) (C (.int .u64 7))),
 Fq 19 127 (.bin .xor (T 14) (T 18)),
 Fq 20 255 (.kK (T 12)),
 ⟨none,none,511,true,.store 1 (T 20) (T 19)⟩])
 (.seq (.drawn [
 Fq 21 0 (.mv (T 0)),
 Fq 22 1 (.kK (T 21)),
 Fq 23 3 (.load none (T 22)),
 Fq 24 0 (.mv (T 0)),
 Fq 25 8 (.kK (T 24)),
 Fq 26 24 (.load none (T 25)),
 Fq 27 56 (.bin .shl (T 26) (C (.int .u64 17))),
 Fq 28 127 (.bin .xor (T 23) (T 27)),
 Fq 29 255 (.kK (T 21)),
 ⟨none,none,511,true,.store 1 (T 29) (T 28)⟩])
 (.seq (.region [
 Mv 30 0,
 D 31 (.kK (T 30)),
 D 32 (.load none (T 31)),
 Mv 2 32])
 .ret))))),[.tmp 2]⟩
def WH:AFn:=⟨(.seq (.region [
 D 8 (.mv (Ki 0))])
 (.seq (.region [
 Mv 9 0,
 Mv 10 1,
 D 11 (.bin .sub (T 10) (Ki 1)),
 Mv 12 1,
 Mv 13 1,
 D 14 (.bin .add (T 13) (Ki 1)),
 Mv 15 2,
 Mv 16 3,
 D 17 (.call 290 [(T 9),(T 11),(T 12),(T 14),(T 15),(T 16)]),
 Mv 8 17])
 .ret)),[.tmp 8]⟩
def WI:AFn:=⟨(.seq (.region [
 D 12 (.mv (Ki 0))])
 (.seq (.region [
 Mv 14 0,
 Mv 15 1,
 Mv 16 2,
 Mv 17 4,
 Mv 18 5,
 D 19 (.call 291 [(T 14),(T 15),(T 16),(T 17),(T 18)]),
 Mv 13 19,
 D 20 (.ext (T 13) 0),
 D 21 (.ext (T 13) 1),
 Mv 1 20,
 Mv 2 21])
 (.seq (.region [
 Mv 23 0,
 Mv 24 2,
 Mv 25 3,
 Mv 26 4,
 Mv 27 5,
 D 28 (.call 291 [(T 23),(T 24),(T 25),(T 26),(T 27)]),
 Mv 22 28,
 D 29 (.ext (T 22) 0),
 D 30 (.ext (T 22) 1),
 Mv 2 29,
 Mv 3 30])
 (.seq (.region [
 Mv 32 0,
 Mv 33 1,
 Mv 34 2,
 Mv 35 4,
 Mv 36 5,
 D 37 (.call 291 [(T 32),(T 33),(T 34),(T 35),(T 36)]),
 Mv 31 37,
 D 38 (.ext (T 31) 0),
 D 39 (.ext (T 31) 1),
 Mv 1 38,
 Mv 2 39])
 (.seq (.region [
 Mv 40 2,
 Mv 12 40])
 .ret))))),[.tmp 12]⟩
def PB:AFn:=⟨(.seq (.region [
 D 10 (.mv (Ki 0)),
 D 11 (.mv (Ki 0))])
 (.seq (.seq (.drawn [
 Fq 12 0 (.mv (T 4)),
 Fq 13 0 (.mv (T 0)),
 Fq 14 0 (.mv (T 2)),
 Fq 15 6 (.fK 2 (T 13) (T 14)),
 Fq 16 14 (.load (some 2) (T 15)),
 Fq 17 0 (.mv (T 0)),
 Fq 18 0 (.mv (T 1)),
 Fq 19 96 (.fK 2 (T 17) (T 18)),
 Fq 20 224 (.load (some 2) (T 19)),
 ⟨(some 21),none,511,true,.iP (T 12) [(T 16),(T 20)]⟩,
 Fq 22 1023 (.bin .lss (T 21) (Ki 0))])
 (.cond (T 22)
 (.seq (.region [
 Mv 23 3,
 D 24 (.kK (T 23)),
 D 25 (.load none (T 24)),
 D 26 (.bin .add (T 25) (Ki 1)),
 D 27 (.kK (T 23)),
 E (.store 1 (T 27) (T 26))])
 (.seq (.region [
 Mv 28 2,
 Mv 29 1,
 Mv 10 28,
 Mv 11 29])
 .ret))
 .skip))
 (.seq (.region [
 Mv 30 1,
 Mv 31 2,
 Mv 10 30,
 Mv 11 31])
 .ret))),[.tmp 10,.tmp 11]⟩
end fO
namespace fO
open Go AM
noncomputable def wkd:List (Nat×AFn):=[(13,NA),(15,acU),(18,acV),(19,acW),(20,V4),(21,acX),(22,acY),(23,acZ),(26,ZP),(53,ac0),(61,ac1),(62,ZQ),(63,ac2),(64,ac3),(65,V5),(66,ZR),(67,ac4),(68,ac6),(71,ZS),(72,ac7),(73,ZT),(114,J7),(115,Pj),(118,V6),(125,J8),(129,V7),(130,V8),(131,V9),(132,J9),(133,Wa),(134,Pk),(135,Wc),(136,Wd),(139,Pm),(140,We),(141,Wf),(154,Cn),(160,abS),(173,Pn),(179,Po),(180,Co),(181,Wg),(182,Wh),(183,Wi),(184,Pp),(187,Ka),(188,Wj),(189,Wk),(204,nO),(205,sR),(206,Kc),(221,Wl),(222,Wm),(223,Pq),(224,Ke),(226,EF),(227,Wn),(228,lF),(229,Wo),(244,Kf),(245,Pt),(246,Pu),(247,Kg),(248,Wp),(249,Wq),(254,Pv),(255,Wt),(256,Wu),(257,Ww),(266,Wx),(267,yV),(268,Pw),(269,Wy),(270,Wz),(271,Px),(272,yW),(273,WA),(274,Py),(275,WB),(276,Pz),(278,WC),(279,WD),(283,Kh),(284,EG),(285,Kj),(286,PA),(287,WE),(288,WG),(289,WH),(290,WI),(291,PB)]
noncomputable def yX:List (Nat×AFn):=wkd++[9,11,12,14,16,17,24,25,27,28,29,30,31,32,33,34,35,36,37,38,39,40,41,42,43,44,45,46,47,48,49,50,51,52,54,55,56,57,58,59,60,69,70,74,75,76,77,78,79,80,81,82,83,84,85,86,87,88,89,90,91,92,93,94,95,96,97,98,99,100,101,102,103,104,105,106,107,108,109,110,111,112,113,116,117,119,120,121,122,123,124,126,127,128,137,138,142,143,144,145,146,147,148,149,150,151,152,153,155,156,157,158,159,161,162,163,164,165,166,167,168,169,170,171,172,174,175,176,177,178,185,186,190,191,192,193,194,195,196,197,198,199,200,201,202,203,207,208,209,210,211,212,213,214,215,216,217,218,219,220,225,230,232,233,234,235,236,237,238,239,240,241,242,243,250,251,252,253,258,260,261,262,263,264,265,277,280,281,282,308,311,312,313,314,315,316,317,318,319,320,321,322].map fun i=>(i,cfn (pf i))
noncomputable def env:Env:=.base yX
set_option maxRecDepth 100000 in
theorem ac8:qt Tryz.prog env:=ckw (ckc cgf (by kernel_rfl)) (by kernel_rfl) (by kernel_rfl)
theorem mixed:Tryz.prog.follows .mixedOrders=true:=by kernel_rfl
theorem nX:iS Tryz.prog env:=iS.of ac8
theorem fk(i:Nat)(a:AFn)(h:env.fn i=some a:=by kernel_rfl):env.fn i=some a:=h
def ahC:=fk 15 acU
def ahD:=fk 18 acV
def ahE:=fk 19 acW
def afa:=fk 20 V4
def ahF:=fk 21 acX
def ahG:=fk 22 acY
def ahH:=fk 23 acZ
def ahI:=fk 26 ZP
def ahJ:=fk 53 ac0
def ahK:=fk 61 ac1
def ahL:=fk 62 ZQ
def ahM:=fk 63 ac2
def ahN:=fk 64 ac3
def ahO:=fk 65 V5
def ahP:=fk 66 ZR
def ahQ:=fk 67 ac4
def ahR:=fk 68 ac6
def ahS:=fk 71 ZS
def ahT:=fk 72 ac7
def ahU:=fk 73 ZT
def afb:=fk 114 J7
def afc:=fk 115 Pj
def afd:=fk 118 V6
def afe:=fk 125 J8
def aff:=fk 129 V7
def afg:=fk 130 V8
def afh:=fk 131 V9
def afi:=fk 132 J9
def afj:=fk 133 Wa
def afk:=fk 134 Pk
def afl:=fk 135 Wc
def abT:=fk 136 Wd
def afm:=fk 139 Pm
def afn:=fk 140 We
def afo:=fk 141 Wf
def afp:=fk 154 Cn
def afq:=fk 160 abS
def afr:=fk 173 Pn
def afs:=fk 179 Po
def aft:=fk 180 Co
def afu:=fk 181 Wg
def afv:=fk 182 Wh
def afw:=fk 183 Wi
def afx:=fk 184 Pp
def afy:=fk 187 Ka
def afz:=fk 188 Wj
def afA:=fk 189 Wk
def afB:=fk 204 nO
def Kk:=fk 205 sR
def afC:=fk 206 Kc
def afD:=fk 221 Wl
def afE:=fk 222 Wm
def afF:=fk 223 Pq
def afG:=fk 224 Ke
def afH:=fk 226 EF
def afI:=fk 227 Wn
def WJ:=fk 228 lF
def abU:=fk 229 Wo
def afJ:=fk 244 Kf
def afK:=fk 245 Pt
def afL:=fk 246 Pu
def afM:=fk 247 Kg
def afN:=fk 248 Wp
def afO:=fk 249 Wq
def afP:=fk 254 Pv
def afQ:=fk 255 Wt
def afR:=fk 256 Wu
def afS:=fk 257 Ww
def afT:=fk 266 Wx
def afU:=fk 267 yV
def afV:=fk 268 Pw
def afW:=fk 269 Wy
def afX:=fk 270 Wz
def afY:=fk 271 Px
def afZ:=fk 272 yW
def af0:=fk 273 WA
def af1:=fk 274 Py
def af2:=fk 275 WB
def af3:=fk 276 Pz
def af4:=fk 278 WC
def af5:=fk 279 WD
def af6:=fk 283 Kh
def af7:=fk 284 EG
def af8:=fk 285 Kj
def af9:=fk 286 PA
def aga:=fk 287 WE
def agb:=fk 288 WG
def agc:=fk 289 WH
def agd:=fk 290 WI
def age:=fk 291 PB
end fO
open Go
def qe(n:Nat):Nat:=if n=0 then 0 else if 15 < n then 32769 else 32768 / 2 ^ n
def qw(l:List Nat):Nat:=(l.map qe).sum
def qx(l:List Nat):Bool:=qw l==32768
def qg(l:List Nat):Bool:=qx l&&decide (0 < l.getD 257 0)
theorem SG(n:Nat):qe n<=32769:=by
 unfold qe;split
 ·omega
 ·split
  ·omega
  ·have:=Nat.div_le_self 32768 (2 ^ n);omega
theorem ZV(l:List Nat):qw l<=32769*l.length:=by
 induction l with
 | nil=>simp[qw]
 | cons a l ih=>
  have:=SG a;simp only[qw,aK,dY,az] at *;omega
theorem Kl(l m:List Nat):qw (l++m)=qw l+qw m:=by simp[qw]
theorem WK(a:Nat):qw [a]=qe a:=by simp[qw]
theorem SH{l:List Nat}{k:Nat}(h:k < l.length):qw (l.take (k+1))=qw (l.take k)+qe l[k]:=by rw[b9 h,Kl,WK]
theorem Cp{l:List Nat}{k:Nat}(h:k < l.length)(j:Nat):(l.take (k+1)).count j=(l.take k).count j+(if l[k]=j then 1 else 0):=by rw[b9 h,List.count_append];congr 1;simp[List.count_cons]
namespace LtA
open Go Go.RowKit AM fO
theorem jQ:∀ l:List Nat,(u8s l).all fY=true
 | []=>rfl
 | a::l=>by rw[show u8s (a::l)=.int .u8 (a:Int)::u8s l from rfl,ct,jQ l];rfl
theorem pL:∀ l:List Nat,(u8s l).all AM.sc=true
 | []=>rfl
 | a::l=>by rw[show u8s (a::l)=.int .u8 (a:Int)::u8s l from rfl,ct,pL l];rfl
theorem wk{l:List Nat}(h:l.length=258):(u8s l).take 258=u8s l:=bt (by rw[fH];omega)
theorem Km{l:List Nat}(h:l.length=258):(258<=l.length)=True:=eq_true om
theorem PC{l:List Nat}{i:Nat}{v:Int}(h:0<=v):(u8s l).set i (.int .u8 v)=u8s (l.set i v.toNat):=by obtain⟨n,rfl⟩:=cX h;simp[u8s,List.map_set]
theorem gH{cs vs:List Value}(h:vs.length=cs.length):putAt cs 0 vs=vs:=by
 apply bK;intro j;rw[kF _ _ _ _ om];split
 ·simp
 ·rename_i hj;rw[aQ om,aQ om]
theorem yY{l:List Nat}{i:Nat}(h:i < l.length):(u8s l)[i]?=some (.int .u8 (l[i]:Int)):=by rw[j0,aq h];rfl
section
variable{hp:List Blk}{L:Nat}{H d:List Nat}
theorem NB{n:Nat}(hn:n < 256)(hF:Fit hp.length L H):fS env (.func 283) [.int .u8 n] ⟨hp,L,H,d⟩=some (.int .i64 (qe n:Nat),⟨hp,L,H,d⟩):=by
 rw[fF 283 _ _ af6];unfold qe;by_cases h0:n=0
 ·subst h0;rw[if_pos rfl];simp(disch:=first|exact dis|fail) only[sy,simprocAttr,-List.reduceReplicate,hF.all,Kh]
 rw[if_neg h0];have h0':¬ (n:Int)=0:=om
 by_cases h1:15 < n
 ·have h1':(n:Int) > 15:=om
  rw[if_pos h1];simp(disch:=first|exact dis|fail) only[sy,simprocAttr,-List.reduceReplicate,hF.all,Kh,h0',h1']
 ·have h1':¬ (n:Int) > 15:=om
  rw[if_neg h1];have hs:Int.fdiv 32768 (2 ^ n)=((32768 / 2 ^ n:Nat):Int):=by rw[cZ _ (Int.le_of_lt (Int.pow_pos om))];simp
  have hng:¬ (n:Int) < 0:=om
  have hq:32768 / 2 ^ n<=32768:=Nat.div_le_self _ _;simp(disch:=first|exact dis|fail) only[sy,simprocAttr,-List.reduceReplicate,hF.all,Kh,h0',h1',hs,hng]
theorem Kn{l:List Nat}(hl:l.length=258)(h8:By l)(hF:Fit hp.length L H):∀ k i:Nat,i+k=258->∃ fr,fW env Aj [2,6,5] hp.length [(2,.int .i64 (qw (l.take i):Nat)),(6,.int .i64 i),(5,.agg (u8s l).toArray)] ⟨hp,L,H,[]⟩ =
  some (.exit 0,fr,⟨hp,L,H,[]⟩)/\fr.get 2=some (.int .i64 (qw l:Nat))
 | 0,i,e=>by
  obtain rfl:i=258:=om
  rw[fC Aj.eq_1,bt om];simp(disch:=first|exact dis|fail) only[sy,simprocAttr,-List.reduceReplicate,hF.all];exact⟨_,rfl,rfl⟩
 | k+1,i,e=>by
  have hil:i < l.length:=om
  obtain⟨fr,e1,e2⟩:=Kn hl h8 hF k (i+1) om;have hb:l[i] < 256:=h8.get hil;have h1:(i:Int) < 258:=om
  have h2:0<=(i:Int)/\(i:Int) < 258:=om
  have hc:=yY hil;have Mj:((qw (l.take i):Nat):Int)+(qe l[i]:Nat)=(qw (l.take (i+1)):Nat):=by rw[SH hil];omega
  have hle:=ZV (l.take (i+1));have aiv:(l.take (i+1)).length<=258:=by simp;omega
  rw[fC Aj.eq_1];simp only[aC,aI] at e1;simp(disch:=first|exact dis|fail) only[sy,simprocAttr,-List.reduceReplicate,hF.all,h1,h2,hc,NB hb,Mj,e1];exact⟨fr,rfl,e2⟩
theorem Ko{l:List Nat}(hl:l.length=258)(h8:By l)(hF:Fit hp.length L H):fS env (.func 266) [.agg (u8s l).toArray] ⟨hp,L,H,d⟩=some (.int .i64 (qw l:Nat),⟨hp,L,H,d⟩):=by rw[fF 266 _ _ afT];obtain⟨fr,e1,e2⟩:=Kn (hp:=hp++[.cells 0 true (u8s l)]) (L:=L) (H:=H) hl h8 (hF.mono (by simp)) 258 0 rfl;simp only[eI,show qw []=0 from rfl,aN,aB,az,aT,aX] at e1;simp(disch:=first|exact dis|fail) only[sy,simprocAttr,-List.reduceReplicate,hF.all,Wx,jQ,pL,Km hl,wk hl,e1,e2]
theorem uC{l:List Nat}(hl:l.length=258)(h8:By l)(hF:Fit hp.length L H):fS env (.func 248) [.agg (u8s l).toArray] ⟨hp,L,H,d⟩=some (.bool (qx l),⟨hp,L,H,d⟩):=by
 rw[fF 248 _ _ afN];have hq:(((qw l:Nat):Int)==32768)=qx l:=by unfold qx;rw[cy];simp;omega
 simp(disch:=first|exact dis|fail) only[sy,simprocAttr,-List.reduceReplicate,hF.all,Wp,jQ,pL,Km hl,wk hl,Ko hl h8,hq]
theorem Cq{l:List Nat}(hl:l.length=258)(h8:By l)(hF:Fit hp.length L H):fS env (.func 206) [.agg (u8s l).toArray] ⟨hp,L,H,d⟩=some (.bool (qg l),⟨hp,L,H,d⟩):=by
 rw[fF 206 _ _ afC];have h1:=yY (l:=l) (i:=257) om;have h2:l.getD 257 0=l[257]:=by rw[aE,aq];rfl
 unfold qg;rw[h2];cases hk:qx l with
 | false=>
  simp(disch:=first|exact dis|fail) only[sy,simprocAttr,-List.reduceReplicate,hF.all,Kc,jQ,pL,Km hl,wk hl,uC hl h8,hk,h1]
 | true=>
  have hq:decide ((l[257]:Int) > 0)=decide (0 < l[257]):=by rw[decide_eq_decide];omega
  simp(disch:=first|exact dis|fail) only[sy,simprocAttr,-List.reduceReplicate,hF.all,Kc,jQ,pL,Km hl,wk hl,uC hl h8,hk,h1,hq]
def kc(l:List Nat):List Value:=(List.range 16).map fun j=>.int .i64 (l.count j:Nat)
theorem sS(l:List Nat):(kc l).length=16:=by simp[kc]
theorem Kp(l:List Nat){j:Nat}(h:j < 16):(kc l)[j]?=some (.int .i64 (l.count j:Nat)):=by simp[kc,h]
theorem WL(l:List Nat):(kc l).all fY=true:=by simp[kc,AM.fY,AM.sc]
theorem ac9(l:List Nat):(kc l).all AM.sc=true:=by simp[kc,AM.sc]
theorem ZW(l:List Nat):(kc l).flatMap fJ=[]:=by rw[cW];intro v hv;simp only[kc,bw] at hv;obtain⟨_,_,rfl⟩:=hv;rfl
theorem ZX(l:List Nat):(kc l).take 16=kc l:=bt (by rw[sS];omega)
theorem ada:List.replicate 16 (Value.int .i64 0)=kc []:=rfl
theorem adb{l:List Nat}{i:Nat}(h:i < l.length)(h16:l[i] < 16):(kc (l.take i)).set l[i] (.int .i64 (((l.take i).count l[i]:Nat)+1))=kc (l.take (i+1)):=by
 apply bK;intro j;by_cases hj:j < 16
 ·rw[Kp _ hj,cr,Cp h];by_cases e:l[i]=j
  ·subst e;rw[if_pos rfl,if_pos (by rw[sS];exact hj),if_pos rfl];congr 2
  ·rw[if_neg e,Kp _ hj,if_neg e];congr 2
 ·rw[aQ (by rw[aG,sS];omega),aQ (by rw[sS];omega)]
theorem ZY{l:List Nat}{i:Nat}(h:i < l.length)(h16:¬ l[i] < 16):kc (l.take i)=kc (l.take (i+1)):=by
 apply bK;intro j;by_cases hj:j < 16
 ·rw[Kp _ hj,Kp _ hj,Cp h,if_neg om];rfl
 ·rw[aQ (by rw[sS];omega),aQ (by rw[sS];omega)]
theorem yZ{l:List Nat}(hl:l.length=258)(h8:By l)(hF:Fit hp.length L H):∀ k i:Nat,i+k=258->∃ fr,
  fW env Ah [6,5,2] (hp.length+1) [(6,.int .i64 i),(5,.agg (u8s l).toArray),(2,.pointer (some ⟨hp.length,0,some 0⟩))] ⟨hp++[.cells 0 true (kc (l.take i))],L,H,[]⟩ =
  some (.exit 0,fr,⟨hp++[.cells 0 true (kc l)],L,H,[]⟩)/\fr.get 2=some (.pointer (some ⟨hp.length,0,some 0⟩))
 | 0,i,e=>by
  obtain rfl:i=258:=om
  rw[fC Ah.eq_1,bt om];simp(disch:=first|exact dis|fail) only[sy,simprocAttr,-List.reduceReplicate,hF.all];exact⟨_,rfl,rfl⟩
 | k+1,i,e=>by
  have hil:i < l.length:=om
  obtain⟨fr,e1,e2⟩:=yZ hl h8 hF k (i+1) om;have hb:l[i] < 256:=h8.get hil;have h1:(i:Int) < 258:=om
  have h2:0<=(i:Int)/\(i:Int) < 258:=om
  have hc:=yY hil;have hct:(l.take i).count l[i]<=258:=bh List.count_le_length (by simp;omega);rw[fC Ah.eq_1];simp only[aC,aI] at e1;by_cases h16:l[i] < 16
  ·have h3:(l[i]:Int) < 16:=om
   have h4:0<=(l[i]:Int)/\(l[i]:Int) < 16:=om
   have h5:l[i]+1<=16:=om
   simp(disch:=first|exact dis|fail) only[sy,simprocAttr,-List.reduceReplicate,hF.all,h1,h2,hc,h3,h4,h5,Kp _ h16,sS,adb hil h16,e1];exact⟨fr,rfl,e2⟩
  ·have h3:¬ (l[i]:Int) < 16:=om
   rw[ZY hil h16];simp(disch:=first|exact dis|fail) only[sy,simprocAttr,-List.reduceReplicate,hF.all,h1,h2,hc,h3,e1];exact⟨fr,rfl,e2⟩
theorem Kq{l:List Nat}(hl:l.length=258)(h8:By l)(hF:Fit hp.length L H):fS env (.func 249) [.agg (u8s l).toArray] ⟨hp,L,H,d⟩=some (.agg (kc l).toArray,⟨hp,L,H,d⟩):=by rw[fF 249 _ _ afO];obtain⟨fr,e1,e2⟩:=yZ (hp:=hp++[.cells 0 true (u8s l)]) (L:=L) (H:=H) hl h8 (hF.mono (by simp)) 258 0 rfl;simp only[eI,aN,aB,az,aT,aX,aR,aS,aV] at e1 e2;simp(disch:=first|exact dis|fail) only[sy,simprocAttr,-List.reduceReplicate,hF.all,Wq,jQ,pL,Km hl,wk hl,ada,sS,WL,ac9,ZX,ZW,gH (rfl:(kc l).length=(kc l).length),e1,e2]
end
end LtA
namespace SyP
def ij(L:List Nat)(p:Nat):List Nat:=L.getD p 0::L.eraseIdx p
def jN(L:List Nat)(c:Nat):List Nat×Nat:=(ij L (L.idxOf c),L.idxOf c)
def jV(n:Nat):List Nat:=if h:n=0 then [] else (n - 1)%2::jV ((n - 1) / 2)
termination_by n
decreasing_by omega
theorem tZ:jV 0=[]:=by rw[jV];simp
theorem uc(n:Nat):jV (n+1)=n%2::jV (n / 2):=by rw[jV];simp
def lG:List Nat->Nat->List Nat->List Nat×(List Nat×Nat)
 | L,r,[]=>([],(L,r))
 | L,r,c::x=>
  if L.idxOf c=0 then lG (ij L (L.idxOf c)) (r+1) x
  else
   let q:=lG (ij L (L.idxOf c)) 0 x
   (jV r++(L.idxOf c+1)::q.1,q.2)
def GX(q:List Nat×(List Nat×Nat)):List Nat:=q.1++(jV q.2.2++[257])
def jf:List Nat:=List.range 256
def enc(x:List Nat):List Nat:=GX (lG jf 0 x)
structure Dst where
 L:List Nat
 left:Nat
 run:Nat
 k:Nat
inductive Dre where
 | bad
 | more (o:Dst) (t:List Nat)
 | done (L:List Nat) (t:List Nat)
def Kr(b:Dst)(s:Nat):Dre:=
 if s < 2 then (if b.run+(1+s)*2 ^ b.k<=b.left then .more ⟨b.L,b.left,b.run+(1+s)*2 ^ b.k,b.k+1⟩ [] else .bad)
 else if s=257 then (if b.run=b.left then .done b.L (List.replicate b.run (b.L.getD 0 0)) else .bad)
 else if b.run=b.left then .bad
 else .more ⟨ij b.L (s - 1),b.left - (b.run+1),0,0⟩ (List.replicate b.run (b.L.getD 0 0)++[b.L.getD (s - 1) 0])
def dec:Dst->List Nat->Option (List Nat×Nat)
 | _,[]=>none
 | b,s::l=>match Kr b s with
  | .bad=>none
  | .done _ t=>some (t,1)
  | .more o t=>(dec o l).map fun r=>(t++r.1,r.2+1)
def ade(m:Nat)(l:List Nat):Option (List Nat×Nat):=dec ⟨jf,m,0,0⟩ l
theorem Ks:∀ (n k r:Nat) (L:List Nat) (left:Nat) (l:List Nat),r+n*2 ^ k<=left->∃ k',dec ⟨L,left,r,k⟩ (jV n++l)=(dec ⟨L,left,r+n*2 ^ k,k'⟩ l).map fun q=>(q.1,q.2+(jV n).length):=by
 intro n;induction n using Nat.strongRecOn with
 | ind n ih=>
  intro k r L left l h;cases n with
  | zero=>
   refine⟨k,?_⟩;rw[tZ,aV,Nat.zero_mul,bY];simp
  | succ n=>
   have hm:n%2 < 2:=Nat.mod_lt _ om;have hval:(1+n%2)*2 ^ k+n / 2*2 ^ (k+1)=(n+1)*2 ^ k:=by rw[fm,bE (2 ^ k) 2,<- dy,<- bS];congr 1;omega
   obtain⟨k',e⟩:=ih (n / 2) om (k+1) (r+(1+n%2)*2 ^ k) L left l om;refine⟨k',?_⟩;rw[uc,aS,dec,Kr,if_pos hm,if_pos (by simp only[];omega)];simp only[];rw[e,cA,hval];cases dec { L:=L,left:=left,run:=r+(n+1)*2 ^ k,k:=k' } l with
   | none=>rfl
   | some q=>simp;omega
theorem SI{L:List Nat}{p:Nat}(h:p < L.length):(ij L p).length=L.length:=by unfold ij;rw[az,List.length_eraseIdx];split<;>omega
theorem NC{L:List Nat}(h:0 < L.length):ij L 0=L:=by
 cases L with
 | nil=>simp at h
 | cons a l=>rfl
theorem Cr{L:List Nat}{c:Nat}(h:c∈L):L.getD (L.idxOf c) 0=c:=by have:=bP h;rw[aE,aq this];simp[cO]
theorem ND{L:List Nat}{p:Nat}(h:p < L.length):(ij L p).Perm L:=by
 unfold ij;rw[aE,aq h,List.eraseIdx_eq_take_drop_succ];have e:L=L.take p++L[p]::L.drop (p+1):=by rw[<- bC h,dm]
 conv=>rhs;rw[e]
 exact List.perm_middle.symm
theorem WM{L:List Nat}{c:Nat}(h:L.idxOf c=0)(hc:c∈L):L.getD 0 0=c:=by have:=Cr hc;rwa [h] at this
def Bl(L:List Nat):Prop:=L.Perm jf
theorem Bl.len{L:List Nat}(h:Bl L):L.length=256:=by rw[h.length_eq];simp[jf]
theorem Bl.mem{L:List Nat}(h:Bl L){c:Nat} : c∈L↔c < 256:=by rw[h.mem_iff];simp[jf]
theorem Bl.idx{L:List Nat}(h:Bl L){c:Nat}(hc:c < 256):L.idxOf c < 256:=by rw[<- h.len];exact bP (h.mem.2 hc)
theorem Bl.take{L:List Nat}(h:Bl L){p:Nat}(hp:p < 256):Bl (ij L p):=(ND (by rw[h.len];exact hp)).trans h
theorem Bl.zero:Bl jf:=List.Perm.refl _
theorem GY:∀ (x:List Nat) (L:List Nat) (r:Nat) (left:Nat),Bl L->(∀ c∈x,c < 256)->left=r+x.length ->
  dec ⟨L,left,0,0⟩ (GX (lG L r x))=some (List.replicate r (L.getD 0 0)++x,(GX (lG L r x)).length)
 | [],L,r,left,hL,hx,hl=>by
  simp only[aT,bY] at hl;subst hl;show dec _ (jV left++[257])=_;obtain⟨k',e⟩:=Ks left 0 0 L left [257] (by simp);rw[e];simp[dec,Kr,GX,lG];omega
 | c::x,L,r,left,hL,hx,hl=>by
  have hc:c < 256:=hx c (by simp);have hi:=hL.idx hc;have hx':∀ c∈x,c < 256:=fun d hd=>hx d (by simp[hd]);by_cases h0:L.idxOf c=0
  ·have hm:ij L 0=L:=NC (by rw[hL.len];omega);rw[lG,if_pos h0,h0,hm];have hhd:=WM h0 (hL.mem.2 hc);rw[GY x L (r+1) left hL hx' (by simp only[az] at hl;omega),hhd,List.replicate_succ'];simp
  ·rw[lG,if_neg h0];simp only[GX];have hb:r < left:=by simp only[az] at hl;omega
   obtain⟨k',e⟩:=Ks r 0 0 L left ((L.idxOf c+1)::((lG (ij L (L.idxOf c)) 0 x).1++(jV (lG (ij L (L.idxOf c)) 0 x).2.2++[257]))) (by simp;omega);simp only[aR,aS];rw[e];simp only[aX,Nat.pow_zero,dR];have h1:¬ L.idxOf c+1 < 2:=om
   have h2:¬ L.idxOf c+1=257:=om
   have h3:¬ r=left:=om
   have ih:=GY x (ij L (L.idxOf c)) 0 (left - (r+1)) (hL.take hi) hx' (by simp only[az] at hl;omega);rw[GX] at ih;rw[dec,Kr,if_neg h1,if_neg h2,if_neg h3];simp only[ey];rw[ih,Cr (hL.mem.2 hc)];simp;omega
theorem WN(x:List Nat)(hx:∀ c∈x,c < 256):ade x.length (enc x)=some (x,(enc x).length):=by have:=GY x jf 0 x.length Bl.zero hx om;simpa[ade,enc] using this
inductive Run:Nat->Nat->List Nat->Prop where
 | nil:Run 0 0 []
 | snoc {r k:Nat} {d:List Nat} {s:Nat} : Run r k d->s < 2->Run (r+(1+s)*2 ^ k) (k+1) (d++[s])
end SyP
namespace TmM
open Go Go.RowKit AM fO LtA SyP
theorem fR{cs:List Value}{n:Nat}(h:cs.length=n):cs.take n=cs:=bt om
theorem WO{l:List Nat}{i:Nat}(h:i < l.length):(u8s l)[i]?=some (.int .u8 (l[i]:Int)):=by rw[j0,aq h];rfl
theorem PD{l:List Nat}{i c:Nat} : (u8s l).set i (.int .u8 (c:Int))=u8s (l.set i c):=by simp[u8s,List.map_set]
theorem ju(l:List Nat):(u8s l).all fY=true:=AM.jQ l
theorem gQ(l:List Nat):(u8s l).all AM.sc=true:=LtA.pL l
theorem jM(l:List Nat):(u8s l).flatMap fJ=[]:=by rw[cW];intro v hv;simp only[u8s,bw] at hv;obtain⟨_,_,rfl⟩:=hv;rfl
theorem EH(k:IntKind):∀ (xs ys:List Int) (n:Nat),xs.length=n->ys.length=n->gz (List.replicate n .nu) (xs.map (.int k)) (ys.map (.int k))=some (decide (xs=ys))
 | [],[],0,_,_=>by simp[gz]
 | [],[],n+1,h,_=>by simp at h
 | x::xs,[],n,h,h'=>by simp at h h';omega
 | [],y::ys,n,h,h'=>by simp at h h';omega
 | x::xs,y::ys,0,h,_=>by simp at h
 | x::xs,y::ys,n+1,h,h'=>by simp only[bO,aK,gz,nS,if_true,ak];rw[EH k xs ys n (by simpa using h) (by simpa using h')];simp only[bq,ay,dU];rw[cy];simp
def inN(l:List Nat):List Int:=(List.range 256).map fun j=>if j∈l then 1 else 0
def inV(l:List Nat):List Value:=(inN l).map (.int .i64)
theorem wm(l:List Nat):(inV l).length=256:=by simp[inV,inN]
theorem ZZ:List.replicate 256 (Value.int .i64 0)=inV []:=by simp only[inV,inN,fo];rw[bQ (g:=fun _=>Value.int .i64 0) (fun j _=>by simp),List.map_const',List.length_range]
theorem SJ(l:List Nat):(inV l).all fY=true:=by simp[inV,AM.fY,AM.sc]
theorem Z0(l:List Nat):(inV l).all AM.sc=true:=by simp[inV,AM.sc]
theorem WQ(l:List Nat):(inV l).flatMap fJ=[]:=by rw[cW];intro v hv;simp only[inV,bw] at hv;obtain⟨_,_,rfl⟩:=hv;rfl
theorem WR(l:List Nat){j:Nat}(h:j < 256):(inV l)[j]?=some (.int .i64 (if j∈l then 1 else 0)):=by simp[inV,inN,h]
theorem Z1{l:List Nat}{i:Nat}(h:i < l.length)(hb:l[i] < 256):(inV (l.take i)).set l[i] (.int .i64 1)=inV (l.take (i+1)):=by
 apply bK;intro j;by_cases hj:j < 256
 ·rw[WR _ hj,cr];have hm:j∈l.take (i+1)↔j∈l.take i\/j=l[i]:=by rw[b9 h];simp only[aP,cM]
  by_cases e:l[i]=j
  ·rw[if_pos e,if_pos (by rw[wm];omega),if_pos (hm.2 (.inr e.symm))]
  ·rw[if_neg e,WR _ hj];have:j∈l.take (i+1)↔j∈l.take i:=by rw[hm];exact⟨fun h=>h.elim id fun h=>absurd h.symm e,.inl⟩
   simp only[this]
 ·rw[aQ (by rw[aG,wm];omega),aQ (by rw[wm];omega)]
def Cs(i:Nat):List Int:=List.replicate i 1++List.replicate (256 - i) 0
def mD(i:Nat):List Value:=(Cs i).map (.int .i64)
theorem xP{i:Nat}(h:i<=256):(mD i).length=256:=by simp[mD,Cs];omega
theorem NF:List.replicate 256 (Value.int .i64 0)=mD 0:=by unfold mD Cs;rw[eN,aV,List.map_replicate]
theorem SK{i:Nat}(h:i < 256):(mD i).set i (.int .i64 1)=mD (i+1):=by
 apply bK;intro j;simp only[mD,Cs,cr,eT,aB,dj,bW];have g:∀ i,i<=256->∀ j,(List.replicate i (1:Int)++List.replicate (256 - i) 0)[j]?=if j < 256 then some (if j < i then 1 else 0) else none:=fun i hi j=>by
  rw[List.getElem?_append];simp only[dj,dB];by_cases h1:j < i
  ·rw[if_pos h1,if_pos h1,if_pos om,if_pos h1]
  ·rw[if_neg h1];by_cases h2:j < 256
   ·rw[if_pos om,if_pos h2,if_neg h1]
   ·rw[if_neg om,if_neg h2]
 rw[g i om,g (i+1) om];by_cases e:i=j
 ·subst e;rw[if_pos rfl,if_pos om,if_pos h,if_pos om];rfl
 ·rw[if_neg e];by_cases h2:j < 256
  ·rw[if_pos h2,if_pos h2];by_cases h3:j < i
   ·rw[if_pos h3,if_pos om]
   ·rw[if_neg h3,if_neg om]
  ·rw[if_neg h2,if_neg h2]
theorem Kt(i:Nat):(mD i).all fY=true:=by simp[mD,AM.fY,AM.sc]
theorem SL(i:Nat):(mD i).all AM.sc=true:=by simp[mD,AM.sc]
theorem NG(i:Nat):(mD i).flatMap fJ=[]:=by rw[cW];intro v hv;simp only[mD,bw] at hv;obtain⟨_,_,rfl⟩:=hv;rfl
theorem adf{l:List Nat} : inN l=Cs 256↔∀ j,j < 256->j∈l:=by
 have h0:Cs 256=(List.range 256).map fun _=>1:=by unfold Cs;rw[List.map_const',List.length_range,cL,eN,bB]
 rw[h0];unfold inN;constructor
 ·intro h j hj;have:=List.map_inj_left.1 h j (by simpa using hj);by_cases hm:j∈l
  ·exact hm
  ·simp[hm] at this
 ·intro h;refine bQ fun j hj=>?_;rw[if_pos (h j (by simpa using hj))]
def vb(l:List Nat):Bool:=(List.range 256).all fun j=>decide (j∈l)
theorem NH{l:List Nat} : vb l=true↔∀ j,j < 256->j∈l:=by
 unfold vb;rw[aF];constructor
 ·intro h j hj;exact of_decide_eq_true (h j (cj.2 hj))
 ·intro h j hj;exact decide_eq_true (h j (cj.1 hj))
theorem abV{l:List Nat}(h:Bl l):vb l=true:=NH.2 fun _ hj=>h.mem.2 hj
section
variable{hp:List Blk}{L:Nat}{H d:List Nat}
theorem EI(hF:Fit hp.length L H):∀ k i:Nat,i+k=256->∃ fr,
  fW env Ag [2,0] (hp.length+1) [(2,.int .i64 i),(0,.pointer (some ⟨hp.length,0,some 0⟩))] ⟨hp++[.cells 0 true (mD i)],L,H,[]⟩ =
  some (.exit 0,fr,⟨hp++[.cells 0 true (mD 256)],L,H,[]⟩)/\fr.get 0=some (.pointer (some ⟨hp.length,0,some 0⟩))
 | 0,i,e=>by
  obtain rfl:i=256:=om
  rw[fC Ag.eq_1];simp(disch:=first|exact dis|fail) only[sy,simprocAttr,-List.reduceReplicate,hF.all];exact⟨_,rfl,rfl⟩
 | k+1,i,e=>by
  obtain⟨fr,e1,e2⟩:=EI hF k (i+1) om;have h1:(i:Int) < 256:=om
  have h2:0<=(i:Int)/\(i:Int) < 256:=om
  have h3:i+1<=256:=om
  rw[fC Ag.eq_1];simp only[aC,aI] at e1;simp(disch:=first|exact dis|fail) only[sy,simprocAttr,-List.reduceReplicate,hF.all,h1,h2,h3,xP (show i<=256 by omega),SK (show i < 256 by omega),e1];exact⟨fr,rfl,e2⟩
theorem SM(hF:Fit hp.length L H):fS env (.func 229) [] ⟨hp,L,H,d⟩=some (.agg (mD 256).toArray,⟨hp,L,H,d⟩):=by rw[fF 229 _ _ abU];obtain⟨fr,e1,e2⟩:=EI (hp:=hp) (L:=L) (H:=H) hF 256 0 rfl;simp only[aN] at e1;have hl:=xP (av 256);have hcv:=Kt 256;have hsc:=SL 256;have hrf:=NG 256;generalize mD 256=o at *;simp(disch:=first|exact dis|fail) only[sy,simprocAttr,-List.reduceReplicate,hF.all,Wo,NF,hl,fR hl,hcv,hsc,hrf,gH (rfl:o.length=o.length),e1,e2]
theorem Ct{l:List Nat}(hl:l.length=256)(h8:By l){b:Blk}(hF:Fit hp.length L H):∀ k i:Nat,i+k=256->∃ fr,
  fW env Ab [7,6,3] (hp.length+2) [(7,.int .i64 i),(6,.agg (u8s l).toArray),(3,.pointer (some ⟨hp.length+1,0,some 0⟩))] ⟨hp++[b,.cells 0 true (inV (l.take i))],L,H,[]⟩ =
  some (.exit 0,fr,⟨hp++[b,.cells 0 true (inV l)],L,H,[]⟩)/\fr.get 3=some (.pointer (some ⟨hp.length+1,0,some 0⟩))
 | 0,i,e=>by
  obtain rfl:i=256:=om
  rw[fC Ab.eq_1,bt om];simp(disch:=first|exact dis|fail) only[sy,simprocAttr,-List.reduceReplicate,hF.all];exact⟨_,rfl,rfl⟩
 | k+1,i,e=>by
  have hil:i < l.length:=om
  obtain⟨fr,e1,e2⟩:=Ct hl h8 (b:=b) hF k (i+1) om;have hb:l[i] < 256:=h8.get hil;have h1:(i:Int) < 256:=om
  have h2:0<=(i:Int)/\(i:Int) < 256:=om
  have h4:0<=(l[i]:Int)/\(l[i]:Int) < 256:=om
  have h5:l[i]+1<=256:=om
  have hc:=WO hil;rw[fC Ab.eq_1];simp only[aC,aI] at e1;simp(disch:=first|exact dis|fail) only[sy,simprocAttr,-List.reduceReplicate,hF.all,h1,h2,hc,h4,h5,wm,Z1 hil hb,e1];exact⟨fr,rfl,e2⟩
set_option maxRecDepth 100000 in
theorem y8{l:List Nat}(hl:l.length=256)(h8:By l)(hF:Fit hp.length L H):fS env (.func 184) [.agg (u8s l).toArray] ⟨hp,L,H,d⟩=some (.bool (vb l),⟨hp,L,H,d⟩):=by
 rw[fF 184 _ _ afx];have hu:(u8s l).length=256:=by rw[fH,hl]
 obtain⟨fr,e1,e2⟩:=Ct (hp:=hp) (L:=L) (H:=H) hl h8 (b:=.cells 0 true (u8s l)) hF 256 0 rfl;simp only[eI,aN] at e1;have hl2:=wm l;have hcv:=SJ l;have hrf:=WQ l;have hsc:=Z0 l;have heq:gz (List.replicate 256 Sh.nu) (inV l) (mD 256)=some (vb l):=by rw[inV,mD,EH .i64 _ _ 256 (by simp[inN]) (by rw[<- eT (f:=Value.int .i64)];exact xP (av 256))];congr 1;rw[cy,decide_eq_true_eq,adf,NH]
 have h0:=ZZ;generalize inV l=o at *;have how:=fun hp L H d hF=>SM (hp:=hp) (L:=L) (H:=H) (d:=d) hF;generalize mD 256=w at *;simp(disch:=first|exact dis|fail) only[sy,simprocAttr,-List.reduceReplicate,hF.all,Pp,ju,gQ,hu,fR hu,jM,h0,hl2,fR hl2,hcv,hsc,hrf,how,heq,e1,e2]
theorem agf(n:Nat):∃ z:List Value,List.replicate n (Value.int .u8 0)=z/\z.length=n:=⟨_,rfl,dj⟩
theorem agh{l:List Nat}(hl:l.length=256){p:Nat}(hp2:p < 256):(putAt (u8s l) 1 (u8s (l.take p))).set 0 (.int .u8 (l[p]'(by omega):Int))=u8s (ij l p):=by
 have h1:(l.take p).length=p:=by simp;omega
 have hm:ij l p=l[p]'(by omega)::(l.take p++l.drop (p+1)):=by unfold ij;rw[aE,aq om,List.eraseIdx_eq_take_drop_succ];rfl
 rw[hm];apply bK;intro j;rw[cr];by_cases h0:j=0
 ·subst h0;rw[if_pos rfl,if_pos (by rw[jD,fH];omega)];rfl
 ·rw[if_neg om];obtain⟨j,rfl⟩:=Nat.exists_eq_succ_of_ne_zero h0;rw[kF _ _ _ _ (by rw[fH,fH,h1];omega),fH,h1];show _=(u8s (l.take p++l.drop (p+1)))[j]?;rw[j0,j0,j0];split
  ·rename_i hh;rw[show j.succ - 1=j by omega,aA (by rw[h1];omega)]
  ·rename_i hh;rw[aM (by rw[h1];omega),h1,eS];congr 2;omega
theorem Ay{l:List Nat}(hl:l.length=256){p:Nat}(hp2:p < 256):(ij l p).length=256:=by rw[SI om,hl]
theorem SN{l:List Nat}(hl:l.length=256)(h8:By l){p:Nat}(hp2:p < 256)(hF:Fit hp.length L H):fS env (.func 187) [.agg (u8s l).toArray,.int .i64 p] ⟨hp,L,H,d⟩=some (.tuple #[.agg (u8s (ij l p)).toArray,.int .u8 (l.getD p 0:Nat),.bool true],⟨hp,L,H,d⟩):=by
 rw[fF 187 _ _ afy];have hu:(u8s l).length=256:=by rw[fH,hl]
 have h1:¬ (p:Int) < 0:=om
 have h2:¬ (p:Int)>=256:=om
 have h3:0<=(p:Int)/\(p:Int) < 256:=om
 have hc:=WO (l:=l) (i:=p) om;have hm:=agh hl hp2;have hg:l.getD p 0=l[p]'(by omega):=by rw[aE,aq om];rfl
 have hm2:(u8s (ij l p)).length=256:=by rw[fH,Ay hl hp2]
 have hcv:=ju (ij l p);have hsc:=gQ (ij l p);have hrf:=jM (ij l p);rw[hg];obtain⟨z,hz,hzl⟩:=agf 256;have hpz:putAt z 0 (u8s l)=u8s l:=gH (by rw[hu,hzl]);have h5:1<=(p:Int)+1/\(p:Int)+1<=256:=om
 have h6:0<=(p:Int)/\(p:Int)<=256:=om
 have c1:lH 256 (some (.int .i64 1)) (some (.int .i64 ((p:Int)+1))) none=some (1,p+1,none):=by
  have e1:((p:Int)+1).toNat=p+1:=om
  simp only[lH,iG];rw[if_pos om];simp only[ak,e1];rw[if_pos om];rfl
 have c2:lH 256 none (some (.int .i64 (p:Int))) none=some (0,p,none):=by simp only[lH,iG];rw[if_pos om];rfl
 have ht:(u8s l).take p=u8s (l.take p):=by simp[u8s,List.map_take]
 have htl:(u8s (l.take p)).length=p:=by rw[fH];simp;omega
 by_cases h0:p=0
 ·subst h0;have c1':lH 256 (some (.int .i64 1)) (some (.int .i64 1)) none=some (1,1,none):=rfl;have c2':lH 256 none (some (.int .i64 0)) none=some (0,0,none):=rfl;have hm':(u8s l).set 0 (.int .u8 (l[0]'(by omega):Int))=u8s (ij l 0):=hm;simp(disch:=first|exact dis|fail) only[sy,simprocAttr,-List.reduceReplicate,hF.all,Ka,ju,gQ,hu,fR hu,jM,h1,h2,h3,hc,hz,hzl,hpz,c1',c2',hm',hm2,hcv,hsc,hrf,fR hm2,gH (rfl:(u8s (ij l 0)).length=(u8s (ij l 0)).length)]
 ·have h7:p<=256:=om
  have h8':1+p<=256:=om
  have pl1:(putAt (u8s l) 1 (u8s (l.take p))).length=256:=by rw[jD,hu]
  have htt:(u8s (l.take p)).take p=u8s (l.take p):=bt om;simp(disch:=first|exact dis|fail) only[sy,simprocAttr,-List.reduceReplicate,hF.all,Ka,ju,gQ,hu,fR hu,jM,h1,h2,h3,hc,hz,hzl,hpz,h5,h6,h7,h8',h0,Nat.sub_zero,ey,Nat.min_self,dR,pl1,htt,c1,c2,ht,htl,hm,hm2,hcv,hsc,hrf,fR hm2,gH (rfl:(u8s (ij l p)).length=(u8s (ij l p)).length)]
end
end TmM
namespace AM
open Go Go.RowKit
section
variable{fz:fD}{fr:Fr}{σ:St}
def adg(σ:St)(c:Int):Option (List UInt8)->Option (Value×St)
 | some l=>some (.int .i64 (ixB c.toNat.toUInt8 l 0),σ)
 | none=>none
def adh(σ:St)(c:Int)(o n:Nat):Option (Bool×List Value)->Option (Value×St)
 | some (_,cs)=>if o+n<=cs.length then adg σ c (kG ((cs.drop o).take n)) else none
 | none=>none
def Z2(σ:St)(x c:Option Value):Option (Value×St):=x.bind fun x=>c.bind fun c=>match x,c with
  | .slice none 0 0,.int .u8 _=>some (.int .i64 (-1),σ)
  | .slice (some a) n _,.int .u8 c=>(σ.blk a).bind fun(_,cs)=>if a.off+n<=cs.length then (kG ((cs.drop a.off).take n)).map fun l=>(.int .i64 (ixB c.toNat.toUInt8 l 0),σ) else none
  | _,_=>none
theorem SO(b o n e:Nat)(s:Option Nat)(c:Int):Z2 σ (some (.slice (some ⟨b,o,s⟩) n e)) (some (.int .u8 c))=adh σ c o n (σ.blk ⟨b,o,s⟩):=by
 unfold Z2 adh;simp only[ak];cases σ.blk ⟨b,o,s⟩ with
 | none=>rfl
 | some q=>
  obtain⟨g,cs⟩:=q;simp only[ak];split
  ·cases kG ((cs.drop o).take n)<;>rfl
  ·rfl
theorem SP(c:Int)(o n:Nat)(g:Bool)(cs:List Value):adh σ c o n (some (g,cs))=if o+n<=cs.length then adg σ c (kG ((cs.drop o).take n)) else none:=rfl
theorem SQ(c:Int)(l:List UInt8):adg σ c (some l)=some (.int .i64 (ixB c.toNat.toUInt8 l 0),σ):=rfl
theorem WS(x c:Operand):aop fz (.Dy x c) fr σ=Z2 σ (ev fr x) (ev fr c):=by simp only[aop,Z2];congr 1
end
end AM
namespace TsA
open Go Go.RowKit AM fO LtA SyP TmM
theorem PE{c:Nat}(hc:c < 256):∀ (l:List Nat) (i:Nat),By l->c∈l->ixB (UInt8.ofNat c) (b8 l) i=((i+l.idxOf c:Nat):Int)
 | [],i,_,h=>by cases h
 | x::l,i,hb,h=>by
  have hx:=hb x (by simp);have e:b8 (x::l)=UInt8.ofNat x::b8 l:=rfl;rw[e,ixB];by_cases hxc:x=c
  ·subst hxc;rw[if_pos rfl,List.idxOf_cons_self,bY]
  ·have hn:UInt8.ofNat x≠UInt8.ofNat c:=fun h=>hxc (by have:=congrArg UInt8.toNat h;simp only[UInt8.toNat_ofNat'] at this;omega)
   rw[if_neg hn,PE hc l (i+1) (fun b h=>hb b (by simp[h])) ((aJ.1 h).resolve_left (Ne.symm hxc)),List.idxOf_cons,show(x==c)=false by simpa using hxc,cond_false];omega
section
variable{hp:List Blk}{L:Nat}{H d:List Nat}
theorem WT{l:List Nat}(hl:l.length=256)(h8:By l){c:Nat}(hc:c < 256)(hm:c∈l){b e:Nat}(hb:hp[b]?=some (.cells 0 true (u8s l)))(hh:H.contains b=false)(hF:Fit hp.length L H) :
  fS env (.func 188) [.slice (some ⟨b,0,some 0⟩) 256 e,.int .u8 c] ⟨hp,L,H,d⟩=some (.int .i64 (l.idxOf c:Nat),⟨hp,L,H,d⟩):=by
 rw[fF 188 _ _ afz];have hu:(u8s l).length=256:=by rw[fH,hl]
 have hx:ixB c.toUInt8 (b8 l) 0=((l.idxOf c:Nat):Int):=by have:=PE hc l 0 h8 hm;rw[aX] at this;exact this
 have hcx:∀ s:Option Nat,s=some 0->(Vm s (some (.cells 0 true (u8s l))))=some (true,u8s l):=fun s hs=>by subst hs;rfl
 simp(disch:=first|exact dis|fail) only[sy,simprocAttr,-List.reduceReplicate,hF.all,Wj,WS,SO,SP,SQ,hb,hh,hu,fR hu,vg,hx]
theorem Ku{l:List Nat}(hl:l.length=256)(h8:By l){c:Nat}(hc:c < 256)(hm:c∈l)(hF:Fit hp.length L H) :
  fS env (.func 140) [.agg (u8s l).toArray,.int .u8 c] ⟨hp,L,H,d⟩=some (.tuple #[.agg (u8s (SyP.jN l c).1).toArray,.int .i64 ((SyP.jN l c).2:Nat)],⟨hp,L,H,d⟩):=by
 rw[fF 140 _ _ afn];have hu:(u8s l).length=256:=by rw[fH,hl]
 have hi:l.idxOf c < 256:=by rw[<- hl];exact bP hm
 have h1:=fun nw e d hF2=>WT (hp:=hp++.cells 0 true (u8s l)::nw) (L:=L) (H:=H) (d:=d) hl h8 hc hm (b:=hp.length) (e:=e) (gA _) hF.lS hF2;have c0:lH 256 none none none=some (0,256,none):=rfl;have h2:=fun hp L H d hF=>SN (hp:=hp) (L:=L) (H:=H) (d:=d) hl h8 hi hF;have hm2:(u8s (ij l (l.idxOf c))).length=256:=by rw[fH,Ay hl hi]
 have hcv:=ju (ij l (l.idxOf c));have hsc:=gQ (ij l (l.idxOf c));have hrf:=jM (ij l (l.idxOf c));obtain⟨z,hz,hzl⟩:=agf 256;have hpm:putAt z 0 (u8s (ij l (l.idxOf c)))=u8s (ij l (l.idxOf c)):=gH (by rw[hm2,hzl]);have ahV:putAt (u8s (ij l (l.idxOf c))) 0 (u8s (ij l (l.idxOf c)))=u8s (ij l (l.idxOf c)):=gH rfl;show _=some (Value.tuple #[.agg (u8s (ij l (l.idxOf c))).toArray,.int .i64 (l.idxOf c:Nat)],_);simp(disch:=first|exact dis|fail) only[sy,simprocAttr,-List.reduceReplicate,hF.all,We,ju,gQ,hu,fR hu,jM,hz,hzl,c0,h1,h2,hm2,hcv,hsc,hrf,fR hm2,hpm,ahV]
def DM(i:Nat):List Value:=u8s (List.range i)++List.replicate (256 - i) (.int .u8 0)
theorem SR:List.replicate 256 (Value.int .u8 0)=DM 0:=rfl
theorem Kv{i:Nat}(h:i<=256):(DM i).length=256:=by simp[DM,u8s];omega
theorem WU:DM 256=u8s jf:=by simp[DM,jf]
theorem WV{i:Nat}(h:i < 256):(DM i).set i (.int .u8 i)=DM (i+1):=by
 have e:(256 - i)=(256 - (i+1))+1:=om
 have hl:(u8s (List.range i)).length=i:=by rw[fH,List.length_range]
 unfold DM;rw[cw _ _ om,hl,cL,e,bO,dP,cN];simp[u8s]
theorem Kw(hF:Fit hp.length L H):∀ k i:Nat,i+k=256->∃ fr,
  fW env z6 [2,0] (hp.length+1) [(2,.int .i64 i),(0,.pointer (some ⟨hp.length,0,some 0⟩))] ⟨hp++[.cells 0 true (DM i)],L,H,[]⟩ =
  some (.exit 0,fr,⟨hp++[.cells 0 true (DM 256)],L,H,[]⟩)/\fr.get 0=some (.pointer (some ⟨hp.length,0,some 0⟩))
 | 0,i,e=>by
  obtain rfl:i=256:=om
  rw[fC z6.eq_1];simp(disch:=first|exact dis|fail) only[sy,simprocAttr,-List.reduceReplicate,hF.all];exact⟨_,rfl,rfl⟩
 | k+1,i,e=>by
  obtain⟨fr,e1,e2⟩:=Kw hF k (i+1) om;have h1:(i:Int) < 256:=om
  have h2:0<=(i:Int)/\(i:Int) < 256:=om
  have h3:i+1<=256:=om
  have h4:(i:Int)%256=i:=om
  have h5:U1 .u8 (.int .i64 (i:Int))=some (.int .u8 (i:Int)):=by rw[Es,ahy,h4]
  rw[fC z6.eq_1];simp only[aC,aI] at e1;simp(disch:=first|exact dis|fail) only[sy,simprocAttr,-List.reduceReplicate,hF.all,h1,h2,h3,h4,h5,Kv (show i<=256 by omega),WV (show i < 256 by omega),e1];exact⟨fr,rfl,e2⟩
theorem WW(hF:Fit hp.length L H):fS env (.func 136) [] ⟨hp,L,H,d⟩=some (.agg (u8s jf).toArray,⟨hp,L,H,d⟩):=by
 rw[fF 136 _ _ abT];obtain⟨fr,e1,e2⟩:=Kw (hp:=hp) (L:=L) (H:=H) hF 256 0 rfl;simp only[aN] at e1;have hu:(u8s jf).length=256:=by rw[fH];simp[jf]
 rw[WU] at e1;simp(disch:=first|exact dis|fail) only[sy,simprocAttr,-List.reduceReplicate,hF.all,Wd,SR,Kv (cm 256),ju,gQ,hu,fR hu,jM,gH (rfl:(u8s jf).length=(u8s jf).length),e1,e2]
end
end TsA
namespace AM
open Go
def firsts:List Nat->List Nat->List Nat
 | [],acc=>acc
 | r::l,acc=>if acc.contains r then firsts l acc else firsts l (acc++[r])
theorem rI:∀ (l acc:List Nat) (x:Nat),x∈firsts l acc↔x∈l\/x∈acc
 | [],acc,x=>by simp[firsts]
 | r::l,acc,x=>by
  unfold firsts;split
  ·next h=>
   rw[rI l acc x];have:r∈acc:=by simpa using h
   constructor
   ·rintro(h1 | h1)
    ·simp[h1]
    ·exact .inr h1
   ·rintro(h1 | h1)
    ·rcases aJ.1 h1 with rfl | h2
     ·exact .inr this
     ·exact .inl h2
    ·exact .inr h1
  ·rw[rI l _ x];simp only[aP,aJ,bJ,or_false];constructor
   ·rintro(h1 | h1 | h1)
    ·exact .inl (.inr h1)
    ·exact .inr h1
    ·exact .inl (.inl h1)
   ·rintro((h1 | h1) | h1)
    ·exact .inr (.inr h1)
    ·exact .inl h1
    ·exact .inr (.inl h1)
theorem y9:∀ (l:List Nat) (r:Nat),jP l=true->l.contains r=false->jP (l++[r])=true
 | [],r,_,_=>rfl
 | x::l,r,h,hr=>by
  simp only[jP,au,aS] at h ⊢;simp only[List.contains_cons,Bool.or_eq_false_iff] at hr;refine⟨?_,y9 l r h.2 hr.2⟩;have h1:=h.1;simp only[bU,eF,decide_eq_false_iff_not] at h1 ⊢;intro hx;rcases aP.1 hx with h2 | h2
  ·exact h1 h2
  ·simp at h2 hr;exact hr.1 h2.symm
theorem rJ:∀ (l acc:List Nat),jP acc=true->jP (firsts l acc)=true
 | [],acc,h=>h
 | r::l,acc,h=>by
  unfold firsts;split
  ·exact rJ l acc h
  ·next hc=>exact rJ l _ (y9 acc r h (by simpa using hc))
def zE(b:Blk):Prop:=iN b=[]/\∀ f,kR f b=b
theorem zE.plain(g:Nat)(cs:List Value):zE (.cells g true cs):=⟨rfl,fun _=>rfl⟩
theorem sU{hp:List Blk}{base:Nat} : ∀ (ws acc:List Nat) (f:Nat),ws.length < f->(∀ x∈ws,base<=x/\∃ b,hp[x]?=some b/\zE b)->reach hp base f ws acc=firsts ws acc
 | ws,acc,0,h,_=>by omega
 | [],acc,f+1,_,_=>by rw[reach,firsts]
 | r::ws,acc,f+1,hl,hx=>by
  obtain⟨h1,b,h2,h3⟩:=hx r (by simp);rw[reach,firsts];have hb:(decide (r < base)||acc.contains r)=acc.contains r:=by rw[decide_eq_false om,fy]
  rw[hb];simp only[az] at hl;have hr:fV hp r=[]:=by simp[fV,h2,h3.1]
  rw[hr,aV,sU ws acc f om (fun x h=>hx x (by simp[h])),sU ws (acc++[r]) f om (fun x h=>hx x (by simp[h]))]
theorem ud{f:Nat->Nat}{v:Value}(h:∀ r∈fJ v,f r=r):iX f v=v:=by
 cases v with
 | pointer a=>cases a with
  | none=>rfl
  | some a=>simp only[iX];rw[h a.block (by simp[fJ])]
 | slice a n e=>cases a with
  | none=>rfl
  | some a=>simp only[iX];rw[h a.block (by simp[fJ])]
 | map r=>cases r with
  | none=>rfl
  | some r=>simp only[iX];rw[h r (by simp[fJ])]
 | iface t v=>
  cases v<;>try rfl
  rename_i a;cases a with
  | none=>rfl
  | some a=>simp only[iX];rw[h a.block (by simp[fJ])]
 | _=>rfl
theorem map_id'{α:Type}{f:α->α}{l:List α}(h:∀ a∈l,f a=a):l.map f=l:=by rw[bQ (g:=id) h,List.map_id]
theorem GZ{f:Nat->Nat}{v:Value}(h:∀ r∈fU v,f r=r):ke f v=v:=by
 cases v with
 | agg cs=>
  simp only[ke];rw[map_id' fun a ha=>ud fun r hr=>h r (aY.2 ⟨a,ha,hr⟩)]
 | func k fi ca=>
  simp only[ke];rw[map_id' fun a ha=>ud fun r hr=>h r (aP.2 (.inl (aY.2 ⟨a,ha,hr⟩))),map_id' fun a ha=>ud fun r hr=>h r (aP.2 (.inr (aY.2 ⟨a,ha,hr⟩)))]
 | _=>simp only[ke];exact ud (by simpa only[fU] using h)
theorem xQ{f:Nat->Nat}{v:Value}(h:∀ r∈refs v,f r=r):ren f v=v:=by
 cases v with
 | tuple vs=>
  simp only[ren];rw[map_id' fun a ha=>GZ fun r hr=>h r (aY.2 ⟨a,ha,hr⟩)]
 | _=>simp only[ren];exact GZ (by simpa only[refs] using h)
def plc(base:Nat)(ks:List Nat)(id:Nat):Nat:=if id < base then id else base+ks.idxOf id
theorem Z3{base:Nat}{ks:List Nat}{id:Nat}(h:id < base):plc base ks id=id:=if_pos h
section
variable{h nw:List Blk}{L:Nat}{H d:List Nat}{vs:List Value}
theorem Kx{R:List Nat}(hdn:jP d=true)(hdl:∀ t∈d,t < h.length)
  (EC:(vs.flatMap refs++d.flatMap (fV h)).filter (h.length<=·)=R) (hne:R≠[]) (hlen:R.length < 4096)
  (hp:∀ r∈R,∃ b,(h++nw)[r]?=some b/\zE b) :
  gc h.length vs ⟨h++nw,L,H,d⟩=some (vs.map (ren (plc h.length (firsts R []))),⟨jq (plc h.length (firsts R [])) d h++(firsts R []).map fun r=>(h++nw).getD r default,L,H,d⟩):=by
 have SS:d.filter (· < h.length)=d:=cR.2 fun t ht=>by simpa using hdl t ht
 have Z4:∀ t∈d,fV (h++nw) t=fV h t:=fun t ht=>by unfold fV;rw[aA (hdl t ht)]
 have hfm:d.flatMap (fV (h++nw))=d.flatMap (fV h):=by rw[List.flatMap_def,List.flatMap_def,bQ Z4]
 have hR:∀ r∈R,h.length<=r/\r < (h++nw).length:=fun r hr=>by
  refine⟨?_,?_⟩
  ·rw[<- EC] at hr;simpa using (cT.1 hr).2
  ·obtain⟨b,h1,_⟩:=hp r hr;exact(af.1 h1).1
 have agi:¬ (h++nw).length<=h.length:=by
  cases R with
  | nil=>exact absurd rfl hne
  | cons r R=>have:=hR r (by simp);omega
 have hmem:∀ r,(r∈vs.flatMap refs\/r∈d.flatMap (fV h))->(decide (r < h.length)||(firsts R []).contains r)=true:=fun r hr=>by
  rcases bu r h.length with h1 | h1
  ·simp[h1]
  ·have:r∈R:=by rw[<- EC];exact cT.2 ⟨aP.2 hr,by simpa using h1⟩
   have:r∈firsts R []:=(rI R [] r).2 (.inl this);simp[this]
 unfold gc;rw[if_neg agi];simp only[SS,hfm];rw[EC];cases hRR:R with
 | nil=>exact absurd hRR hne
 | cons r R'=>
  simp only[];rw[sU (r::R') [] 4096 (by rw[<- hRR];exact hlen) (fun x hx=>by rw[<- hRR] at hx;exact⟨(hR x hx).1,hp x hx⟩),<- hRR];unfold qN;simp only[SS];have hkm:∀ k∈firsts R [],k∈R:=fun k hk=>by
   rcases(rI R [] k).1 hk with h1 | h1
   ·exact h1
   ·cases h1
  refine(if_pos ?_).trans ?_
  ·simp only[au];refine⟨⟨⟨⟨rJ R [] rfl,hdn⟩,?_⟩,?_⟩,?_⟩
   ·rw[aF];intro v hv;rw[aF];intro r hr;exact hmem r (.inl (aY.2 ⟨v,hv,hr⟩))
   ·rw[aF];intro t ht;rw[aF];intro r hr;rw[Z4 t ht] at hr;exact hmem r (.inr (aY.2 ⟨t,ht,hr⟩))
   ·rw[aF];intro k hk;have hk':=hkm k hk;obtain⟨b,hg,hs⟩:=hp k hk';have hr0:fV (h++nw) k=[]:=by simp[fV,hg,hs.1]
    rw[hr0];simp only[dS,dx,au,decide_eq_true_eq];exact hR k hk'
  ·simp only[List.take_left'];congr 4;refine bQ fun k hk=>?_;obtain⟨b,hg,hs⟩:=hp k (hkm k hk);rw[aE,hg];exact hs.2 _
theorem PF{R:List Nat}(hdn:jP d=true)(hdl:∀ t∈d,t < h.length)
  (EC:(vs.flatMap refs++d.flatMap (fV h)).filter (h.length<=·)=R) (hne:R≠[]) (hlen:R.length < 4096)
  (hp:∀ r∈R,∃ g cs,(h++nw)[r]?=some (.cells g true cs)) :
  gc h.length vs ⟨h++nw,L,H,d⟩=some (vs.map (ren (plc h.length (firsts R []))),⟨jq (plc h.length (firsts R [])) d h++(firsts R []).map fun r=>(h++nw).getD r default,L,H,d⟩):=
 Kx hdn hdl EC hne hlen fun r hr=>by obtain⟨g,cs,h1⟩:=hp r hr;exact⟨_,h1,zE.plain g cs⟩
theorem Z5{d:List Nat}(hv:∀ v∈vs,∀ r∈refs v,r < h.length)(hdl:∀ t∈d,t < h.length)(hdr:∀ t∈d,∀ r∈fV h t,r < h.length) :
  gc h.length vs ⟨h++nw,L,H,d⟩=some (vs,⟨h,L,H,d⟩):=by
 have SS:d.filter (· < h.length)=d:=cR.2 fun t ht=>by simpa using hdl t ht
 have Z4:∀ t∈d,fV (h++nw) t=fV h t:=fun t ht=>by unfold fV;rw[aA (hdl t ht)]
 have hfm:d.flatMap (fV (h++nw))=d.flatMap (fV h):=by rw[List.flatMap_def,List.flatMap_def,bQ Z4]
 unfold gc;by_cases hn:(h++nw).length<=h.length
 ·rw[if_pos hn];have:nw=[]:=by simp only[aB] at hn;exact bp om
  subst this;simp
 ·rw[if_neg hn];simp only[SS,hfm];have:(vs.flatMap refs++d.flatMap (fV h)).filter (h.length<=·)=[]:=by
   rw[dI];intro r hr;rcases aP.1 hr with hr | hr
   ·obtain⟨v,h1,h2⟩:=aY.1 hr;have:=hv v h1 r h2;simpa using this
   ·obtain⟨v,h1,h2⟩:=aY.1 hr;have:=hdr v h1 r h2;simpa using this
  rw[this];simp
theorem WX{base:Nat}{d:List Nat}(hb:h.length=base)(hv:∀ v∈vs,∀ r∈refs v,r < base)(hdl:∀ t∈d,t < base)(hdr:∀ t∈d,∀ r∈fV h t,r < base) :
  gc base vs ⟨h++nw,L,H,d⟩=some (vs,⟨h,L,H,d⟩):=by subst hb;exact Z5 hv hdl hdr
theorem PG{base a k g:Nat}{cs:List Value}{x:Blk}(hb:h.length=base)(hv:∀ v∈vs,∀ r∈refs v,r < base)(ha:h[a]?=some x)(hx:(iN x).filter (base<=·)=[base+k])(hk:nw[k]?=some (.cells g true cs)) :
  gc base vs ⟨h++nw,L,H,[a]⟩=some (vs,⟨h.set a (kR (plc base [base+k]) x)++[.cells g true cs],L,H,[a]⟩):=by
 subst hb;have hal:=(af.1 ha).1;have hr:fV h a=iN x:=by simp[fV,ha]
 have hkl:(h++nw)[h.length+k]?=some (.cells g true cs):=by rw[aM om,cx];exact hk
 have h0:(vs.flatMap refs).filter (h.length<=·)=[]:=by rw[dI];intro r hr;obtain⟨v,h1,h2⟩:=aY.1 hr;have:=hv v h1 r h2;simpa using this
 rw[PF (R:=[h.length+k]) rfl (fun t ht=>by simp at ht;omega) (by rw[cG,h0,dV,dK,bB,hr,hx];rfl) (by simp) (by simp) (fun r hr=>by simp at hr;subst hr;exact⟨g,cs,hkl⟩)];have hf:firsts [h.length+k] []=[h.length+k]:=rfl;rw[hf,map_id' fun v h1=>xQ fun r h2=>Z3 (hv v h1 r h2)];have hg:(h++nw).getD (h.length+k) default=.cells g true cs:=by rw[aE,hkl];rfl
 have hm:h.modify a (kR (plc h.length [h.length+k]))=h.set a (kR (plc h.length [h.length+k]) x):=by
  refine bK fun i=>?_;rw[dz,cr];by_cases c:a=i
  ·subst c;rw[if_pos rfl,if_pos hal,ha];simp
  ·rw[if_neg c];simp[c]
 simp only[jq,aK,br,hg,hm]
end
end AM
namespace AM
open Go Go.RowKit
end AM
namespace TsB
open Go Go.RowKit AM fO LtA SyP TmM TsA
theorem NI{h nw:List Blk}{b:Blk}(k:Nat)(hk:nw[k]?=some b)(hb:zE b)(s:Option Nat)(n e:Nat)(L:Nat)(H:List Nat) :
  gcY h nw (.slice (some ⟨h.length+k,0,s⟩) n e) L H false=some ([.slice (some ⟨h.length,0,s⟩) n e],⟨h++[b],L,H,[]⟩):=by
 have g0:(h++nw)[h.length+k]?=some b:=by rw[iE];exact hk
 unfold gcY;rw[Kx (R:=[h.length+k]) rfl (by simp) (by simp[refs,fU,fJ]) (by simp) (by simp) (fun r hr=>by simp only[aJ,bJ,or_false] at hr;subst hr;exact⟨_,g0,hb⟩)]
 have hf:firsts [h.length+k] []=[h.length+k]:=rfl;rw[hf];have p0:plc h.length [h.length+k] (h.length+k)=h.length:=by simp[plc];omega
 simp only[aK,br,ren,ke,iX,p0,jq,aE,g0,dn]
theorem G5{h:List Blk}{b:Blk}(hb:zE b)(s:Option Nat)(n e:Nat)(L:Nat)(H:List Nat) :
  gcY h [b] (.slice (some ⟨h.length,0,s⟩) n e) L H false=some ([.slice (some ⟨h.length,0,s⟩) n e],⟨h++[b],L,H,[]⟩):=NI 0 rfl hb s n e L H
end TsB
namespace AM
open Go
def nx(l:List Nat):Prop:=∀ b∈l,b < 2
theorem nx.nil:nx []:=fun b h=>by cases h
theorem nx.append{l m:List Nat}(h:nx l)(k:nx m):nx (l++m):=fun x hx=>(aP.1 hx).elim (h x) (k x)
theorem nx.one{b:Nat}(h:b < 2):nx [b]:=fun x hx=>by simp at hx;omega
def g(l:List Nat)(p:Nat):Nat:=l.getD p 0
def byt(l:List Nat)(i:Nat):Nat:=128*g l (8*i)+64*g l (8*i+1)+32*g l (8*i+2)+16*g l (8*i+3)+8*g l (8*i+4)+4*g l (8*i+5)+2*g l (8*i+6)+g l (8*i+7)
def nb(l:List Nat):Nat:=(l.length+7) / 8
def agj(l:List Nat)(n:Nat):List Nat:=(List.range n).map (byt l)
def ahW(l:List Nat):List Nat:=agj l (nb l)
end AM
namespace Bt
open Go Go.RowKit AM fO
def Wr(k:Nat)(l:List Nat):Blk:=.cells 0 false [if l.length=0 then .slice none 0 0 else .slice (some ⟨k,0,some (nb l)⟩) (nb l) 1,.int .i64 l.length]
def Wb(l:List Nat):Blk:=.cells (nb l) true (u8s (ahW l))
theorem sm1:small 1=true:=rfl
theorem PI(n k:Nat):plc n [n+k] (n+k)=n:=by
 have:¬ n+k < n:=om
 simp[plc,this]
structure Ws(hp:List Blk)(L:Nat)(H:List Nat)(a k:Nat)(l:List Nat):Prop where
 w:hp[a]?=some (Wr k l)
 b:l.length≠0->hp[k]?=some (Wb l)
 k0:l.length=0->k=hp.length
 aL:L<=a
 kL:L<=k
 aH:H.contains a=false
 kH:H.contains k=false
 ne:a≠k
 bits:nx l
end Bt
namespace Bt
open Go Go.RowKit AM fO
section
variable{hp:List Blk}{L:Nat}{H:List Nat}{a k:Nat}{l m:List Nat}
theorem Ws.lt(w:Ws hp L H a k l):a < hp.length:=(af.1 w.w).1
end
end Bt
namespace Bt
open Go Go.RowKit AM fO
section
variable{hq:List Blk}{L:Nat}{H:List Nat}{a k:Nat}{l m:List Nat}
theorem WY(fr:Fr):(fr.map (·.1)).zip (fr.map (·.2))=fr:=by
 induction fr with
 | nil=>rfl
 | cons x fr ih=>simp only[aK,cU,ih]
end
end Bt
namespace Bt
open Go Go.RowKit AM fO
variable{hp:List Blk}{L:Nat}{H:List Nat}{a k:Nat}{l m:List Nat}
end Bt
namespace Bt
open Go Go.RowKit AM fO
variable{hp:List Blk}{L:Nat}{H:List Nat}{a k:Nat}{l m:List Nat}
structure Wv(hp:List Blk)(H:List Nat)(a k:Nat)(l:List Nat):Prop where
 w:hp[a]?=some (Wr k l)
 b:l.length≠0->hp[k]?=some (Wb l)
 aH:H.contains a=false
 kH:l.length≠0->H.contains k=false
 bits:nx l
end Bt
namespace Bt
open Go Go.RowKit AM fO
variable{hp:List Blk}{L:Nat}{H:List Nat}{a k:Nat}{l m:List Nat}
def is(l:List Nat):List Value:=l.map fun n:Nat=>.int .i64 (n:Int)
theorem mE(l:List Nat):(is l).length=l.length:=by simp[is]
theorem oS(l:List Nat):(is l).all sc=true:=by simp[is,AM.sc]
theorem jR(l:List Nat):(is l).all fY=true:=by simp[is,fY,AM.sc]
def slI(k:Nat)(l:List Nat):Value:=if l.length=0 then .slice none 0 0 else .slice (some ⟨k,0,some l.length⟩) l.length 1
def lB(l:List Nat):List Blk:=if l.length=0 then [] else [.cells l.length true (is l)]
theorem rK{L:Nat}{H d:List Nat}{m:List Nat}(h0:m.length≠0)(hs:m.length<=1048576):St.append ⟨hp,L,H,d⟩ true 1 (.slice none 0 0) m.length (is m)=some (.slice (some ⟨hp.length,0,some m.length⟩) m.length 1,⟨hp++[.cells m.length true (is m)],L,H,d⟩):=by
 have hsm:small m.length=true:=by simp[small,hs]
 simp[St.append,h0,hsm,oS,jR]
theorem ue{L:Nat}{H d:List Nat}{b:Nat}{l m:List Nat}(hb:hp[b]?=some (.cells l.length true (is l)))(hL:L<=b)(hh:H.contains b=false)(h0:m.length≠0)(hs:l.length+m.length<=1048576) :
  St.append ⟨hp,L,H,d⟩ true 1 (.slice (some ⟨b,0,some l.length⟩) l.length 1) m.length (is m)=some (.slice (some ⟨b,0,some (l.length+m.length)⟩) (l.length+m.length) 1,⟨hp.set b (.cells (l.length+m.length) true (is (l++m))),L,H,d⟩):=by
 have hsm:small (l.length+m.length)=true:=by simp[small,hs]
 have hbl:St.blk ⟨hp,L,H,d⟩ ⟨b,0,some l.length⟩=some (true,is l):=by unfold St.blk;rw[hh,hb];simp
 have hnl:¬ b < L:=om
 simp[St.append,h0,hsm,oS,jR,hbl,hnl,mE,gm];simp[is]
end Bt
namespace TsC
open Go Go.RowKit AM fO LtA SyP TmM TsA TsB Bt
def dgA:fG:=.region [D 4 (.mv (T 13))]
def dgB:fG:=.block 1 (.region [D 14 (.load none (T 2)),D 15 (.mv (T 4)),D 16 (.gV true 1 1 [(.int .i64 0)] [(0,1,(T 15))]),D 17 (.append true 1 (T 14) (T 16)),E (.store 1 (T 2) (T 17))])
section
variable{hp:List Blk}{L:Nat}{H d:List Nat}
theorem SU(n:Nat)(hF:Fit hp.length L H) :
  fS env (.func 189) [.int .i64 n] ⟨hp,L,H,d⟩=some (.func (.func 232) #[] #[.pointer (some ⟨hp.length,0,some 0⟩)],⟨hp++[.cells 0 true [.int .i64 n]],L,H,d⟩):=by rw[fF 189 _ _ afA];simp(disch:=first|exact dis|fail) only[sy,simprocAttr,-List.reduceReplicate,hF.all,Wk];rw[kO 0 rfl (by simp[refs,fU,fJ]) (by simp[refs,fU,fJ])];have h1:AM.one hp.length hp.length hp.length=hp.length:=JX;simp only[bY,ren,ke,iX,aK,br,h1];simp(disch:=first|exact dis|fail) only[sy,simprocAttr,-List.reduceReplicate]
def dgS(hp:List Blk)(l:List Nat)(v:Nat):List Blk:=hp++.cells 0 false [slI (hp.length+2) l]::.cells 0 true [.int .i64 v]::lB l
def dgD(b:Nat)(l:List Nat):List Nat:=if l.length=0 then [] else [b]
theorem lC(k:Nat):slI k []=.slice none 0 0:=rfl
theorem jS:lB []=[]:=rfl
theorem Ky{x v:Nat}{fr:Fr}(hF:Fit hp.length L H)(h2:fr.get 2=some (.pointer (some ⟨hp.length,0,some 0⟩))) :
  fS (.yl env [13] dgA dgB fr) (.yield 0) [.int .i64 x] ⟨hp++[.cells 0 false [.slice none 0 0],.cells 0 true [.int .i64 v]],L,H,[]⟩=some (.bool true,⟨hp++[.cells 0 false [.slice (some ⟨hp.length+2,0,some 1⟩) 1 1],.cells 0 true [.int .i64 v],.cells 1 true [.int .i64 x]],L,H,[hp.length]⟩):=by
 rw[Eo _ _ _ _ _ _ _ ⟨rfl,rfl⟩];have hs1:small 1=true:=by decide
 have ha:=fun nw=>rK (hp:=hp++nw) (L:=L) (H:=H) (d:=[]) (m:=[x]) (by simp) (by simp);simp only[is,aK,br,az,aT,aX,aB] at ha;simp(disch:=first|exact dis|fail) only[sy,simprocAttr,-List.reduceReplicate,hF.all,dgA,dgB,cU,eC,h2,ha,hs1];have G:=PG (base:=hp.length+2) (a:=hp.length) (k:=1) (vs:=[]) (L:=L) (H:=H) (h:=hp++[.cells 0 false [.slice (some ⟨hp.length+3,0,some 1⟩) 1 1],.cells 0 true [.int .i64 v]]) (nw:=[.cells 0 true [.int .i64 x],.cells 1 true [.int .i64 x]]) (by simp) (by simp) (gA _) (by simp[iN,fJ]) rfl;have hr:kR (plc (hp.length+2) [hp.length+2+1]) (.cells 0 false [.slice (some ⟨hp.length+3,0,some 1⟩) 1 1])=.cells 0 false [.slice (some ⟨hp.length+2,0,some 1⟩) 1 1]:=by simp only[kR,aK,br,iX];rw[show hp.length+3=hp.length+2+1 by omega,PI]
 rw[hr,gZ,aR,aR] at G;simp only[aS,aV] at G;rw[G];rfl
theorem NJ{x v:Nat}{l:List Nat}{fr:Fr}(hl:l≠[])(hs:l.length<=100)(hF:Fit hp.length L H)(h2:fr.get 2=some (.pointer (some ⟨hp.length,0,some 0⟩))) :
  fS (.yl env [13] dgA dgB fr) (.yield 0) [.int .i64 x] ⟨dgS hp l v,L,H,[hp.length]⟩=some (.bool true,⟨dgS hp (l++[x]) v,L,H,[hp.length]⟩):=by
 have h0:¬ l.length=0:=by cases l<;>simp at hl ⊢
 have h0':¬ (l++[x]).length=0:=by simp
 unfold dgS slI lB;rw[if_neg h0,if_neg h0,if_neg h0',if_neg h0'];rw[Eo _ _ _ _ _ _ _ ⟨rfl,rfl⟩];have hs1:small 1=true:=by decide
 have ha:=fun nw d=>ue (hp:=hp++.cells 0 false [.slice (some ⟨hp.length+2,0,some l.length⟩) l.length 1]::.cells 0 true [.int .i64 v]::.cells l.length true (is l)::nw) (L:=L) (H:=H) (d:=d) (b:=hp.length+2) (l:=l) (m:=[x]) (by rw[iE];rfl) (by have:=hF.1;omega) (hF.nv 2) (by simp) (by simp;omega);simp only[is,aK,br,az,aT,aX,aB] at ha;simp(disch:=first|exact dis|fail) only[sy,simprocAttr,-List.reduceReplicate,hF.all,dgA,dgB,cU,eC,h2,is,ha,hs1];have G:=WX (base:=hp.length+3) (vs:=[]) (d:=[hp.length]) (L:=L) (H:=H) (h:=hp++[.cells 0 false [.slice (some ⟨hp.length+2,0,some (l.length+1)⟩) (l.length+1) 1],.cells 0 true [.int .i64 v],.cells (l.length+1) true (List.map (fun n:Nat=>Value.int IntKind.i64 (n:Int)) (l++[x]))]) (nw:=[.cells 0 true [.int .i64 x]]) (by simp) (by simp) (by simp) (by intro t ht r hr;simp only[aJ,bJ,or_false] at ht;subst ht;unfold fV at hr;rw[gA] at hr;simp[iN,fJ] at hr;omega)
 rw[aR] at G;simp only[aS,aV] at G;rw[G];simp only[F9,fX,List.contains_cons,BEq.rfl,Bool.true_or,if_true]
theorem abW{m:List Nat}{w:Nat}(hm:m≠[]){vs:List Value}(hv:∀ v∈vs,∀ r∈refs v,r < hp.length+2) :
  gc (hp.length+2) vs ⟨hp++[.cells 0 false [.slice (some ⟨hp.length+2,0,some m.length⟩) m.length 1],.cells 0 true [.int .i64 w],.cells m.length true (is m)],L,H,[hp.length]⟩=some (vs,⟨hp++[.cells 0 false [.slice (some ⟨hp.length+2,0,some m.length⟩) m.length 1],.cells 0 true [.int .i64 w],.cells m.length true (is m)],L,H,[hp.length]⟩):=by
 have G:=PG (base:=hp.length+2) (a:=hp.length) (k:=0) (vs:=vs) (L:=L) (H:=H) (h:=hp++[.cells 0 false [.slice (some ⟨hp.length+2,0,some m.length⟩) m.length 1],.cells 0 true [.int .i64 w]]) (nw:=[.cells m.length true (is m)]) (by simp) hv (gA _) (by simp[iN,fJ]) rfl;have hr:kR (plc (hp.length+2) [hp.length+2+0]) (.cells 0 false [.slice (some ⟨hp.length+2,0,some m.length⟩) m.length 1])=.cells 0 false [.slice (some ⟨hp.length+2,0,some m.length⟩) m.length 1]:=by simp only[kR,aK,br,iX];rw[show hp.length+2=hp.length+2+0 by omega,PI]
 rw[hr,gZ,aR] at G;simp only[aS,aV] at G;exact G
theorem Z6{m:List Nat}{w:Nat}(hm:m≠[]){fr:Fr}(hv:∀ p∈fr,∀ r∈refs p.2,r < hp.length+2) :
  kS (hp.length+2) fr ⟨dgS hp m w,L,H,[hp.length]⟩=some (fr,⟨dgS hp m w,L,H,[hp.length]⟩):=by
 have h0:¬ m.length=0:=by cases m<;>simp at hm ⊢
 unfold dgS slI lB;rw[if_neg h0,if_neg h0];unfold kS;rw[abW hm (fun v h1 r h2=>by obtain⟨p,hp',rfl⟩:=bw.1 h1;exact hv p hp' r h2)]
 simp only[bq,WY]
theorem Z7(n:Nat)(h:n<=2147483647):Sx 64 (n:Int) 1=(n%2:Nat):=by have:=mask 64 (n:Int) 1 om om om;unfold Sx;rw[show(1:Int)=((2 ^ 1 - 1:Nat):Int) by decide,this];omega
def dgF(hp:List Blk):Fr:=[(1,.pointer (some ⟨hp.length+1,0,some 0⟩)),(0,.func (.yield 0) #[] #[])]
theorem PJ{fr:Fr}(hF:Fit hp.length L H)(h2:fr.get 2=some (.pointer (some ⟨hp.length,0,some 0⟩))):∀ (k v:Nat) (l:List Nat),v < 2 ^ k->v<=2147483647->l.length+k<=100->∃ fr',
  fW (.yl env [13] dgA dgB fr) z7 [1,0] (hp.length+2) (dgF hp) ⟨dgS hp l v,L,H,dgD hp.length l⟩=some (.exit 0,fr',⟨dgS hp (l++jV v) 0,L,H,dgD hp.length (l++jV v)⟩)
 | k,0,l,_,_,_=>by
  rw[tZ,bB];unfold dgF dgS;rw[fC z7.eq_1];simp(disch:=first|exact dis|fail) only[sy,simprocAttr,-List.reduceReplicate,hF.all];exact⟨_,rfl⟩
 | 0,v+1,l,h,_,_=>by omega
 | k+1,v+1,l,h,hm,hk=>by
  rw[uc];obtain⟨fr',ih⟩:=PJ hF h2 k (v / 2) (l++[v%2]) om om (by simp;omega);refine⟨fr',?_⟩;rw[aR] at ih;have h1:(0:Int) < ((v+1:Nat):Int):=om
  have e1:((v+1:Nat):Int) - 1=(v:Int):=om
  have e2:=Z7 v om;have e3:(v:Int).fdiv 2=(v / 2:Nat):=by rw[JW _ (by decide)];omega
  have hd:dgD hp.length (l++[v%2])=[hp.length]:=by unfold dgD;rw[if_neg (by simp)]
  rw[hd] at ih;have hg:=Z6 (hp:=hp) (L:=L) (H:=H) (m:=l++[v%2]) (w:=v / 2) (by simp) (fr:=dgF hp) (by
   intro p hp' r hr;simp only[dgF,aJ,bJ,or_false] at hp';rcases hp' with rfl | rfl
   ·simp[refs,fU,fJ] at hr;omega
   ·simp[refs,fU] at hr)
  rw[fC z7.eq_1];by_cases hl:l=[]
  ·subst hl;have hr:=fun w=>Ky (L:=L) (H:=H) (x:=v%2) (v:=w) hF h2;simp only[aV,aS,dgS,dgF,lB,slI,dgD,az,aT,aX,is,aK,br,if_true,Nat.one_ne_zero,if_false] at hg ih hr ⊢;simp(disch:=first|exact dis|fail) only[sy,simprocAttr,-List.reduceReplicate,hF.all,h1,e1,e2,e3,hr,hg];have h9:¬ (jV (v / 2)).length+1=0:=om
   simp only[if_neg h9] at ih;exact ih
  ·have hr:=fun w=>NJ (L:=L) (H:=H) (x:=v%2) (v:=w) hl om hF h2;have h0:¬ l.length=0:=by cases l<;>simp at hl ⊢
   have h0':¬ (l++[v%2]).length=0:=by simp
   have hd0:dgD hp.length l=[hp.length]:=by unfold dgD;rw[if_neg h0]
   rw[hd0];have h9:¬ l.length+((jV (v / 2)).length+1)=0:=om
   have h9':¬ l.length+1=0:=om
   have hd1:dgD hp.length (l++v%2::jV (v / 2))=[hp.length]:=by unfold dgD;rw[if_neg (by simp)]
   simp only[aS,aV,hd1] at ih ⊢;unfold dgS slI lB at hg hr ih ⊢;unfold dgF at hg ih ⊢;simp only[aS,aV,aB,az,aT,aX,if_neg h0,if_neg h9',if_neg h9,aN] at hg hr ih ⊢;simp(disch:=first|exact dis|fail) only[sy,simprocAttr,-List.reduceReplicate,hF.all,h1,e1,e2,e3,hr,hg];exact ih
theorem Z8{base:Nat}{vs:List Value}{h:List Blk}{D:List Nat}(hD:∀ t∈D,base<=t)(hl:base < h.length):gc base vs ⟨h,L,H,D⟩=gc base vs ⟨h,L,H,[]⟩:=by
 have e:D.filter (· < base)=[]:=dI.2 fun t ht=>by have:=hD t ht;simp;omega
 have e2:([]:List Nat).filter (· < base)=[]:=rfl;unfold gc qN;simp only[e,e2];rw[if_neg om,if_neg om]
theorem za{n:Nat}(hn:n<=2147483647)(hF:Fit hp.length L H) :
  fS env (.func 141) [.int .i64 n] ⟨hp,L,H,d⟩=some (.tuple #[slI hp.length (jV n),.int .i64 0],⟨hp++lB (jV n),L,H,d⟩):=by
 rw[fF 141 _ _ afo];have hdn:=fun hp d hF=>SU (hp:=hp) (L:=L) (H:=H) (d:=d) n hF;have h1:¬ (n:Int) < 0:=om
 have h2:¬ (n:Int) > 2147483647:=om
 have hl:=fun fr h2=>PJ (fr:=fr) (hp:=hp) (L:=L) (H:=H) hF h2 31 n [] om hn (by decide);simp only[dgS,lC,jS,aV,dgF,dgA,dgB,D,T,E] at hl;have hd0:dgD hp.length []=[]:=rfl;rw[hd0] at hl;simp(disch:=first|exact dis|fail) only[sy,simprocAttr,-List.reduceReplicate,hF.all,Wf,h1,h2,hdn];obtain⟨fr',hl⟩:=hl [(12,.func (.func 232) #[] #[.pointer (some ⟨hp.length+1,0,some 0⟩)]),(11,.int .i64 n),(10,.bool false),(9,.bool false),(8,.int .i64 n),(7,.bool false),(6,.bool false),(5,.int .i64 n),(3,.int .i64 0),(2,.pointer (some ⟨hp.length,0,some 0⟩)),(0,.int .i64 n)] rfl;rw[hl];by_cases h0:(jV n).length=0
 ·have:jV n=[]:=bp h0;rw[this];simp(disch:=first|exact dis|fail) only[sy,simprocAttr,-List.reduceReplicate,hF.all,lC,jS,dgD]
 ·have hd1:dgD hp.length (jV n)=[hp.length]:=by unfold dgD;rw[if_neg h0]
  rw[hd1];unfold slI lB;rw[if_neg h0,if_neg h0,if_neg h0];have hj:fX [] [hp.length]=[hp.length]:=rfl;have G:=abW (hp:=hp) (L:=L) (H:=H) (m:=jV n) (w:=0) (vs:=[]) (by intro h;rw[h] at h0;exact h0 rfl) (by simp);simp only[aN] at G;simp(disch:=first|exact dis|fail) only[sy,simprocAttr,-List.reduceReplicate,hF.all,hj,G];have hc:(if [hp.length].contains hp.length=true then [hp.length] else [hp.length,hp.length])=[hp.length]:=by simp
  rw[hc,Z8 (by simp) (by simp),vf (k:=2) (g:=(jV n).length) (cs:=is (jV n)) rfl (by simp[refs,fU,fJ]) (by simp[refs,fU,fJ]) rfl];have h1:AM.one hp.length (hp.length+2) (hp.length+2)=hp.length:=iZ;simp only[ren,ke,iX,aK,br,h1];simp(disch:=first|exact dis|fail) only[sy,simprocAttr,-List.reduceReplicate]
end
end TsC
namespace TsD
open Go Go.RowKit AM fO LtA SyP TmM TsA TsB TsC Bt
def ji(l:List Nat)(r:Nat):List Value:=u8s l++[.int .i64 r]
section
variable{hp:List Blk}{L:Nat}{H d:List Nat}{l:List Nat}{r:Nat}
theorem jG(hl:l.length=256):(ji l r).length=257:=by simp[ji,u8s,hl]
theorem j7:(ji l r).all fY=true:=by simp[ji,ju,AM.fY,AM.sc]
theorem jv:(ji l r).all AM.sc=true:=by simp[ji,gQ,AM.sc]
theorem jT:(ji l r).flatMap fJ=[]:=by simp[ji,jM,fJ]
theorem sV(hl:l.length=256):(ji l r)[256]?=some (.int .i64 r):=by unfold ji;rw[aM (by rw[fH];omega),fH,hl];rfl
theorem xR(hl:l.length=256):(ji l r).take 256=u8s l:=by unfold ji;rw[dZ (by rw[fH];omega),bt (by rw[fH];omega)]
theorem Kz(hl:l.length=256){q:Nat} : (ji l r).set 256 (.int .i64 q)=ji l q:=by unfold ji;rw[cw _ _ (by rw[fH];omega),fH,hl];rfl
theorem Cu(hl:l.length=256){m:List Nat}(hm:m.length=256):putAt (ji l r) 0 (u8s m)=ji m r:=by
 apply bK;intro j;rw[kF _ _ _ _ (by rw[jG hl,fH];omega),fH,hm,aX];unfold ji;by_cases h:j < 256
 ·rw[if_pos ⟨cm _,h⟩,Nat.sub_zero,aA (by rw[fH];omega)]
 ·rw[if_neg om,aM (by rw[fH];omega),aM (by rw[fH];omega),fH,fH,hl,hm]
theorem xS:∃ z:List Value,List.replicate 256 (Value.int .u8 0)++[.int .i64 0]=z/\z.length=257:=⟨_,rfl,by rw[aB,dj];rfl⟩
theorem EJ:∀ (xs ys:List Nat) (n:Nat) (r q:Nat),xs.length=n->ys.length=n->∃ b,gz (List.replicate (n+1) .nu) (u8s xs++[.int .i64 r]) (u8s ys++[.int .i64 q])=some b
 | [],[],0,r,q,_,_=>⟨((r:Int)==(q:Int))&&true,by simp only[u8s,br,aV,bO,eN,gz,nS,if_true,ak,bq]⟩
 | [],[],n+1,_,_,h,_=>by simp at h
 | x::xs,[],n,_,_,h,h'=>by simp at h h';omega
 | [],y::ys,n,_,_,h,h'=>by simp at h h';omega
 | x::xs,y::ys,0,_,_,h,_=>by simp at h
 | x::xs,y::ys,n+1,r,q,h,h'=>by obtain⟨b,hb⟩:=EJ xs ys n r q (by simpa using h) (by simpa using h');refine⟨((x:Int)==(y:Int))&&b,?_⟩;have e:∀ k (v w:Value) vs ws,gz (List.replicate (k+1) .nu) (v::vs) (w::ws)=gz (.nu::List.replicate k .nu) (v::vs) (w::ws):=fun _ _ _ _ _=>rfl;show gz (List.replicate (n+1+1) .nu) (.int .u8 (x:Int)::(u8s xs++[.int .i64 (r:Int)])) (.int .u8 (y:Int)::(u8s ys++[.int .i64 (q:Int)]))=_;rw[e];simp only[gz,nS,if_true,ak];rw[hb,bq]
theorem qy:jf.length=256:=by simp[jf]
theorem zb(hF:Fit hp.length L H):fS env (.func 72) [] ⟨hp,L,H,d⟩=some (.agg (ji jf 0).toArray,⟨hp,L,H,d⟩):=by
 rw[fF 72 _ _ ahT];have hn:=fun hp d hF=>TsA.WW (hp:=hp) (L:=L) (H:=H) (d:=d) hF;have hu:(u8s jf).length=256:=by rw[fH,qy]
 obtain⟨z,hz,hzl⟩:=xS;have e0:u8s (List.replicate 256 0)=List.replicate 256 (.int .u8 0):=by unfold u8s;rw[List.map_replicate];rfl
 have e1:ji (List.replicate 256 0) 0=z:=by rw[<- hz,<- e0];rfl
 have hp0:putAt z 0 (u8s jf)=ji jf 0:=by have:=Cu (l:=List.replicate 256 0) (r:=0) (m:=jf) dj qy;rw[e1] at this;exact this
 have hp1:putAt z 0 (ji jf 0)=ji jf 0:=gH (by rw[hzl,jG qy]);have hl:=jG (l:=jf) (r:=0) qy;simp(disch:=first|exact dis|fail) only[sy,simprocAttr,-List.reduceReplicate,hF.all,ac7,hn,hz,hzl,hu,hp0,hp1,hl,fR hl,fR hu,ju,gQ,j7,jv,jT]
theorem uD(hl:l.length=256)(h8:By l)(hv:vb l=true)(hr:r<=2147483647)(hF:Fit hp.length L H):fS env (.func 139) [.agg (ji l r).toArray] ⟨hp,L,H,d⟩=some (.bool true,⟨hp,L,H,d⟩):=by
 rw[fF 139 _ _ afm];have hn:=fun hp L H d hF=>zb (hp:=hp) (L:=L) (H:=H) (d:=d) hF;have hm:=fun hp L H d hF=>y8 (hp:=hp) (L:=L) (H:=H) (d:=d) hl h8 hF;have hel:=jG (r:=r) hl;have hrun:=sV (r:=r) hl;have uE:=xR (r:=r) hl;have h1:(0:Int)<=(r:Int):=om
 have h2:(r:Int)<=2147483647:=om
 obtain⟨b,hb⟩:=EJ l jf 256 r 0 hl qy;have hb:gz (List.replicate 257 .nu) (ji l r) (ji jf 0)=some b:=hb;have hu:(u8s l).length=256:=by rw[fH,hl]
 rw[hv] at hm;cases b
 ·simp(disch:=first|exact dis|fail) only[sy,simprocAttr,-List.reduceReplicate,hF.all,Pm,hn,hm,hel,fR hel,hrun,uE,h1,h2,hb,hu,fR hu,j7,jv,jT,ju,gQ,jM]
 ·simp(disch:=first|exact dis|fail) only[sy,simprocAttr,-List.reduceReplicate,hF.all,Pm,hn,hm,hel,fR hel,hrun,uE,h1,h2,hb,hu,fR hu,j7,jv,jT,ju,gQ,jM]
end
end TsD
namespace TsE
open Go Go.RowKit AM fO LtA SyP TmM TsA TsB TsC TsD Bt
section
variable{hp:List Blk}{L:Nat}{H d:List Nat}
theorem Cv{x:Nat} : St.append ⟨hp,L,H,d⟩ true 1 (.slice none 0 0) 1 [.int .i64 (x:Int)]=some (.slice (some ⟨hp.length,0,some 1⟩) 1 1,⟨hp++[.cells 1 true (is [x])],L,H,d⟩):=
 rK (m:=[x]) (by simp) (by simp)
theorem wo{b n x:Nat}{l:List Nat}(hn:l.length=n)(hb:hp[b]?=some (.cells n true (is l)))(hL:L<=b)(hh:H.contains b=false)(hs:n+1<=1048576) :
  St.append ⟨hp,L,H,d⟩ true 1 (.slice (some ⟨b,0,some n⟩) n 1) 1 [.int .i64 (x:Int)]=some (.slice (some ⟨b,0,some (n+1)⟩) (n+1) 1,⟨hp.set b (.cells (n+1) true (is (l++[x]))),L,H,d⟩):=by subst hn;exact ue (m:=[x]) hb hL hh (by simp) hs
theorem sW{a b k n:Nat}{cs:List Value}{c0 c1:Blk}{nw:List Blk}{v:Value}{i j:Int}(hk:nw[k]?=some (.cells n true cs))(hv:∀ r∈refs v,r < hp.length) :
  kS (hp.length+2) [(27,.int .i64 i),(26,.int .i64 j),(4,.pointer (some ⟨hp.length+1,0,some 0⟩)),(25,v),(7,.slice (some ⟨hp.length+2+k,0,some n⟩) n 1),(2,.pointer (some ⟨hp.length,0,some 0⟩))] ⟨hp++c0::c1::nw,L,H,[]⟩
   = some ([(27,.int .i64 i),(26,.int .i64 j),(4,.pointer (some ⟨hp.length+1,0,some 0⟩)),(25,v),(7,.slice (some ⟨hp.length+2,0,some n⟩) n 1),(2,.pointer (some ⟨hp.length,0,some 0⟩))],⟨hp++[c0,c1,.cells n true cs],L,H,[]⟩):=by
 unfold kS;have e:hp++c0::c1::nw=(hp++[c0,c1])++nw:=by simp
 have hl:(hp++[c0,c1]).length=hp.length+2:=by simp
 have G:=vf (h:=hp++[c0,c1]) (nw:=nw) (k:=k) (L:=L) (H:=H) (d:=[]) (vs:=List.map (·.2) [(27,.int .i64 i),(26,.int .i64 j),(4,.pointer (some ⟨hp.length+1,0,some 0⟩)),(25,v),(7,.slice (some ⟨hp.length+2+k,0,some n⟩) n 1),(2,.pointer (some ⟨hp.length,0,some 0⟩))]) hk (by
  intro u hu r hr;rw[hl];simp only[aK,br,aJ,bJ,or_false] at hu;rcases hu with rfl | rfl | rfl | rfl | rfl | rfl
  ·simp[refs,fU,fJ] at hr
  ·simp[refs,fU,fJ] at hr
  ·simp[refs,fU,fJ] at hr;omega
  ·have:=hv r hr;omega
  ·simp[refs,fU,fJ] at hr;omega
  ·simp[refs,fU,fJ] at hr;omega) ⟨.slice (some ⟨hp.length+2+k,0,some n⟩) n 1,by simp,by rw[hl];simp[refs,fU,fJ]⟩ rfl
 rw[hl] at G;rw[e,G];have o1:AM.one (hp.length+2) (hp.length+2+k) (hp.length+1)=hp.length+1:=oh om;have o0:AM.one (hp.length+2) (hp.length+2+k) hp.length=hp.length:=oh om;have o2:AM.one (hp.length+2) (hp.length+2+k) (hp.length+2+k)=hp.length+2:=iZ;have o3:ren (AM.one (hp.length+2) (hp.length+2+k)) v=v:=xQ fun r hr=>oh (by have:=hv r hr;omega);simp only[bq,aK,br,cU,eC,o3];simp only[ren,ke,iX,o0,o1,o2,aR,aS,aV]
def G7(hp:List Blk)(v:Value)(n:Nat)(i:Nat)(sl:Value):Fr:=[(27,.int .i64 i),(26,.int .i64 n),(4,.pointer (some ⟨hp.length+1,0,some 0⟩)),(25,v),(7,sl),(2,.pointer (some ⟨hp.length,0,some 0⟩))]
theorem WZ{x:List Nat}{a:Option Addr}{e n:Nat}(hR:Rd ⟨hp,L,H,[]⟩ (.slice a n e) x)(hxs:x.length<=1000000){i:Nat}(hi:i < x.length){l:List Nat}(hl:Bl l){r:Nat}(hr:r<=2147483000){o:List Nat}(ho:o.length<=500000){c1:Blk}(hF:Fit hp.length L H)
  (hp0:(SyP.jN l (x[i])).2=0) :
  fW env rC [27,26,4,25,7,2] (hp.length+2) (G7 hp (.slice a n e) n i (slI (hp.length+2) o)) ⟨hp++.cells 0 true (ji l r)::c1::lB o,L,H,[]⟩
  = fW env rC [27,26,4,25,7,2] (hp.length+2) (G7 hp (.slice a n e) n (i+1) (slI (hp.length+2) o)) ⟨hp++.cells 0 true (ji (SyP.jN l (x[i])).1 (r+1))::c1::lB o,L,H,[]⟩:=by
 obtain⟨b,of,g,pl,cs,rfl,rfl,hh,hb,hc⟩:=hR.at_ hi;have hbl:=(af.1 hb).1;have hx:x[i] < 256:=hR.by_ _ (bN hi);have hp1:=fun hp L H d hF=>Ku (hp:=hp) (L:=L) (H:=H) (d:=d) hl.len (fun b hb=>hl.mem.1 hb) hx (hl.mem.2 hx) hF;have h1:(i:Int) < x.length:=om
 have h2:0<=(i:Int)/\(i:Int) < x.length:=om
 have hml:(SyP.jN l x[i]).1.length=256:=Ay hl.len (hl.idx hx);have hel:=jG (r:=r) hl.len;have wq:=jG (r:=r) hml;have ahX:=jG (r:=r+1) hml;have uE:=xR (r:=r) hl.len;have hput:=Cu (r:=r) hl.len hml;have hrun:=sV (r:=r) hml;have iK:=Kz (r:=r) (q:=r+1) hml;have hu:(u8s (SyP.jN l x[i]).1).length=256:=by rw[fH,hml]
 rw[hp0] at hp1;generalize (SyP.jN l x[i]).1=l' at *;generalize x[i]=c at *;unfold G7;rw[fC rC.eq_1];simp only[aC,aI] at iK ⊢;by_cases h0:o=[]
 ·subst h0;simp(disch:=first|exact dis|fail) only[sy,simprocAttr,-List.reduceReplicate,hF.all,lC,jS,h1,h2,hb,hh,hc,hp1,hel,wq,uE,hput,hrun,iK,hu,fR hu,ju,gQ,j7,jv]
 ·have ho0:¬ o.length=0:=by cases o<;>simp at h0 ⊢
  have hv:∀ r∈refs (.slice (some ⟨b,of,some g⟩) x.length e),r < hp.length:=hR.refs;unfold slI lB;simp only[if_neg ho0];have hg:=fun c0 c1 i'=>sW (hp:=hp) (L:=L) (H:=H) (a:=0) (b:=0) (k:=0) (n:=o.length) (cs:=is o) (c0:=c0) (c1:=c1) (nw:=[.cells o.length true (is o)]) (i:=i') (j:=(x.length:Int)) rfl hv;simp only[bY] at hg;simp(disch:=first|exact dis|fail) only[sy,simprocAttr,-List.reduceReplicate,hF.all,h1,h2,hb,hh,hc,hp1,hel,wq,uE,hput,hrun,iK,hu,fR hu,ju,gQ,j7,jv,hg]
theorem mP{k N:Nat}{W:List Nat}(h:W.length=N)(h0:N≠0):slI k W=.slice (some ⟨k,0,some N⟩) N 1:=by subst h;unfold slI;rw[if_neg h0]
theorem j8{N:Nat}{W:List Nat}(h:W.length=N)(h0:N≠0):lB W=[.cells N true (is W)]:=by subst h;unfold lB;rw[if_neg h0]
theorem SV{x:List Nat}{a:Option Addr}{e n:Nat}(hR:Rd ⟨hp,L,H,[]⟩ (.slice a n e) x)(hxs:x.length<=1000000){i:Nat}(hi:i < x.length){l:List Nat}(hl:Bl l){r:Nat}(hr:r<=2147483000){o:List Nat}(ho:o.length+(jV r).length<=1000000){c1:Blk}(hF:Fit hp.length L H)
  (hp0:(SyP.jN l (x[i])).2≠0) :
  fW env rC [27,26,4,25,7,2] (hp.length+2) (G7 hp (.slice a n e) n i (slI (hp.length+2) o)) ⟨hp++.cells 0 true (ji l r)::c1::lB o,L,H,[]⟩
  = fW env rC [27,26,4,25,7,2] (hp.length+2) (G7 hp (.slice a n e) n (i+1) (slI (hp.length+2) (o++(jV r++[(SyP.jN l (x[i])).2+1])))) ⟨hp++.cells 0 true (ji (SyP.jN l (x[i])).1 0)::c1::lB (o++(jV r++[(SyP.jN l (x[i])).2+1])),L,H,[]⟩:=by
 obtain⟨b,of,g,pl,cs,rfl,rfl,hh,hb,hc⟩:=hR.at_ hi;have hbl:=(af.1 hb).1;have hx:x[i] < 256:=hR.by_ _ (bN hi);have hp1:=fun hp L H d hF=>Ku (hp:=hp) (L:=L) (H:=H) (d:=d) hl.len (fun b hb=>hl.mem.1 hb) hx (hl.mem.2 hx) hF;have h1:(i:Int) < x.length:=om
 have h2:0<=(i:Int)/\(i:Int) < x.length:=om
 have hml:(SyP.jN l x[i]).1.length=256:=Ay hl.len (hl.idx hx);have hpl:(SyP.jN l x[i]).2 < 256:=hl.idx hx;have hel:=jG (r:=r) hl.len;have wq:=jG (r:=r) hml;have ahX:=jG (r:=0) hml;have uE:=xR (r:=r) hl.len;have hput:=Cu (r:=r) hl.len hml;have hrun:=sV (r:=r) hml;have iK:=Kz (r:=r) (q:=0) hml;have hu:(u8s (SyP.jN l x[i]).1).length=256:=by rw[fH,hml]
 have hdg:=fun hp d hF=>za (hp:=hp) (L:=L) (H:=H) (d:=d) (n:=r) om hF;have hv:∀ r∈refs (.slice (some ⟨b,of,some g⟩) x.length e),r < hp.length:=hR.refs;have hs1:small 1=true:=by decide
 have hF2:=hF.1;generalize (SyP.jN l x[i]).1=l' at *;generalize (SyP.jN l x[i]).2=p at *;generalize x[i]=c at *;generalize jV r=G at *;have Z9:(p:Int)+1=((p+1:Nat):Int):=om
 have hpz:¬ (p:Int)=0:=om
 have hil:=mE G;unfold G7;rw[fC rC.eq_1];simp only[aC,aI,aN] at iK ⊢;by_cases h0:o=[]
 ·subst h0;by_cases hG:G=[]
  ·subst hG;have hN:([]++([]++[p+1]):List Nat).length=1:=rfl;rw[mP hN (by decide),j8 hN (by decide)];have ha:=fun nw=>Cv (hp:=hp++nw) (L:=L) (H:=H) (d:=[]) (x:=p+1);simp only[aB] at ha;have hg:=fun c0 c1 i' c2=>sW (hp:=hp) (L:=L) (H:=H) (a:=0) (b:=0) (k:=1) (n:=1) (cs:=is [p+1]) (c0:=c0) (c1:=c1) (nw:=[c2,.cells 1 true (is [p+1])]) (i:=i') (j:=(x.length:Int)) rfl hv;simp only[cA,Nat.reduceAdd] at hg;simp(disch:=first|exact dis|fail) only[sy,simprocAttr,-List.reduceReplicate,hF.all,lC,jS,h1,h2,hb,hh,hc,hp1,hel,wq,uE,hput,hrun,iK,hu,fR hu,ju,gQ,j7,jv,hdg,hpz,Z9,hs1,ha,sQ,hg]
  ·have hG0:¬ G.length=0:=by cases G<;>simp at hG ⊢
   have hN:([]++(G++[p+1]):List Nat).length=G.length+1:=by simp
   rw[mP hN om,j8 hN om];unfold slI lB at hdg;simp only[if_neg hG0] at hdg;have ha0:=fun nw=>rK (hp:=hp++nw) (L:=L) (H:=H) (d:=[]) (m:=G) hG0 (by simp at ho;omega);have ha:=fun c0 c2 nw=>wo (hp:=hp++c0::c1::c2::.cells G.length true (is G)::nw) (L:=L) (H:=H) (d:=[]) (x:=p+1) (b:=hp.length+3) (l:=G) rfl (by rw[iE];rfl) om (hF.nv 3) (by simp at ho;omega);simp only[aB] at ha0;have hg:=fun c0 c1 i' c2 c3=>sW (hp:=hp) (L:=L) (H:=H) (a:=0) (b:=0) (k:=1) (n:=G.length+1) (cs:=is (G++[p+1])) (c0:=c0) (c1:=c1) (nw:=[c2,.cells (G.length+1) true (is (G++[p+1])),c3]) (i:=i') (j:=(x.length:Int)) rfl hv;simp only[cA,Nat.reduceAdd] at hg;simp(disch:=first|exact dis|fail) only[sy,simprocAttr,-List.reduceReplicate,hF.all,lC,jS,h1,h2,hb,hh,hc,hp1,hel,wq,uE,hput,hrun,iK,hu,fR hu,ju,gQ,j7,jv,hdg,hpz,Z9,hs1,hil,fR hil,ha0,ha,hg]
 ·have ho0:¬ o.length=0:=by cases o<;>simp at h0 ⊢
  have hio:=mE o;by_cases hG:G=[]
  ·subst hG;have hN:(o++([]++[p+1]):List Nat).length=o.length+1:=by simp
   rw[mP hN om,j8 hN om,mP rfl ho0,j8 rfl ho0];have ha:=fun c0 nw=>wo (hp:=hp++c0::c1::.cells o.length true (is o)::nw) (L:=L) (H:=H) (d:=[]) (x:=p+1) (b:=hp.length+2) (l:=o) rfl (by rw[iE];rfl) om (hF.nv 2) (by simp at ho;omega);have hg:=fun c0 c1 i' c3=>sW (hp:=hp) (L:=L) (H:=H) (a:=0) (b:=0) (k:=0) (n:=o.length+1) (cs:=is (o++[p+1])) (c0:=c0) (c1:=c1) (nw:=[.cells (o.length+1) true (is (o++[p+1])),c3]) (i:=i') (j:=(x.length:Int)) rfl hv;simp only[bY] at hg;simp(disch:=first|exact dis|fail) only[sy,simprocAttr,-List.reduceReplicate,hF.all,lC,jS,h1,h2,hb,hh,hc,hp1,hel,wq,uE,hput,hrun,iK,hu,fR hu,ju,gQ,j7,jv,hdg,hpz,Z9,hs1,J4,ha,hg]
  ·have hG0:¬ G.length=0:=by cases G<;>simp at hG ⊢
   have hN:(o++(G++[p+1]):List Nat).length=o.length+G.length+1:=by simp;omega
   rw[mP hN om,j8 hN om,mP rfl ho0,j8 rfl ho0];unfold slI lB at hdg;simp only[if_neg hG0] at hdg;have ha0:=fun c0 nw=>ue (hp:=hp++c0::c1::.cells o.length true (is o)::nw) (L:=L) (H:=H) (d:=[]) (b:=hp.length+2) (l:=o) (m:=G) (by rw[iE];rfl) om (hF.nv 2) hG0 om;have hoG:(o++G).length=o.length+G.length:=aB;have ha:=fun c0 nw=>wo (hp:=hp++c0::c1::.cells (o.length+G.length) true (is (o++G))::nw) (L:=L) (H:=H) (d:=[]) (x:=p+1) (b:=hp.length+2) (l:=o++G) hoG (by rw[iE];rfl) om (hF.nv 2) om;have hg:=fun c0 c1 i' c2 c3=>sW (hp:=hp) (L:=L) (H:=H) (a:=0) (b:=0) (k:=0) (n:=o.length+G.length+1) (cs:=is (o++(G++[p+1]))) (c0:=c0) (c1:=c1) (nw:=[.cells (o.length+G.length+1) true (is (o++(G++[p+1]))),c2,c3]) (i:=i') (j:=(x.length:Int)) rfl hv;simp only[bY] at hg;rw[aR] at ha;simp(disch:=first|exact dis|fail) only[sy,simprocAttr,-List.reduceReplicate,hF.all,lC,jS,h1,h2,hb,hh,hc,hp1,hel,wq,uE,hput,hrun,iK,hu,fR hu,ju,gQ,j7,jv,hdg,hpz,Z9,hs1,hil,fR hil,ha0,ha,hg]
end
end TsE
end Go.Proofs.YtgdpefeomemllaaGreat
