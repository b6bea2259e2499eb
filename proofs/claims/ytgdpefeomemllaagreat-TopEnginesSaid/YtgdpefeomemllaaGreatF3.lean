/- Conditions: none. -/
import Derived.Test.YtgdpefeomemllaaGreatF2
set_option linter.all false
set_option maxRecDepth 100000
section
namespace Go.Proofs.YtgdpefeomemllaaGreat
namespace AM
open Go Go.RowKit
section
variable{k k':IntKind}{a b:Int}
theorem EK:bV .add (.int k a) (.int k b)=some (.int k (k.wrap (a+b))):=by simp [bV,binOp,Op.intArith,dj,pure]
theorem EL:bV .sub (.int k a) (.int k b)=some (.int k (k.wrap (a - b))):=by simp [bV,binOp,Op.intArith,dj,pure]
theorem EM:bV .mul (.int k a) (.int k b)=some (.int k (k.wrap (a*b))):=by simp [bV,binOp,Op.intArith,dj,pure]
theorem EN:bV .eql (.int k a) (.int k b)=some (.bool (a==b)):=by simp [bV,binOp,Op.intCmp,dj,pure]
theorem EO:bV .neq (.int k a) (.int k b)=some (.bool (a != b)):=by simp [bV,binOp,Op.intCmp,dj,pure]
theorem EP:bV .lss (.int k a) (.int k b)=some (.bool (a < b)):=by simp [bV,binOp,Op.intCmp,dj,pure]
theorem ER:bV .leq (.int k a) (.int k b)=some (.bool (a<=b)):=by simp [bV,binOp,Op.intCmp,dj,pure]
theorem ES:bV .gtr (.int k a) (.int k b)=some (.bool (a > b)):=by simp [bV,binOp,Op.intCmp,dj,pure]
theorem ET:bV .geq (.int k a) (.int k b)=some (.bool (a>=b)):=by simp [bV,binOp,Op.intCmp,dj,pure]
theorem xW:bV .shl (.int k a) (.int k' b)=if b < 0 then none else some (.int k (k.wrap (a*2 ^ (min b.toNat k.bits)))):=by
 simp only [bV,binOp,Op.shift];split
 ·rfl
 ·simp [dj,pure]
theorem xX:bV .shr (.int k a) (.int k' b)=if b < 0 then none else some (.int k (a.fdiv (2 ^ (min b.toNat k.bits)))):=by
 simp only [bV,binOp,Op.shift];split
 ·rfl
 ·simp [dj,pure]
theorem EU:bV .quo (.int k a) (.int k b)=if b=0 then none else some (.int k (k.wrap (a.tdiv b))):=by
 simp only [bV,binOp,Op.intDiv];simp only [ne_eq,not_true_eq_false,if_false];split
 ·rfl
 ·simp [dj,pure]
theorem EV:bV .rem (.int k a) (.int k b)=if b=0 then none else some (.int k (a.tmod b)):=by
 simp only [bV,binOp,Op.intDiv];simp only [ne_eq,not_true_eq_false,if_false];split
 ·rfl
 ·simp [dj,pure]
theorem EW:bV .and (.int k a) (.int k b)=some (.int k (k.wrap ((BitVec.ofInt k.bits a&&&BitVec.ofInt k.bits b).toNat))):=by simp [bV,binOp,Op.intBits,dj,pure]
theorem Ku:bV .or (.int k a) (.int k b)=some (.int k (k.wrap ((BitVec.ofInt k.bits a|||BitVec.ofInt k.bits b).toNat))):=by simp [bV,binOp,Op.intBits,dj,pure]
theorem EX:bV .xor (.int k a) (.int k b)=some (.int k (k.wrap ((BitVec.ofInt k.bits a ^^^ BitVec.ofInt k.bits b).toNat))):=by simp [bV,binOp,Op.intBits,dj,pure]
end
theorem Uq{b:Bool} : aun .not (.bool b)=some (.bool !b):=by simp [aun,Op.unary,dj,pure]
theorem zT(a:List Nat):aO a []=a:=rfl
section
variable{env:Env}{aa:au}
noncomputable def Kv(env:Env)(b:az):Option (Ex×Fr×St)->Option (Ex×Fr×St)
 | some (.normal,fr,σ)=>aZ env b fr σ
 | some (e,fr,σ)=>some (e,fr,σ)
 | none=>none
def kZ(id:Nat):Option (Ex×Fr×St)->Option (Ex×Fr×St)
 | some (.exit i,fr,σ)=>if i=id then some (.normal,fr,σ) else some (.exit i,fr,σ)
 | r=>r
def EY:Option (Fr×St)->Option (Ex×Fr×St)
 | some (fr,σ)=>some (.normal,fr,σ)
 | none=>none
noncomputable def WE(env:Env)(a b:az)(fr:Fr)(σ:St):Option Value->Option (Ex×Fr×St)
 | some (.bool true)=>aZ env a fr σ
 | some (.bool false)=>aZ env b fr σ
 | _=>none
def XB(rs:List ij)(σ:St):Option (Ex×Fr×St)->Option (Value×St)
 | some r=>fin rs σ r
 | none=>none
def opX(aa:au)(d:Option Nat)(l:List aj)(fr:Fr):Option (Value×St)->Option (Fr×St)
 | some (v,σ)=>fO aa l (fr.put d v) σ
 | none=>none
def Kw(aa:au)(o:aj)(l:List aj)(fr:Fr)(σ:St):Option Bool->Option (Fr×St)
 | some true=>opX aa o.dst l fr (aop aa o.op fr σ)
 | some false=>fO aa l (fr.put o.dst bA) σ
 | none=>none
theorem av(f:Nat)(args:List Value)(σ:St){fn:AFn}(h:env.fn f=some fn):aN env (.func f) args σ=XB fn.results σ (aZ env fn.code (bX 0 args) { σ with af:=[] }):=by rw [Cs h];cases aZ env fn.code (bX 0 args) { σ with af:=[] }<;>rfl
theorem Ur(a b:az)(fr:Fr)(σ:St):aZ env (.seq a b) fr σ=Kv env b (aZ env a fr σ):=by
 rw [AD];cases aZ env a fr σ with
 | none=>rfl
 | some r=>obtain ⟨e,fr',σ'⟩:=r;cases e<;>rfl
theorem Ia(ops:List aj)(fr:Fr)(σ:St):aZ env (.region ops) fr σ=EY (fO (aN env) ops fr σ):=by rw [rH];cases fO (aN env) ops fr σ<;>rfl
theorem MN(ops:List aj)(fr:Fr)(σ:St):aZ env (.drawn ops) fr σ=EY (fQ (bD (aN env)) [] 0 ops fr σ):=by rw [uF];cases fQ (bD (aN env)) [] 0 ops fr σ<;>rfl
theorem Ct(c:au)(f:FuncId)(vs:List Value)(σ:St):bD c (.func f) vs σ=c (.func f) vs σ:=rfl
def EZ(fr:Fr)(σ:St):Option (List Value×St)->Option (Ex×Fr×St)
 | some (_,τ)=>some (.normal,fr,⟨τ.heap,τ.lock,τ.hid,aO σ.af τ.af⟩)
 | none=>none
def xY(fr:Fr)(σ:St):Option (Ex×Fr×St)->Option (Ex×Fr×St)
 | some (.normal,_,τ)=>EZ fr σ (gc σ.heap.length [] τ)
 | some (.ret,_,τ)=>EZ fr σ (gc σ.heap.length [] τ)
 | _=>none
noncomputable def Kx(env:Env)(g:Nat)(gk:az)(ps:List Nat)(ba b:az)(fr:Fr)(σ:St):Option Value->Option (Ex×Fr×St)
 | some (.func (.func h) fi ca)=>if h==g&&fi.isEmpty then xY fr σ (aZ (.yl env ps ba b fr) gk (bX 0 (.func (.yield 0) #[] #[]::ca.toList)) { σ with af:=[] }) else none
 | _=>none
theorem PR(x:Operand)(g:Nat)(gk:az)(ps:List Nat)(ba b:az)(fr:Fr)(σ:St):aZ env (.each x g gk ps ba b) fr σ=Kx env g gk ps ba b fr σ (ev fr x):=by
 have key:∀ r:Option (Ex×Fr×St),r.bind (iI fr σ)=xY fr σ r:=fun r=>by
  cases r with
  | none=>rfl
  | some r=>
   obtain ⟨e,fr',τ⟩:=r;cases e with
   | exit id=>rfl
   | normal=>
    simp only [Option.bind_some,iI,xY];cases gc σ.heap.length [] τ<;>rfl
   | ret=>
    simp only [Option.bind_some,iI,xY];cases gc σ.heap.length [] τ<;>rfl
 rw [xT];generalize ev fr x=q;cases q with
 | none=>rfl
 | some v=>
  cases v<;>first
   | rfl
   | skip
  rename_i h fi ca;cases h<;>first
   | rfl
   | skip
  rename_i h;simp only [Kx];rw [key];rfl
theorem Ic(g:Nat)(gk:az)(ps:List Nat)(ba b:az)(fr:Fr)(hp:List Blk)(L:Nat)(H d:List Nat)(ca:Array Value) :
  Kx env g gk ps ba b fr ⟨hp,L,H,d⟩ (some (.func (.func g) #[] ca))=xY fr ⟨hp,L,H,d⟩ (aZ (.yl env ps ba b fr) gk (bX 0 (.func (.yield 0) #[] #[]::ca.toList)) ⟨hp,L,H,[]⟩):=by simp [Kx]
theorem Cu(fr fr':Fr)(σ τ:St):xY fr σ (some (.normal,fr',τ))=EZ fr σ (gc σ.heap.length [] τ):=rfl
theorem MO(fr fr':Fr)(σ τ:St):xY fr σ (some (.ret,fr',τ))=EZ fr σ (gc σ.heap.length [] τ):=rfl
theorem Ie(fr:Fr)(σ τ:St)(vs:List Value):EZ fr σ (some (vs,τ))=some (.normal,fr,⟨τ.heap,τ.lock,τ.hid,aO σ.af τ.af⟩):=rfl
def Ig(σ:St):Option (List Value×St)->Option (Value×St)
 | some (_,τ)=>some (.bool true,⟨τ.heap,τ.lock,τ.hid,aO σ.af τ.af⟩)
 | none=>none
def Ih(σ:St):Option (Ex×Fr×St)->Option (Value×St)
 | some (.normal,_,τ)=>Ig σ (gc σ.heap.length [] τ)
 | _=>none
noncomputable def XC(env:Env)(b:az)(σ:St):Option (Ex×Fr×St)->Option (Value×St)
 | some (.normal,fr,τ)=>Ih σ (aZ env b fr τ)
 | _=>none
theorem zU(b:az)(σ τ:St)(fr:Fr):XC env b σ (some (.normal,fr,τ))=Ih σ (aZ env b fr τ):=rfl
theorem zV(σ τ:St)(fr:Fr):Ih σ (some (.normal,fr,τ))=Ig σ (gc σ.heap.length [] τ):=rfl
theorem E0(σ τ:St)(vs:List Value):Ig σ (some (vs,τ))=some (.bool true,⟨τ.heap,τ.lock,τ.hid,aO σ.af τ.af⟩):=rfl
def Ii(aa:au)(m:Bool)(ops:List aj)(fr:Fr)(σ:St):Option (List Nat)->Option (Ex×Fr×St)
 | some B=>EY (eB aa m B [] ops fr σ)
 | none=>none
theorem MP(xs:List Nat)(m:Bool)(ops:List aj)(fr:Fr)(σ:St):aZ env (.nO xs m ops) fr σ=Ii (bD (aN env)) m ops fr σ (boxes fr xs):=by
 rw [uG];cases boxes fr xs with
 | none=>rfl
 | some B=>
  simp only [Option.bind_some,Ii];cases eB (bD (aN env)) m B [] ops fr σ<;>rfl
theorem E1(aa:au)(m:Bool)(ops:List aj)(fr:Fr)(σ:St)(B:List Nat):Ii aa m ops fr σ (some B)=EY (eB aa m B [] ops fr σ):=rfl
def XD:Option Value->Option (List Nat)->Option (List Nat)
 | some (.pointer (some a)),some B=>some (a.block::B)
 | some (.slice (some a) _ _),some B=>some (a.block::B)
 | _,_=>none
theorem MQ(fr:Fr):boxes fr []=some []:=rfl
theorem Ij(fr:Fr)(x:Nat)(l:List Nat):boxes fr (x::l)=XD (fr.get x) (boxes fr l):=by
 simp only [boxes];generalize fr.get x=q;cases q with
 | none=>rfl
 | some v=>cases v<;>first
  | rfl
  | (rename_i p;cases p<;>first | rfl | (cases boxes fr l<;>rfl))
  | (rename_i p _ _;cases p<;>first | rfl | (cases boxes fr l<;>rfl))
theorem Us(a:Addr)(n e:Nat)(B:List Nat):XD (some (.slice (some a) n e)) (some B)=some (a.block::B):=rfl
theorem MR(a:Addr)(B:List Nat):XD (some (.pointer (some a))) (some B)=some (a.block::B):=rfl
def moF(aa:au)(m:Bool)(B:List Nat)(seen:List (Bool×Nat))(d:Option Nat)(l:List aj)(fr:Fr):Option (Value×St)->Option (List (Bool×Nat))->Option (Fr×St)
 | some (v,σ),some tg=>if apart tg seen&&(!m||tg.all fun p=>B.contains p.2) then eB aa m B (tg++seen) l (fr.put d v) σ else none
 | _,_=>none
def moM(aa:au)(B:List Nat)(seen:List (Bool×Nat))(d:Option Nat)(l:List aj)(fr:Fr)(H:List Nat):Option (Value×St)->Option (Fr×St)
 | some (v,σ)=>eB aa true B seen l (fr.put d v) ⟨σ.heap,σ.lock,H,σ.af⟩
 | none=>none
def Ik(aa:au)(m:Bool)(B:List Nat)(seen:List (Bool×Nat))(o:aj)(l:List aj)(fr:Fr)(σ:St):Option (Fr×St):=
 if o.wr then (if m then moM aa B seen o.dst l fr σ.hid (aop aa o.op fr ⟨σ.heap,σ.lock,B++σ.hid,σ.af⟩) else none) else moF aa m B seen o.dst l fr (aop cH o.op fr σ) (tgt fr o.op)
def Cv(aa:au)(m:Bool)(B:List Nat)(seen:List (Bool×Nat))(o:aj)(l:List aj)(fr:Fr)(σ:St):Option Bool->Option (Fr×St)
 | some true=>Ik aa m B seen o l fr σ
 | some false=>eB aa m B seen l (fr.put o.dst bA) σ
 | none=>none
theorem PS(aa:au)(m:Bool)(B:List Nat)(seen:List (Bool×Nat))(o:aj)(l:List aj)(fr:Fr)(σ:St):eB aa m B seen (o::l) fr σ=Cv aa m B seen o l fr σ (want o fr):=by
 simp only [eB];cases want o fr with
 | none=>rfl
 | some b=>
  simp only [Option.bind_some];cases b with
  | false=>rfl
  | true=>
   simp only [if_true,Cv,Ik];split
   ·split
    ·rename_i hm;subst hm;cases aop aa o.op fr { σ with hid:=B++σ.hid }<;>rfl
    ·rfl
   ·cases tgt fr o.op with
    | none=>cases aop cH o.op fr σ<;>rfl
    | some tg=>
     simp only [Option.bind_some];cases aop cH o.op fr σ with
     | none=>simp only [Option.bind_none,moF,ite_self]
     | some r=>rfl
theorem E2(aa:au)(m:Bool)(B:List Nat)(seen:List (Bool×Nat))(o:aj)(l:List aj)(fr:Fr)(σ:St):Cv aa m B seen o l fr σ (some true)=Ik aa m B seen o l fr σ:=rfl
theorem MS(aa:au)(m:Bool)(B:List Nat)(seen:List (Bool×Nat))(d:Option Nat)(g:Option (Nat×Bool))(b:Nat)(op:AOp)(l:List aj)(fr:Fr)(σ:St):Ik aa m B seen ⟨d,g,b,false,op⟩ l fr σ=moF aa m B seen d l fr (aop cH op fr σ) (tgt fr op):=rfl
theorem Il(aa:au)(B:List Nat)(seen:List (Bool×Nat))(d:Option Nat)(g:Option (Nat×Bool))(b:Nat)(op:AOp)(l:List aj)(fr:Fr)(σ:St):Ik aa true B seen ⟨d,g,b,true,op⟩ l fr σ=moM aa B seen d l fr σ.hid (aop aa op fr ⟨σ.heap,σ.lock,B++σ.hid,σ.af⟩):=rfl
theorem PT(aa:au)(B:List Nat)(seen:List (Bool×Nat))(d:Option Nat)(l:List aj)(fr:Fr)(H:List Nat)(v:Value)(σ:St):moM aa B seen d l fr H (some (v,σ))=eB aa true B seen l (fr.put d v) ⟨σ.heap,σ.lock,H,σ.af⟩:=rfl
def tgL(q:Bool):Option Value->Option (List (Bool×Nat))
 | some (.pointer (some a))=>some [(q,a.block)]
 | _=>none
theorem PU(fr:Fr)(n:Option Nat)(x:Operand):tgt fr (.load n x)=tgL false (ev fr x):=by
 simp only [tgt];generalize ev fr x=q;cases q with
 | none=>rfl
 | some v=>cases v<;>first | rfl | (rename_i p;cases p<;>rfl)
theorem MT(fr:Fr)(n:Nat)(x y:Operand):tgt fr (.store n x y)=tgL true (ev fr x):=by
 simp only [tgt];generalize ev fr x=q;cases q with
 | none=>rfl
 | some v=>cases v<;>first | rfl | (rename_i p;cases p<;>rfl)
theorem PV(q:Bool)(a:Addr):tgL q (some (.pointer (some a)))=some [(q,a.block)]:=rfl
theorem XE(fr:Fr)(x:Operand):tgt fr (.mv x)=some []:=rfl
theorem PW(fr:Fr)(x y z:Operand):tgt fr (.pick x y z)=some []:=rfl
theorem MU(fr:Fr)(zs:List Value)(ps:List (Nat×Nat×Operand)):tgt fr (.build zs ps)=some []:=rfl
theorem MV(fr:Fr)(x:Operand):tgt fr (.br x)=some []:=rfl
theorem Ut(fr:Fr)(op:BinOp)(x y:Operand):tgt fr (.bin op x y)=some []:=rfl
theorem Uu(fr:Fr)(n:Bool)(sh:EqK)(x y:Operand):tgt fr (.eqs n sh x y)=some []:=rfl
theorem XF(fr:Fr)(op:UnOp)(x:Operand):tgt fr (.un op x)=some []:=rfl
theorem PX(fr:Fr)(k:IntKind)(x:Operand):tgt fr (.conv k x)=some []:=rfl
theorem MW(fr:Fr)(e:Nat)(x:Operand)(a b c:Option Operand):tgt fr (.slice e x a b c)=some []:=rfl
theorem Im(fr:Fr)(x:Operand)(a b:Option Operand):tgt fr (.kT x a b)=some []:=rfl
theorem MX(fr:Fr)(n:Nat)(x:Operand):tgt fr (.ay n x)=some []:=rfl
theorem MY(fr:Fr)(o:Nat)(n:Option Nat)(x:Operand):tgt fr (.field o n x)=some []:=rfl
theorem MZ(fr:Fr)(e:Nat)(x i:Operand):tgt fr (.aD e x i)=some []:=rfl
theorem Io(fr:Fr)(e n:Nat)(x i:Operand):tgt fr (.cz e n x i)=some []:=rfl
theorem Uv(fr:Fr)(e n:Nat)(m:Option Nat)(x i:Operand):tgt fr (.idx e n m x i)=some []:=rfl
theorem Uw(fr:Fr)(x:Operand)(i:Nat):tgt fr (.ext x i)=some []:=rfl
theorem Ux(fr:Fr)(x:Operand):tgt fr (.len x)=some []:=rfl
theorem PY(fr:Fr)(x:Operand):tgt fr (.lens x)=some []:=rfl
theorem PZ(fr:Fr)(n:Nat):tgt fr (.B1 n)=some []:=rfl
theorem XG(fr:Fr)(mx:Bool)(xs:List Operand):tgt fr (.mm mx xs)=some []:=rfl
def Cw:List Nat->Nat->Prop
 | [],_=>False
 | c::l,b=>b=c\/Cw l b
theorem P0(b:Nat):Cw [] b=False:=rfl
theorem M0(c b:Nat)(l:List Nat):Cw (c::l) b=(b=c\/Cw l b):=rfl
theorem Cw.has:∀ {B:List Nat} {b:Nat},Cw B b->B.contains b=true
 | c::l,b,h=>by
  rcases h with rfl | h
  ·simp
  ·have:=Cw.has (B:=l) h;simp only [List.contains_cons,this,Bool.or_true]
def tF:List (Bool×Nat)->Nat->Prop
 | [],b=>b=b
 | (true,c)::l,b=>b≠c/\tF l b
 | (false,_)::l,b=>tF l b
def Cx:List (Bool×Nat)->Nat->Prop
 | [],b=>b=b
 | (_,c)::l,b=>b≠c/\Cx l b
theorem P5(b:Nat):tF [] b=(b=b):=rfl
theorem M1(c b:Nat)(l:List (Bool×Nat)):tF ((true,c)::l) b=(b≠c/\tF l b):=rfl
theorem Ip(c b:Nat)(l:List (Bool×Nat)):tF ((false,c)::l) b=tF l b:=rfl
theorem P6(b:Nat):Cx [] b=(b=b):=rfl
theorem M3(q:Bool)(c b:Nat)(l:List (Bool×Nat)):Cx ((q,c)::l) b=(b≠c/\Cx l b):=rfl
theorem rK{q:Bool}{b:Nat}{seen:List (Bool×Nat)}(h:∀ p∈seen,(q=false/\p.1=false)\/b≠p.2):apart [(q,b)] seen=true:=by
 simp only [apart,List.all_cons,List.all_nil,Bool.and_true,List.all_eq_true];intro p hp;rcases h p hp with ⟨h1,h2⟩ | h1
 ·simp [h1,h2]
 ·simp [h1]
theorem tF.all:∀ {seen:List (Bool×Nat)} {b:Nat},tF seen b->∀ p∈seen,(false=false/\p.1=false)\/b≠p.2
 | [],b,h,p,hp=>by cases hp
 | (true,c)::l,b,h,p,hp=>by
  rcases List.mem_cons.1 hp with rfl | hp
  ·exact .inr h.1
  ·exact tF.all h.2 p hp
 | (false,c)::l,b,h,p,hp=>by
  rcases List.mem_cons.1 hp with rfl | hp
  ·exact .inl ⟨rfl,rfl⟩
  ·exact tF.all (seen:=l) h p hp
theorem Cx.all:∀ {seen:List (Bool×Nat)} {b:Nat},Cx seen b->∀ p∈seen,(true=false/\p.1=false)\/b≠p.2
 | [],b,h,p,hp=>by cases hp
 | (_,c)::l,b,h,p,hp=>by
  rcases List.mem_cons.1 hp with rfl | hp
  ·exact .inr h.1
  ·exact Cx.all h.2 p hp
theorem P7(aa:au)(m:Bool)(B:List Nat)(seen:List (Bool×Nat))(fr:Fr)(σ:St):eB aa m B seen [] fr σ=some (fr,σ):=rfl
theorem Uy(aa:au)(m:Bool)(B:List Nat)(seen:List (Bool×Nat))(d:Option Nat)(l:List aj)(fr:Fr)(v:Value)(σ:St):moF aa m B seen d l fr (some (v,σ)) (some [])=eB aa m B seen l (fr.put d v) σ:=by simp [moF,apart]
theorem M4(aa:au)(B:List Nat)(seen:List (Bool×Nat))(d:Option Nat)(l:List aj)(fr:Fr)(v:Value)(σ:St)(b:Nat)(h:tF seen b):moF aa false B seen d l fr (some (v,σ)) (some [(false,b)])=eB aa false B ((false,b)::seen) l (fr.put d v) σ:=by simp [moF,rK h.all]
theorem M5(aa:au)(B:List Nat)(seen:List (Bool×Nat))(d:Option Nat)(l:List aj)(fr:Fr)(v:Value)(σ:St)(b:Nat)(h:tF seen b)(hB:Cw B b):moF aa true B seen d l fr (some (v,σ)) (some [(false,b)])=eB aa true B ((false,b)::seen) l (fr.put d v) σ:=by simp only [moF,rK h.all,List.all_cons,List.all_nil,hB.has,Bool.true_and,Bool.and_true,Bool.or_true,if_true,List.cons_append,List.nil_append]
theorem Iq(aa:au)(B:List Nat)(seen:List (Bool×Nat))(d:Option Nat)(l:List aj)(fr:Fr)(v:Value)(σ:St)(b:Nat)(h:Cx seen b):moF aa false B seen d l fr (some (v,σ)) (some [(true,b)])=eB aa false B ((true,b)::seen) l (fr.put d v) σ:=by simp [moF,rK h.all]
theorem Ir(aa:au)(B:List Nat)(seen:List (Bool×Nat))(d:Option Nat)(l:List aj)(fr:Fr)(v:Value)(σ:St)(b:Nat)(h:Cx seen b)(hB:Cw B b):moF aa true B seen d l fr (some (v,σ)) (some [(true,b)])=eB aa true B ((true,b)::seen) l (fr.put d v) σ:=by simp only [moF,rK h.all,List.all_cons,List.all_nil,hB.has,Bool.true_and,Bool.and_true,Bool.or_true,if_true,List.cons_append,List.nil_append]
theorem P8(c:Operand)(a b:az)(fr:Fr)(σ:St):aZ env (.cond c a b) fr σ=WE env a b fr σ (ev fr c):=by
 rw [xR];cases ev fr c with
 | none=>rfl
 | some v=>cases v<;>first
  | rfl
  | (rename_i q;cases q<;>rfl)
theorem M6(id:Nat)(b:az)(fr:Fr)(σ:St):aZ env (.block id b) fr σ=kZ id (aZ env b fr σ):=by
 rw [uH];cases aZ env b fr σ with
 | none=>rfl
 | some r=>
  obtain ⟨e,fr',σ'⟩:=r;cases e<;>first
   | rfl
   | (simp only [Option.map_some,kZ];split<;>rfl)
theorem P9(o:aj)(l:List aj)(fr:Fr)(σ:St):fO aa (o::l) fr σ=Kw aa o l fr σ (want o fr):=by
 rw [fO];cases want o fr with
 | none=>rfl
 | some b=>
  cases b with
  | false=>rfl
  | true=>
   simp only [Option.bind_some,if_true,Kw];cases aop aa o.op fr σ<;>rfl
theorem Qa(fr:Fr)(σ:St):fO aa [] fr σ=some (fr,σ):=rfl
theorem Cy(b:az)(fr:Fr)(σ:St):Kv env b (some (.normal,fr,σ))=aZ env b fr σ:=rfl
theorem M7(b:az)(fr:Fr)(σ:St):Kv env b (some (.ret,fr,σ))=some (.ret,fr,σ):=rfl
theorem Is(b:az)(i:Nat)(fr:Fr)(σ:St):Kv env b (some (.exit i,fr,σ))=some (.exit i,fr,σ):=rfl
theorem zW(id:Nat)(fr:Fr)(σ:St):kZ id (some (.normal,fr,σ))=some (.normal,fr,σ):=rfl
theorem It(id:Nat)(fr:Fr)(σ:St):kZ id (some (.ret,fr,σ))=some (.ret,fr,σ):=rfl
theorem E3(id i:Nat)(fr:Fr)(σ:St):kZ id (some (.exit i,fr,σ))=if i=id then some (.normal,fr,σ) else some (.exit i,fr,σ):=rfl
theorem Iu(fr:Fr)(σ:St):EY (some (fr,σ))=some (.normal,fr,σ):=rfl
theorem Qb(d:Option Nat)(l:List aj)(fr:Fr)(v:Value)(σ:St):opX aa d l fr (some (v,σ))=fO aa l (fr.put d v) σ:=rfl
end
def gS(σ:St):Option Value->Option (Value×St)
 | some v=>some (v,σ)
 | none=>none
theorem M8(σ:St)(v:Value):gS σ (some v)=some (v,σ):=rfl
theorem fW(σ:St)(x:Option Value):x.map (fun v=>(v,σ))=gS σ x:=by cases x<;>rfl
def Qc(σ:St)(c x y:Option Value):Option (Value×St):=
 match c with
 | some (.bool true)=>gS σ x
 | some (.bool false)=>gS σ y
 | _=>none
theorem Iv(σ:St)(q:Bool)(x y:Option Value):Qc σ (some (.bool q)) x y=if q=true then gS σ x else gS σ y:=by cases q<;>rfl
def ZY(σ:St)(op:BinOp)(x y:Option Value):Option (Value×St):=
 match x,y with
 | some v,some w=>gS σ (bV op v w)
 | _,_=>none
theorem AE(σ:St)(op:BinOp)(v w:Value):ZY σ op (some v) (some w)=gS σ (bV op v w):=rfl
def Ky(σ:St)(n:Option Nat):Option Value->Option (Value×St)
 | some (.pointer (some a))=>match σ.blk a with
  | some (_,cs)=>gS σ (bM cs a.off n)
  | none=>none
 | _=>none
def Qd(σ:St)(n:Option Nat)(off:Nat):Option (Bool×List Value)->Option (Value×St)
 | some (_,cs)=>gS σ (bM cs off n)
 | none=>none
theorem xZ(σ:St)(n:Option Nat)(a:Addr):Ky σ n (some (.pointer (some a)))=Qd σ n a.off (σ.blk a):=by simp only [Ky];cases σ.blk a<;>rfl
theorem uJ(σ:St)(n:Option Nat)(off:Nat)(pl:Bool)(cs:List Value):Qd σ n off (some (pl,cs))=gS σ (bM cs off n):=rfl
def tG(σ:St)(n:Nat)(a x:Option Value):Option (Value×St):=
 match a,x with
 | some (.pointer (some a)),some v=>if (cellsOf v).length=n then (match σ.write a (cellsOf v) with | some σ'=>some (.tuple #[],σ') | none=>none) else none
 | _,_=>none
def Cz:Option St->Option (Value×St)
 | some σ'=>some (.tuple #[],σ')
 | none=>none
theorem E4(σ:St):Cz (some σ)=some (.tuple #[],σ):=rfl
theorem uK(σ:St)(n:Nat)(a:Addr)(v:Value):tG σ n (some (.pointer (some a))) (some v)=if (cellsOf v).length=n then Cz (σ.write a (cellsOf v)) else none:=by simp only [tG];cases σ.write a (cellsOf v)<;>rfl
section
variable{aa:au}(fr:Fr)(σ:St)
theorem Qe(x:Operand):aop aa (.mv x) fr σ=gS σ (ev fr x):=by simp only [aop,bC,fW]
theorem E5(c x y:Operand):aop aa (.pick c x y) fr σ=Qc σ (ev fr c) (ev fr x) (ev fr y):=by
 simp only [aop,bC,fW];cases ev fr c with
 | none=>rfl
 | some v=>cases v<;>first
  | rfl
  | (rename_i q;cases q<;>rfl)
theorem Kz(op:BinOp)(x y:Operand):aop aa (.bin op x y) fr σ=ZY σ op (ev fr x) (ev fr y):=by
 simp only [aop,bC,fW];cases ev fr x with
 | none=>rfl
 | some v=>cases ev fr y<;>rfl
theorem E6(n:Option Nat)(x:Operand):aop aa (.load n x) fr σ=Ky σ n (ev fr x):=by
 simp only [aop];cases ev fr x with
 | none=>rfl
 | some v=>cases v<;>first
  | rfl
  | (
    rename_i q;cases q with
    | none=>rfl
    | some a=>simp only [Ky];cases σ.blk a with
     | none=>rfl
     | some p=>obtain ⟨pl,cs⟩:=p;simp only [Option.bind_some,fW])
theorem AF(n:Nat)(x y:Operand):aop aa (.store n x y) fr σ=tG σ n (ev fr x) (ev fr y):=by
 simp only [aop];cases ev fr y with
 | none=>cases ev fr x with
  | none=>rfl
  | some v=>cases v<;>first
   | rfl
   | (rename_i q;cases q<;>rfl)
 | some w=>cases ev fr x with
  | none=>rfl
  | some v=>cases v<;>first
   | rfl
   | (
     rename_i q;cases q with
     | none=>rfl
     | some a=>simp only [Option.bind_some,tG];split<;>cases σ.write a (cellsOf w)<;>rfl)
end
section
variable{aa:au}
def Qf(aa:au)(born:List (Nat×Nat×Nat))(j:Nat)(d:Option Nat)(l:List aj)(fr:Fr)(σ:St):Option (Value×St)->Option (Fr×St)
 | some (v,τ)=>fQ aa (if σ.heap.length < τ.heap.length then (j,σ.heap.length,τ.heap.length)::born else born) (j+1) l (fr.put d v) ⟨τ.heap,σ.lock,σ.hid,τ.af⟩
 | none=>none
def CA(aa:au)(born:List (Nat×Nat×Nat))(j:Nat)(o:aj)(l:List aj)(fr:Fr)(σ:St):Option Bool->Option (Fr×St)
 | some true=>Qf aa born j o.dst l fr σ (aop aa o.op fr ⟨σ.heap,eo o.wr (gI o) born σ.lock σ.heap.length,aU o.bef born++σ.hid,σ.af⟩)
 | some false=>fQ aa born (j+1) l (fr.put o.dst bA) σ
 | none=>none
theorem Qg(born:List (Nat×Nat×Nat))(j:Nat)(o:aj)(l:List aj)(fr:Fr)(σ:St):fQ aa born j (o::l) fr σ=CA aa born j o l fr σ (want o fr):=by
 rw [fQ];cases want o fr with
 | none=>rfl
 | some b=>
  cases b with
  | false=>rfl
  | true=>
   simp only [Option.bind_some,if_true,CA];cases aop aa o.op fr { σ with lock:=eo o.wr (gI o) born σ.lock σ.heap.length,hid:=aU o.bef born++σ.hid }<;>rfl
theorem Qh(born:List (Nat×Nat×Nat))(j:Nat)(fr:Fr)(σ:St):fQ aa born j [] fr σ=some (fr,σ):=rfl
end
end AM
end Go.Proofs.YtgdpefeomemllaaGreat
end
section
namespace Go.Proofs.YtgdpefeomemllaaGreat
namespace AM
open Go Go.RowKit
def n5(σ:St)(f:Value->Option Value):Option Value->Option (Value×St)
 | some v=>gS σ (f v)
 | none=>none
theorem gu(σ:St)(f:Value->Option Value)(v:Value):n5 σ f (some v)=gS σ (f v):=rfl
def n6(σ:St)(f:Value->Value->Option Value):Option Value->Option Value->Option (Value×St)
 | some v,some w=>gS σ (f v w)
 | _,_=>none
theorem iU(σ:St)(f:Value->Value->Option Value)(v w:Value):n6 σ f (some v) (some w)=gS σ (f v w):=rfl
def x8:Value->Option Value
 | .pointer (some a)=>some (.pointer (some a))
 | .func (.func f) fi ca=>some (.func (.func f) fi ca)
 | _=>none
theorem Iw(a:Addr):x8 (.pointer (some a))=some (.pointer (some a)):=rfl
theorem E7(f:FuncId)(fi ca:Array Value):x8 (.func (.func f) fi ca)=some (.func (.func f) fi ca):=rfl
def eqF(neg:Bool)(sh:EqK)(v w:Value):Option Value:=(aeq sh v w).map fun b=>.bool (if neg then !b else b)
def WG(k:IntKind):Value->Option Value
 | .int _ n=>some (.int k (k.wrap n))
 | _=>none
theorem M9(k k':IntKind)(n:Int):WG k (.int k' n)=some (.int k (k.wrap n)):=rfl
def E8:Value->Option Value
 | .slice _ n _=>some (.int .i64 n)
 | _=>none
theorem Iy(a:Option Addr)(n e:Nat):E8 (.slice a n e)=some (.int .i64 n):=rfl
def KA:Value->Option Value
 | .string s=>some (.int .i64 s.size)
 | _=>none
theorem Na(s:ByteArray):KA (.string s)=some (.int .i64 s.size):=rfl
def Qi(off:Nat):Value->Option Value
 | .pointer (some a)=>some (.pointer (some { a with off:=a.off+off }))
 | _=>none
theorem Iz(off b o:Nat)(s:Option Nat):Qi off (.pointer (some ⟨b,o,s⟩))=some (.pointer (some ⟨b,o+off,s⟩)):=rfl
def Qj(off:Nat)(n:Option Nat):Value->Option Value
 | .agg cs=>bM cs.toList off n
 | _=>none
theorem x9(off:Nat)(n:Option Nat)(cs:Array Value):Qj off n (.agg cs)=bM cs.toList off n:=rfl
def IA(esz:Nat):Value->Value->Option Value
 | .slice (some a) n _,.int _ i=>if 0<=i/\i < n then some (.pointer (some { a with off:=a.off+i.toNat*esz })) else none
 | _,_=>none
theorem uL(esz b o n e:Nat)(s:Option Nat)(k:IntKind)(i:Int):IA esz (.slice (some ⟨b,o,s⟩) n e) (.int k i)=if 0<=i/\i < n then some (.pointer (some ⟨b,o+i.toNat*esz,s⟩)) else none:=rfl
def CB(esz n:Nat):Value->Value->Option Value
 | .pointer (some a),.int _ i=>if 0<=i/\i < n then some (.pointer (some { a with off:=a.off+i.toNat*esz })) else none
 | _,_=>none
theorem rL(esz b o n:Nat)(s:Option Nat)(k:IntKind)(i:Int):CB esz n (.pointer (some ⟨b,o,s⟩)) (.int k i)=if 0<=i/\i < n then some (.pointer (some ⟨b,o+i.toNat*esz,s⟩)) else none:=rfl
def XH(esz n:Nat)(m:Option Nat):Value->Value->Option Value
 | .agg cs,.int _ i=>if 0<=i/\i < n then bM cs.toList (i.toNat*esz) m else none
 | _,_=>none
theorem AG(esz n:Nat)(m:Option Nat)(cs:Array Value)(k:IntKind)(i:Int):XH esz n m (.agg cs) (.int k i)=if 0<=i/\i < n then bM cs.toList (i.toNat*esz) m else none:=rfl
def E9:Value->Value->Option Value
 | .string s,.int _ i=>if 0<=i/\i < s.size then (s.data.toList[i.toNat]?).map fun b=>.int .u8 b.toNat else none
 | _,_=>none
theorem IB(s:ByteArray)(k:IntKind)(i:Int):E9 (.string s) (.int k i)=if 0<=i/\i < s.size then (s.data.toList[i.toNat]?).map fun b=>.int .u8 b.toNat else none:=rfl
def ZZ(i:Nat):Value->Option Value
 | .tuple vs=>vs.toList[i]?
 | _=>none
theorem ya(i:Nat)(vs:Array Value):ZZ i (.tuple vs)=vs.toList[i]?:=rfl
section
variable{aa:au}(fr:Fr)(σ:St)
theorem uM{o:AOp}{f:Value->Option Value}{x:Operand}(h:aop aa o fr σ=(bC o fr).map fun v=>(v,σ))(hp:bC o fr=(ev fr x).bind f):aop aa o fr σ=n5 σ f (ev fr x):=by
 rw [h,hp];cases ev fr x with
 | none=>rfl
 | some v=>exact fW σ _
theorem Fa{o:AOp}{f:Value->Value->Option Value}{x y:Operand}(h:aop aa o fr σ=(bC o fr).map fun v=>(v,σ))(hp:bC o fr=(ev fr x).bind fun v=>(ev fr y).bind fun w=>f v w):aop aa o fr σ=n6 σ f (ev fr x) (ev fr y):=by
 rw [h,hp];cases ev fr x with
 | none=>rfl
 | some v=>cases ev fr y with
  | none=>rfl
  | some w=>exact fW σ _
theorem AH(x:Operand):aop aa (.br x) fr σ=n5 σ x8 (ev fr x):=uM fr σ rfl (by
 simp only [bC];cases ev fr x with
 | none=>rfl
 | some v=>cases v<;>first
  | rfl
  | (rename_i q;cases q<;>rfl)
  | (rename_i q _ _;cases q<;>rfl))
theorem KB(neg:Bool)(sh:EqK)(x y:Operand):aop aa (.eqs neg sh x y) fr σ=n6 σ (eqF neg sh) (ev fr x) (ev fr y):=Fa fr σ rfl rfl
theorem Qk(op:UnOp)(x:Operand):aop aa (.un op x) fr σ=n5 σ (aun op) (ev fr x):=uM fr σ rfl rfl
theorem Fb(k:IntKind)(x:Operand):aop aa (.conv k x) fr σ=n5 σ (WG k) (ev fr x):=uM fr σ rfl (by
 simp only [bC];cases ev fr x with
 | none=>rfl
 | some v=>cases v<;>rfl)
theorem KC(x:Operand):aop aa (.len x) fr σ=n5 σ E8 (ev fr x):=uM fr σ rfl (by
 simp only [bC];cases ev fr x with
 | none=>rfl
 | some v=>cases v<;>rfl)
theorem Fc(x:Operand):aop aa (.lens x) fr σ=n5 σ KA (ev fr x):=uM fr σ rfl (by
 simp only [bC];cases ev fr x with
 | none=>rfl
 | some v=>cases v<;>rfl)
theorem Ql(n:Nat):aop aa (.B1 n) fr σ=some (.int .i64 n,σ):=rfl
theorem AI(off:Nat)(x:Operand):aop aa (.ay off x) fr σ=n5 σ (Qi off) (ev fr x):=uM fr σ rfl (by
 simp only [bC];cases ev fr x with
 | none=>rfl
 | some v=>cases v<;>first
  | rfl
  | (rename_i q;cases q<;>rfl))
theorem AJ(off:Nat)(n:Option Nat)(x:Operand):aop aa (.field off n x) fr σ=n5 σ (Qj off n) (ev fr x):=uM fr σ rfl (by
 simp only [bC];cases ev fr x with
 | none=>rfl
 | some v=>cases v<;>rfl)
theorem KD(x:Operand)(i:Nat):aop aa (.ext x i) fr σ=n5 σ (ZZ i) (ev fr x):=uM fr σ rfl (by
 simp only [bC];cases ev fr x with
 | none=>rfl
 | some v=>cases v<;>rfl)
theorem AK(esz:Nat)(x i:Operand):aop aa (.aD esz x i) fr σ=n6 σ (IA esz) (ev fr x) (ev fr i):=Fa fr σ rfl (by
 simp only [bC];congr 1;funext v;congr 1;funext w;cases v<;>first
  | rfl
  | (
    rename_i q n e;cases q with
    | none=>rfl
    | some a=>cases w<;>first
     | rfl
     | (simp only [qi,IA];split<;>rfl)))
theorem yc(esz n:Nat)(x i:Operand):aop aa (.cz esz n x i) fr σ=n6 σ (CB esz n) (ev fr x) (ev fr i):=Fa fr σ rfl (by
 simp only [bC];congr 1;funext v;congr 1;funext w;cases v<;>first
  | rfl
  | (
    rename_i q;cases q with
    | none=>rfl
    | some a=>cases w<;>first
     | rfl
     | (simp only [qi,CB];split<;>rfl)))
theorem KE(esz n:Nat)(m:Option Nat)(x i:Operand):aop aa (.idx esz n m x i) fr σ=n6 σ (XH esz n m) (ev fr x) (ev fr i):=Fa fr σ rfl (by
 simp only [bC];congr 1;funext v;congr 1;funext w;cases v<;>first
  | rfl
  | (cases w<;>first
     | rfl
     | (simp only [qi,XH];split<;>rfl)))
theorem Fe(x i:Operand):aop aa (.idxs x i) fr σ=n6 σ E9 (ev fr x) (ev fr i):=Fa fr σ rfl (by
 simp only [bC];congr 1;funext v;congr 1;funext w;cases v<;>first
  | rfl
  | (cases w<;>first
     | rfl
     | (simp only [qi,E9];split<;>rfl)))
def CC(σ:St)(zs:List Value):Option (List (Nat×Nat×Value))->Option (Value×St)
 | some ps=>match fill zs ps with
  | some cs=>some (.agg cs.toArray,σ)
  | none=>none
 | none=>none
def KF(σ:St):Option (List Value)->Option (Value×St)
 | some cs=>some (.agg cs.toArray,σ)
 | none=>none
theorem CD(cs:List Value):KF σ (some cs)=some (.agg cs.toArray,σ):=rfl
theorem Ff(zs:List Value)(ps:List (Nat×Nat×Value)):CC σ zs (some ps)=KF σ (fill zs ps):=by simp only [CC];cases fill zs ps<;>rfl
theorem Nb(zs:List Value)(ps:List (Nat×Nat×Operand)):aop aa (.build zs ps) fr σ=CC σ zs (qh fr ps):=by
 show ((bC (.build zs ps) fr).map fun v=>(v,σ))=_;simp only [bC];cases qh fr ps with
 | none=>rfl
 | some l=>simp only [Option.bind_some,CC];cases fill zs l<;>rfl
def mmX(σ:St)(mx:Bool):Option (List Value)->Option (Value×St)
 | some (v::l)=>gS σ (mmf mx v l)
 | _=>none
theorem Qm(mx:Bool)(v:Value)(l:List Value):mmX σ mx (some (v::l))=gS σ (mmf mx v l):=rfl
theorem XI(mx:Bool)(xs:List Operand):aop aa (.mm mx xs) fr σ=mmX σ mx (evs fr xs):=by
 show ((bC (.mm mx xs) fr).map fun v=>(v,σ))=_;simp only [bC];cases evs fr xs with
 | none=>rfl
 | some l=>cases l with
  | nil=>rfl
  | cons v l=>exact fW σ _
theorem Uz(mx:Bool)(v:Value):mmf mx v []=some v:=rfl
theorem UA(k:IntKind)(x y:Int)(l:List Value):mmf true (.int k x) (.int k y::l)=mmf true (.int k (max x y)) l:=by simp only [mmf,mm2,if_true,Option.bind_some];congr 2;split<;>omega
theorem UB(k:IntKind)(x y:Int)(l:List Value):mmf false (.int k x) (.int k y::l)=mmf false (.int k (min x y)) l:=by simp only [mmf,mm2,if_true,Option.bind_some,Bool.false_eq_true,if_false];congr 2;split<;>omega
def Qn(σ:St)(f:FuncId):Option (List Value)->Option (List Value)->Option (Value×St)
 | some fi,some ca=>if fi.all aW&&ca.all aW then some (.func (.func f) fi.toArray ca.toArray,σ) else none
 | _,_=>none
theorem IC(f:FuncId)(fi ca:List Value):Qn σ f (some fi) (some ca)=if fi.all aW&&ca.all aW then some (.func (.func f) fi.toArray ca.toArray,σ) else none:=rfl
theorem Qo(f:FuncId)(fi ca:List Operand):aop aa (.zJ f fi ca) fr σ=Qn σ f (evs fr fi) (evs fr ca):=by
 show ((bC (.zJ f fi ca) fr).map fun v=>(v,σ))=_;simp only [bC];cases evs fr fi with
 | none=>rfl
 | some l=>cases evs fr ca with
  | none=>rfl
  | some m=>simp only [Option.bind_some,Qn];split<;>rfl
def yd(esz:Nat)(a:Addr)(n e:Nat)(lo hi mx:Option Value):Option Value:=if e=1048577\/e=1048578 then (jm n lo hi mx).map fun (l,h,m)=>.slice (some { a with off:=a.off+l*esz }) (h - l) (if m=some h then 1048578 else 0) else none
def eS(esz:Nat)(v:Value)(lo hi mx:Option Value):Option Value:=
 match v with
 | .slice none 0 0=>(jm 0 lo hi mx).map fun _=>.slice none 0 0
 | .slice (some a) n e=>if e=0\/e=esz then (jm n lo hi mx).map fun (l,h,m)=>.slice (some { a with off:=a.off+l*esz }) (h - l) (if m.isSome then 0 else e) else yd esz a n e lo hi mx
 | _=>none
def Qp(σ:St)(esz:Nat):Option Value->Option (Option Value)->Option (Option Value)->Option (Option Value)->Option (Value×St)
 | some v,some lo,some hi,some mx=>gS σ (eS esz v lo hi mx)
 | _,_,_,_=>none
theorem Fg(esz:Nat)(v:Value)(lo hi mx:Option Value):Qp σ esz (some v) (some lo) (some hi) (some mx)=gS σ (eS esz v lo hi mx):=rfl
theorem AL(esz:Nat)(x:Operand)(lo hi mx:Option Operand):aop aa (.slice esz x lo hi mx) fr σ=Qp σ esz (ev fr x) (evo fr lo) (evo fr hi) (evo fr mx):=by
 show ((bC (.slice esz x lo hi mx) fr).map fun v=>(v,σ))=_;simp only [bC];cases ev fr x with
 | none=>rfl
 | some v=>cases evo fr lo with
  | none=>rfl
  | some lo=>cases evo fr hi with
   | none=>rfl
   | some hi=>cases evo fr mx with
    | none=>rfl
    | some mx=>exact fW σ _
def KG(σ:St)(esz n:Nat):Option Value->Option (Option Value)->Option (Option Value)->Option (Option Value)->Option (Value×St)
 | some (.pointer (some a)),some lo,some hi,some mx=>gS σ ((jm n lo hi mx).map fun (l,h,_)=>.slice (some { a with off:=a.off+l*esz }) (h - l) 0)
 | _,_,_,_=>none
theorem CE(esz n:Nat)(a:Addr)(lo hi mx:Option Value):KG σ esz n (some (.pointer (some a))) (some lo) (some hi) (some mx)=gS σ ((jm n lo hi mx).map fun (l,h,_)=>.slice (some { a with off:=a.off+l*esz }) (h - l) 0):=rfl
theorem ID(esz n:Nat)(x:Operand)(lo hi mx:Option Operand):aop aa (.lY esz n x lo hi mx) fr σ=KG σ esz n (ev fr x) (evo fr lo) (evo fr hi) (evo fr mx):=by
 show ((bC (.lY esz n x lo hi mx) fr).map fun v=>(v,σ))=_;simp only [bC];cases ev fr x with
 | none=>rfl
 | some v=>cases evo fr lo with
  | none=>cases v<;>first
   | rfl
   | (rename_i q;cases q<;>rfl)
  | some lo=>cases evo fr hi with
   | none=>cases v<;>first
    | rfl
    | (rename_i q;cases q<;>rfl)
   | some hi=>cases evo fr mx with
    | none=>cases v<;>first
     | rfl
     | (rename_i q;cases q<;>rfl)
    | some mx=>cases v<;>first
     | rfl
     | (
       rename_i q;cases q with
       | none=>rfl
       | some a=>exact fW σ _)
def KH(σ:St):Option Value->Option (Option Value)->Option (Option Value)->Option (Value×St)
 | some (.string s),some lo,some hi=>gS σ ((jm s.size lo hi none).map fun (l,h,_)=>.string ⟨((s.data.toList.drop l).take (h - l)).toArray⟩)
 | _,_,_=>none
theorem CF(s:ByteArray)(lo hi:Option Value):KH σ (some (.string s)) (some lo) (some hi)=gS σ ((jm s.size lo hi none).map fun (l,h,_)=>.string ⟨((s.data.toList.drop l).take (h - l)).toArray⟩):=rfl
theorem IE(x:Operand)(lo hi:Option Operand):aop aa (.kT x lo hi) fr σ=KH σ (ev fr x) (evo fr lo) (evo fr hi):=by
 show ((bC (.kT x lo hi) fr).map fun v=>(v,σ))=_;simp only [bC];cases ev fr x with
 | none=>rfl
 | some v=>cases evo fr lo with
  | none=>cases v<;>rfl
  | some lo=>cases evo fr hi with
   | none=>cases v<;>rfl
   | some hi=>cases v<;>first
    | rfl
    | exact fW σ _
theorem Qq:evo fr none=some none:=rfl
def Z0:Option Value->Option (Option Value)
 | some v=>some (some v)
 | none=>none
theorem Nc(v:Value):Z0 (some v)=some (some v):=rfl
theorem Qr(x:Operand):evo fr (some x)=Z0 (ev fr x):=by simp only [evo];cases ev fr x<;>rfl
theorem Nd(pl:Bool)(zs:List Value):aop aa (.alloc pl zs) fr σ=some (.pointer (some ⟨σ.heap.length,0,some 0⟩),⟨σ.heap++[.cells 0 pl zs],σ.lock,σ.hid,σ.af⟩):=rfl
def Z1(σ:St)(pl:Bool):Option Value->Option (Value×St)
 | some v=>if (cellsOf v).all aW&&(!pl||(cellsOf v).all sc) then some (.pointer (some ⟨σ.heap.length,0,some 0⟩),⟨σ.heap++[.cells 0 pl (cellsOf v)],σ.lock,σ.hid,σ.af⟩) else none
 | none=>none
theorem Nf(pl:Bool)(v:Value):Z1 σ pl (some v)=if (cellsOf v).all aW&&(!pl||(cellsOf v).all sc) then some (.pointer (some ⟨σ.heap.length,0,some 0⟩),⟨σ.heap++[.cells 0 pl (cellsOf v)],σ.lock,σ.hid,σ.af⟩) else none:=rfl
theorem UC(pl:Bool)(x:Operand):aop aa (.box pl x) fr σ=Z1 σ pl (ev fr x):=by simp only [aop];cases ev fr x<;>rfl
def vH(σ:St)(pl:Bool)(esz n:Nat)(zs:List Value):Option (List (Nat×Nat×Value))->Option (Value×St)
 | some ps=>match fill zs ps with
  | some cs=>if cs.length=n*esz&&small (n*esz)&&(!pl||cs.all sc) then some (.slice (some ⟨σ.heap.length,0,some 0⟩) n esz,⟨σ.heap++[.cells 0 pl cs],σ.lock,σ.hid,σ.af⟩) else none
  | none=>none
 | none=>none
def Fh(σ:St)(pl:Bool)(esz n:Nat):Option (List Value)->Option (Value×St)
 | some cs=>if cs.length=n*esz&&small (n*esz)&&(!pl||cs.all sc) then some (.slice (some ⟨σ.heap.length,0,some 0⟩) n esz,⟨σ.heap++[.cells 0 pl cs],σ.lock,σ.hid,σ.af⟩) else none
 | none=>none
theorem zX(pl:Bool)(esz n:Nat)(cs:List Value):Fh σ pl esz n (some cs)=if cs.length=n*esz&&small (n*esz)&&(!pl||cs.all sc) then some (.slice (some ⟨σ.heap.length,0,some 0⟩) n esz,⟨σ.heap++[.cells 0 pl cs],σ.lock,σ.hid,σ.af⟩) else none:=rfl
theorem CG(pl:Bool)(esz n:Nat)(zs:List Value)(ps:List (Nat×Nat×Value)):vH σ pl esz n zs (some ps)=Fh σ pl esz n (fill zs ps):=by simp only [vH];cases fill zs ps<;>rfl
theorem IF(pl:Bool)(esz n:Nat)(zs:List Value)(ps:List (Nat×Nat×Operand)):aop aa (.dO pl esz n zs ps) fr σ=vH σ pl esz n zs (qh fr ps):=by
 simp only [aop];cases qh fr ps with
 | none=>rfl
 | some l=>simp only [Option.bind_some,vH];cases fill zs l<;>rfl
def WH(o s:Nat):Option Value->Option (List (Nat×Nat×Value))->Option (List (Nat×Nat×Value))
 | some v,some l=>some ((o,s,v)::l)
 | _,_=>none
theorem IG(o s:Nat)(v:Value)(l:List (Nat×Nat×Value)):WH o s (some v) (some l)=some ((o,s,v)::l):=rfl
theorem Ng(o s:Nat)(x:Operand)(l:List (Nat×Nat×Operand)):qh fr ((o,s,x)::l)=WH o s (ev fr x) (qh fr l):=by
 simp only [qh];cases ev fr x with
 | none=>rfl
 | some v=>cases qh fr l<;>rfl
theorem Qs:qh fr []=some []:=rfl
def XJ:Option Value->Option (List Value)->Option (List Value)
 | some v,some l=>some (v::l)
 | _,_=>none
theorem Nh(v:Value)(l:List Value):XJ (some v) (some l)=some (v::l):=rfl
theorem Qt(x:Operand)(l:List Operand):evs fr (x::l)=XJ (ev fr x) (evs fr l):=by
 simp only [evs];cases ev fr x with
 | none=>rfl
 | some v=>cases evs fr l<;>rfl
theorem UD:evs fr []=some []:=rfl
def WI(σ:St):Option Value->Option (Value×St)
 | some (.string s)=>if small s.size&&0 < s.size then some (.slice (some ⟨σ.heap.length,0,some 0⟩) s.size 1,⟨σ.heap++[.cells 0 true (dD s)],σ.lock,σ.hid,σ.af⟩) else none
 | _=>none
theorem II(s:ByteArray):WI σ (some (.string s))=if small s.size&&0 < s.size then some (.slice (some ⟨σ.heap.length,0,some 0⟩) s.size 1,⟨σ.heap++[.cells 0 true (dD s)],σ.lock,σ.hid,σ.af⟩) else none:=rfl
theorem Qu(x:Operand):aop aa (.zI x) fr σ=WI σ (ev fr x):=by
 simp only [aop];cases ev fr x with
 | none=>rfl
 | some v=>cases v<;>rfl
def St.str(σ:St):Value->Option (List UInt8)
 | .slice none 0 0=>some []
 | .slice (some a) n _=>(σ.blk a).bind fun (_,cs)=>if a.off+n<=cs.length then gL ((cs.drop a.off).take n) else none
 | _=>none
def KI(σ:St):Option Value->Option (Value×St)
 | some v=>match σ.str v with
  | some l=>some (.string ⟨l.toArray⟩,σ)
  | none=>none
 | none=>none
def Qv(σ:St):Option (List UInt8)->Option (Value×St)
 | some l=>some (.string ⟨l.toArray⟩,σ)
 | none=>none
theorem Fi(l:List UInt8):Qv σ (some l)=some (.string ⟨l.toArray⟩,σ):=rfl
theorem IJ(v:Value):KI σ (some v)=Qv σ (σ.str v):=by simp only [KI];cases σ.str v<;>rfl
def Qw(σ:St):Option Value->Option (Value×St)
 | some (.slice (some a) n e)=>if a.block < σ.lock||n=0 then none else (σ.blk a).map fun _=>(.slice (some a) n e,σ)
 | _=>none
def WJ(v:Value)(σ:St):Option (Bool×List Value)->Option (Value×St)
 | some _=>some (v,σ)
 | none=>none
theorem IK(b o g n e:Nat)(h:(b < σ.lock)=False)(hn:(n=0)=False):Qw σ (some (.slice (some ⟨b,o,some g⟩) n e))=WJ (.slice (some ⟨b,o,some g⟩) n e) σ (σ.blk ⟨b,o,some g⟩):=by simp only [Qw,h,hn,decide_false,Bool.or_self,Bool.false_eq_true,if_false];cases σ.blk ⟨b,o,some g⟩<;>rfl
theorem IL(v:Value)(p:Bool×List Value):WJ v σ (some p)=some (v,σ):=rfl
theorem Qx(x:Operand):aop aa (.mark x) fr σ=Qw σ (ev fr x):=by
 simp only [aop];cases ev fr x with
 | none=>rfl
 | some v=>cases v<;>first
  | rfl
  | (rename_i a n e;cases a<;>rfl)
theorem Qy(x:Operand):aop aa (.qg x) fr σ=KI σ (ev fr x):=by
 simp only [aop];cases ev fr x with
 | none=>rfl
 | some v=>
  cases v<;>first
   | rfl
   | skip
  rename_i a n e;cases a with
  | none=>
   cases n with
   | zero=>cases e<;>rfl
   | succ n=>rfl
  | some a=>
   simp only [KI,St.str];cases σ.blk a with
   | none=>rfl
   | some p=>
    obtain ⟨pl,cs⟩:=p;simp only [Option.bind_some];split
    ·cases gL ((cs.drop a.off).take n)<;>rfl
    ·rfl
def Fj(σ:St)(pl:Bool)(esz:Nat)(zs:List Value):Option Value->Option Value->Option (Value×St)
 | some (.int _ l),some (.int _ c)=>if 0<=l&&l<=c&&c<=1048576&&esz*c.toNat<=1048576&&zs.length=esz&&(l≠0||c=0) then
    some (.slice (some ⟨σ.heap.length,0,some 0⟩) l.toNat esz,⟨σ.heap++[.cells 0 pl (List.replicate l.toNat zs).flatten],σ.lock,σ.hid,σ.af⟩)
   else none
 | _,_=>none
theorem zY(pl:Bool)(esz:Nat)(zs:List Value)(k k':IntKind)(l c:Int):Fj σ pl esz zs (some (.int k l)) (some (.int k' c))=if 0<=l&&l<=c&&c<=1048576&&esz*c.toNat<=1048576&&zs.length=esz&&(l≠0||c=0) then
    some (.slice (some ⟨σ.heap.length,0,some 0⟩) l.toNat esz,⟨σ.heap++[.cells 0 pl (List.replicate l.toNat zs).flatten],σ.lock,σ.hid,σ.af⟩)
   else none:=rfl
theorem Fk(pl:Bool)(esz:Nat)(zs:List Value)(x y:Operand):aop aa (.eA pl esz zs x y) fr σ=Fj σ pl esz zs (ev fr x) (ev fr y):=by
 simp only [aop];cases ev fr x with
 | none=>rfl
 | some v=>cases ev fr y with
  | none=>cases v<;>rfl
  | some w=>cases v<;>cases w<;>rfl
def WK(aa:au)(f:FuncId)(σ:St):Option (List Value)->Option (Value×St)
 | some vs=>aa (.func f) vs σ
 | none=>none
theorem IM(f:FuncId)(vs:List Value):WK aa f σ (some vs)=aa (.func f) vs σ:=rfl
theorem Qz(f:FuncId)(args:List Operand):aop aa (.call f args) fr σ=WK aa f σ (evs fr args):=by simp only [aop];cases evs fr args<;>rfl
def CH(aa:au)(σ:St):Option Value->Option (List Value)->Option (Value×St)
 | some (.func g fi ca),some vs=>if B5 g&&!ca.isEmpty then none else aa g (fi.toList++vs++ca.toList) σ
 | _,_=>none
theorem Fl(g:FuncId)(fi ca:Array Value)(vs:List Value):CH aa σ (some (.func (.func g) fi ca)) (some vs)=aa (.func g) (fi.toList++vs++ca.toList) σ:=rfl
theorem CI(k:Nat)(vs:List Value):CH aa σ (some (.func (.yield k) #[] #[])) (some vs)=aa (.yield k) vs σ:=by simp [CH]
theorem Ni(x:Operand)(args:List Operand):aop aa (.dw x args) fr σ=CH aa σ (ev fr x) (evs fr args):=by
 simp only [aop];cases ev fr x with
 | none=>rfl
 | some v=>cases evs fr args with
  | none=>cases v<;>rfl
  | some vs=>cases v<;>rfl
def vI(σ:St)(pl:Bool)(esz:Nat):Option Value->Option Value->Option (Value×St)
 | some x,some y=>match σ.news esz y with
  | some (m,vs)=>σ.append pl esz x m vs
  | none=>none
 | _,_=>none
def WL(σ:St)(pl:Bool)(esz:Nat)(x:Value):Option (Nat×List Value)->Option (Value×St)
 | some (m,vs)=>σ.append pl esz x m vs
 | none=>none
theorem IN(pl:Bool)(esz:Nat)(x:Value)(m:Nat)(vs:List Value):WL σ pl esz x (some (m,vs))=σ.append pl esz x m vs:=rfl
theorem CJ(pl:Bool)(esz:Nat)(x y:Value):vI σ pl esz (some x) (some y)=WL σ pl esz x (σ.news esz y):=by simp only [vI];cases σ.news esz y<;>rfl
theorem IP(pl:Bool)(esz:Nat)(x y:Operand):aop aa (.append pl esz x y) fr σ=vI σ pl esz (ev fr x) (ev fr y):=by
 simp only [aop];cases ev fr x with
 | none=>rfl
 | some v=>cases ev fr y with
  | none=>rfl
  | some w=>simp only [Option.bind_some,vI];cases σ.news esz w<;>rfl
def QA(σ:St):Option Value->Option Value->Option (Value×St)
 | some x,some n=>B4 σ x n
 | _,_=>none
theorem Fm(x y:Operand):aop aa (.jl x y) fr σ=QA σ (ev fr x) (ev fr y):=by
 simp only [aop];cases ev fr x with
 | none=>rfl
 | some p=>cases ev fr y<;>rfl
theorem IQ(σ:St)(k:Int):QA σ (some (.slice none 0 0)) (some (.int .i64 k))=if k=0 then some (.slice none 0 0,σ) else if 0 < k/\k<=1048576 then some (.slice (some ⟨σ.heap.length,0,some k.toNat⟩) k.toNat 1,{ σ with heap:=σ.heap++[.cells k.toNat true (List.replicate k.toNat (.int .u8 0))] }) else none:=rfl
def Fo(σ:St)(esz:Nat):Option Value->Option (Nat×List Value)->Option (Value×St)
 | some (.slice none 0 0),some _=>some (.int .i64 0,σ)
 | some (.slice (some a) n _),some (m,vs)=>
   if min m n=0 then some (.int .i64 0,σ)
   else match σ.write a (vs.take (min m n*esz)) with
    | some σ'=>some (.int .i64 (min m n:Nat),σ')
    | none=>none
 | _,_=>none
def KJ(n:Nat):Option St->Option (Value×St)
 | some σ'=>some (.int .i64 (n:Nat),σ')
 | none=>none
theorem CK(n:Nat)(σ:St):KJ n (some σ)=some (.int .i64 (n:Nat),σ):=rfl
theorem IS(esz:Nat)(a:Addr)(n e m:Nat)(vs:List Value):Fo σ esz (some (.slice (some a) n e)) (some (m,vs))=if min m n=0 then some (.int .i64 0,σ) else KJ (min m n) (σ.write a (vs.take (min m n*esz))):=by
 simp only [Fo];split
 ·rfl
 ·cases σ.write a (vs.take (min m n*esz))<;>rfl
theorem IT(esz:Nat)(m:Nat)(vs:List Value):Fo σ esz (some (.slice none 0 0)) (some (m,vs))=some (.int .i64 0,σ):=rfl
def KK(σ:St)(esz:Nat):Option Value->Option (Nat×List Value)
 | some y=>σ.news esz y
 | none=>none
theorem IU(esz:Nat)(y:Value):KK σ esz (some y)=σ.news esz y:=rfl
theorem QB(esz:Nat)(x y:Operand):aop aa (.copy esz x y) fr σ=Fo σ esz (ev fr x) (KK σ esz (ev fr y)):=by
 simp only [aop];cases ev fr x with
 | none=>rfl
 | some v=>cases ev fr y with
  | none=>simp only [KK];cases v<;>first
   | rfl
   | (
     rename_i q n e;cases q<;>first
     | rfl
     | (cases n<;>cases e<;>rfl))
  | some w=>
   simp only [Option.bind_some,KK];cases σ.news esz w with
   | none=>cases v<;>first
    | rfl
    | (
      rename_i q n e;cases q<;>first
      | rfl
      | (cases n<;>cases e<;>rfl))
   | some p=>obtain ⟨m,vs⟩:=p;cases v<;>first
    | rfl
    | (
      rename_i q n e;cases q<;>first
      | (cases n<;>cases e<;>rfl)
      | (
       simp only [Option.bind_some,Fo];split
       ·rfl
       ·rename_i a _;cases σ.write a (vs.take (min m n*esz))<;>rfl))
def CL(σ:St)(zs:List Value):Option Value->Option (Value×St)
 | some (.slice none 0 0)=>some (.tuple #[],σ)
 | some (.slice (some a) n _)=>if n=0 then some (.tuple #[],σ) else Cz (σ.write a (List.replicate n zs).flatten)
 | _=>none
theorem Fp(zs:List Value):CL σ zs (some (.slice none 0 0))=some (.tuple #[],σ):=rfl
theorem Ft(zs:List Value)(a:Addr)(n e:Nat):CL σ zs (some (.slice (some a) n e))=if n=0 then some (.tuple #[],σ) else Cz (σ.write a (List.replicate n zs).flatten):=rfl
theorem Nj(esz:Nat)(zs:List Value)(x:Operand):aop aa (.clear esz zs x) fr σ=CL σ zs (ev fr x):=by
 simp only [aop];cases ev fr x with
 | none=>rfl
 | some v=>cases v<;>first
  | rfl
  | (
    rename_i q n e;cases q<;>first
    | (cases n<;>cases e<;>rfl)
    | (
     simp only [CL];split
     ·rfl
     ·rename_i a _;cases σ.write a (List.replicate n zs).flatten<;>rfl))
end
section
variable{h nw:List Blk}{L:Nat}{H d:List Nat}
def WM(s:Option Nat):Option Blk->Option (Bool×List Value)
 | some (.cells g pl cs)=>if s=some g then some (pl,cs) else none
 | _=>none
theorem yf(s:Option Nat)(g:Nat)(pl:Bool)(cs:List Value):WM s (some (.cells g pl cs))=if s=some g then some (pl,cs) else none:=rfl
theorem QC(hp:List Blk)(b o:Nat)(s:Option Nat):St.blk ⟨hp,L,H,d⟩ ⟨b,o,s⟩=if H.contains b=true then none else WM s hp[b]?:=by
 unfold St.blk;split
 ·rfl
 ·cases hp[b]? with
  | none=>rfl
  | some q=>cases q<;>rfl
theorem gj(i:Nat):(h++nw)[h.length+i]?=nw[i]?:=by rw [List.getElem?_append_right (by omega),Nat.add_sub_cancel_left]
theorem dK(b:Blk):(h++b::nw)[h.length]?=some b:=by rw [List.getElem?_append_right (by omega),Nat.sub_self];rfl
theorem UE(b:Blk)(i:Nat):(h++nw).set (h.length+i) b=h++nw.set i b:=by rw [List.set_append_right _ _ (by omega),Nat.add_sub_cancel_left]
theorem iV(b c:Blk):(h++c::nw).set h.length b=h++b::nw:=by rw [List.set_append_right _ _ (by omega),Nat.sub_self];rfl
def QD(hp:List Blk)(L:Nat)(H d:List Nat)(b o:Nat)(vs:List Value)(g:Nat):Option (Bool×List Value)->Option St
 | some (pl,cs)=>if o+vs.length<=cs.length&&vs.all aW&&(!pl||vs.all sc) then some ⟨hp.set b (.cells g pl (putAt cs o vs)),L,H,if vs.all sc||d.contains b then d else b::d⟩ else none
 | none=>none
theorem Fu(hp:List Blk)(b o:Nat)(vs:List Value)(g:Nat)(pl:Bool)(cs:List Value):QD hp L H d b o vs g (some (pl,cs))=if o+vs.length<=cs.length&&vs.all aW&&(!pl||vs.all sc) then some ⟨hp.set b (.cells g pl (putAt cs o vs)),L,H,if vs.all sc||d.contains b then d else b::d⟩ else none:=rfl
theorem write_eq(hp:List Blk)(b o g:Nat)(vs:List Value):St.write ⟨hp,L,H,d⟩ ⟨b,o,some g⟩ vs=if b < L then none else QD hp L H d b o vs g (St.blk ⟨hp,L,H,d⟩ ⟨b,o,some g⟩):=by
 unfold St.write;simp only [];split
 ·rfl
 ·rw [QC];split
  ·rfl
  ·cases hb:hp[b]? with
   | none=>rfl
   | some q=>cases q with
    | map _=>rfl
    | void=>rfl
    | cells g' pl cs=>
     simp only [yf,Option.some.injEq];by_cases e:g=g'
     ·subst e;simp only [↓reduceIte];rfl
     ·rw [if_neg e];rfl
end
section
variable{env:Env}
noncomputable def WN(d:List Nat):Option (Ex×Fr×St)->Option (Ex×Fr×St)
 | some (e,fr,σ)=>some (e,fr,⟨σ.heap,σ.lock,σ.hid,aO d σ.af⟩)
 | none=>none
theorem IV(d:List Nat)(e:Ex)(fr:Fr)(σ:St):WN d (some (e,fr,σ))=some (e,fr,⟨σ.heap,σ.lock,σ.hid,aO d σ.af⟩):=rfl
theorem QE(live:List Nat)(b:az)(fr:Fr)(σ:St):aZ env (.loop live b) fr σ=WN σ.af (aG env b live σ.heap.length (fr.keep live) ⟨σ.heap,σ.lock,σ.hid,[]⟩):=by rw [xS];cases aG env b live σ.heap.length (fr.keep live) ⟨σ.heap,σ.lock,σ.hid,[]⟩<;>rfl
noncomputable def IW(env:Env)(b:az)(live:List Nat)(base:Nat):Option (Fr×St)->Option (Ex×Fr×St)
 | some (fr,σ)=>aG env b live base fr σ
 | none=>none
theorem Fv(b:az)(live:List Nat)(base:Nat)(fr:Fr)(σ:St):IW env b live base (some (fr,σ))=aG env b live base fr σ:=rfl
noncomputable def n7(env:Env)(b:az)(live:List Nat)(base:Nat):Option (Ex×Fr×St)->Option (Ex×Fr×St)
 | some (.normal,fr,σ)=>IW env b live base (jo base (fr.keep live) σ)
 | some (e,fr,σ)=>some (e,fr,σ)
 | none=>none
theorem CM(b:az)(live:List Nat)(base:Nat)(fr:Fr)(σ:St):n7 env b live base (some (.normal,fr,σ))=IW env b live base (jo base (fr.keep live) σ):=rfl
theorem Nk(b:az)(live:List Nat)(base:Nat)(fr:Fr)(σ:St):n7 env b live base (some (.ret,fr,σ))=some (.ret,fr,σ):=rfl
theorem IX(b:az)(live:List Nat)(base:Nat)(i:Nat)(fr:Fr)(σ:St):n7 env b live base (some (.exit i,fr,σ))=some (.exit i,fr,σ):=rfl
theorem QF(b:az)(live:List Nat)(base:Nat)(fr:Fr)(σ:St):aG env b live base fr σ=n7 env b live base (aZ env b fr σ):=by
 rw [rI];cases aZ env b fr σ with
 | none=>rfl
 | some r=>
  obtain ⟨e,fr',σ'⟩:=r;cases e<;>first
   | rfl
   | (simp only [Option.bind_some,n7];cases jo base (fr'.keep live) σ'<;>rfl)
theorem ak{b b':az}(h:b=b')(live:List Nat)(base:Nat)(fr:Fr)(σ:St):aG env b live base fr σ=n7 env b live base (aZ env b' fr σ):=by subst h;exact QF b live base fr σ
def QG(t:Nat)(k:Fr):Option Value->Fr
 | some v=>(t,v)::k
 | none=>k
theorem IY(t:Nat)(k:Fr)(v:Value):QG t k (some v)=(t,v)::k:=rfl
theorem IZ(t:Nat)(k:Fr):QG t k none=k:=rfl
theorem Nl(fr:Fr)(t:Nat)(l:List Nat):fr.keep (t::l)=QG t (fr.keep l) (fr.get t):=by simp only [Fr.keep];cases fr.get t<;>rfl
theorem QH(fr:Fr):fr.keep []=[]:=rfl
theorem Nm{base:Nat}(fr:Fr)(hp:List Blk)(L:Nat)(H d:List Nat)(hb:hp.length<=base):jo base fr ⟨hp,L,H,d⟩=some (fr,⟨hp,L,H,d⟩):=by
 unfold jo gc;rw [if_pos hb];simp only [Option.map_some];congr 2;induction fr with
 | nil=>rfl
 | cons x fr ih=>simpa using ih
def gcX(σ:St):Option (List Value×St)->Option (Value×St)
 | some ([v],τ)=>some (v,⟨τ.heap,τ.lock,τ.hid,aO σ.af τ.af⟩)
 | _=>none
theorem QI(σ:St)(v:Value)(τ:St):gcX σ (some ([v],τ))=some (v,⟨τ.heap,τ.lock,τ.hid,aO σ.af τ.af⟩):=rfl
def UF(σ τ:St):Option Value->Option (Value×St)
 | some u=>gcX σ (gc σ.heap.length [u] τ)
 | none=>none
theorem Nn(σ τ:St)(u:Value):UF σ τ (some u)=gcX σ (gc σ.heap.length [u] τ):=rfl
def Fw(σ τ:St):Option (List Value)->Option (Value×St)
 | some vs=>UF σ τ (fR vs)
 | none=>none
theorem I0(σ τ:St)(vs:List Value):Fw σ τ (some vs)=UF σ τ (fR vs):=rfl
theorem QJ(rs:List ij)(σ:St)(fr:Fr)(τ:St):((eH fr τ rs).bind fun vs=>(fR vs).bind fun u=>(gc σ.heap.length [u] τ).bind fun q=>match q.1 with
   | [v]=>some (v,{ q.2 with af:=aO σ.af q.2.af })
   | _=>none)=Fw σ τ (eH fr τ rs):=by
 cases eH fr τ rs with
 | none=>rfl
 | some vs=>
  simp only [Option.bind_some,Fw];cases fR vs with
  | none=>rfl
  | some u=>
   simp only [Option.bind_some,UF];cases gc σ.heap.length [u] τ with
   | none=>rfl
   | some q=>
    obtain ⟨l,τ'⟩:=q;simp only [Option.bind_some];cases l with
    | nil=>rfl
    | cons v l=>cases l<;>rfl
theorem QK(rs:List ij)(σ:St)(fr:Fr)(τ:St):XB rs σ (some (.ret,fr,τ))=Fw σ τ (eH fr τ rs):=QJ rs σ fr τ
theorem Fx(rs:List ij)(σ:St)(fr:Fr)(τ:St):XB rs σ (some (.normal,fr,τ))=Fw σ τ (eH fr τ rs):=QJ rs σ fr τ
theorem I1(fr:Fr)(τ:St)(r:ij)(l:List ij):eH fr τ (r::l)=XJ (sI fr τ r) (eH fr τ l):=by
 simp only [eH];cases sI fr τ r with
 | none=>rfl
 | some v=>cases eH fr τ l<;>rfl
theorem No(fr:Fr)(τ:St):eH fr τ []=some []:=rfl
theorem QL(fr:Fr)(τ:St)(t:Nat):sI fr τ (.tmp t)=fr.get t:=rfl
def KL(τ:St)(n:Option Nat):Option Value->Option Value
 | some (.pointer (some a))=>match τ.blk a with
  | some r=>bM r.2 a.off n
  | none=>none
 | _=>none
def WO(n:Option Nat)(off:Nat):Option (Bool×List Value)->Option Value
 | some r=>bM r.2 off n
 | none=>none
theorem I2(n:Option Nat)(off:Nat)(r:Bool×List Value):WO n off (some r)=bM r.2 off n:=rfl
theorem I3(τ:St)(n:Option Nat)(a:Addr):KL τ n (some (.pointer (some a)))=WO n a.off (τ.blk a):=by simp only [KL];cases τ.blk a<;>rfl
theorem Np(fr:Fr)(τ:St)(a:Nat)(n:Option Nat):sI fr τ (.cell a n)=KL τ n (fr.get a):=by
 simp only [sI];cases fr.get a with
 | none=>rfl
 | some v=>cases v<;>first
  | rfl
  | (
    rename_i q;cases q with
    | none=>rfl
    | some a=>simp only [KL];cases τ.blk a<;>rfl)
theorem Nq(v:Value):fR [v]=some v:=rfl
theorem Nr(v w:Value)(l:List Value):fR (v::w::l)=if (v::w::l).all Af then some (.tuple (v::w::l).toArray) else none:=rfl
theorem Ns:fR []=some (.tuple #[]):=rfl
theorem UG{hp:List Blk}{base:Nat}{vs:List Value}{L:Nat}{H d:List Nat}(hb:hp.length<=base):gc base vs ⟨hp,L,H,d⟩=some (vs,⟨hp,L,H,d⟩):=by unfold gc;rw [if_pos hb]
end
inductive Br where
 | tt
 | ff
section
variable{env:Env}{aa:au}
def QM(aa:au)(o:aj)(l:List aj)(fr:Fr)(σ:St):Br->Option (Fr×St)
 | .tt=>opX aa o.dst l fr (aop aa o.op fr σ)
 | .ff=>fO aa l (fr.put o.dst bA) σ
theorem QN(o:aj)(l:List aj)(fr:Fr)(σ:St)(b:Bool):Kw aa o l fr σ (some b)=QM aa o l fr σ (if b=true then .tt else .ff):=by cases b<;>rfl
theorem QO(o:aj)(l:List aj)(fr:Fr)(σ:St):QM aa o l fr σ .tt=opX aa o.dst l fr (aop aa o.op fr σ):=rfl
theorem QS(o:aj)(l:List aj)(fr:Fr)(σ:St):QM aa o l fr σ .ff=fO aa l (fr.put o.dst bA) σ:=rfl
noncomputable def QT(env:Env)(a b:az)(fr:Fr)(σ:St):Br->Option (Ex×Fr×St)
 | .tt=>aZ env a fr σ
 | .ff=>aZ env b fr σ
theorem QU(a b:az)(fr:Fr)(σ:St)(c:Bool):WE env a b fr σ (some (.bool c))=QT env a b fr σ (if c=true then .tt else .ff):=by cases c<;>rfl
theorem QV(a b:az)(fr:Fr)(σ:St):QT env a b fr σ .tt=aZ env a fr σ:=rfl
theorem QW(a b:az)(fr:Fr)(σ:St):QT env a b fr σ .ff=aZ env b fr σ:=rfl
def QX(σ:St)(x y:Option Value):Br->Option (Value×St)
 | .tt=>gS σ x
 | .ff=>gS σ y
theorem QY(σ:St)(c:Bool)(x y:Option Value):Qc σ (some (.bool c)) x y=QX σ x y (if c=true then .tt else .ff):=by cases c<;>rfl
theorem QZ(σ:St)(x y:Option Value):QX σ x y .tt=gS σ x:=rfl
theorem Q0(σ:St)(x y:Option Value):QX σ x y .ff=gS σ y:=rfl
def AN(born:List (Nat×Nat×Nat))(j lo hi:Nat):List (Nat×Nat×Nat):=if lo < hi then (j,lo,hi)::born else born
theorem I4(born:List (Nat×Nat×Nat))(j n:Nat):AN born j n n=born:=if_neg (Nat.lt_irrefl n)
theorem Q1(own:Bool)(born:List (Nat×Nat×Nat))(L n:Nat):eo false own born L n=n:=rfl
theorem Q3(born:List (Nat×Nat×Nat))(L n:Nat):eo true false born L n=L:=rfl
theorem Q4(born:List (Nat×Nat×Nat))(L n:Nat):eo true true born L n=Ae L (qj born n) n:=rfl
theorem Q5{L base n:Nat}(h:L<=base)(h':base<=n):Ae L base n=base:=if_pos ⟨h,h'⟩
theorem UH(d:Option Nat)(g:Option (Nat×Bool))(bef:Nat)(wr:Bool)(op:AOp):gI ⟨d,g,bef,wr,op⟩=bef.testBit 255:=rfl
theorem I5(n:Nat):qj [] n=n:=rfl
theorem Fy{born:List (Nat×Nat×Nat)}{j lo hi n:Nat}(h:lo < hi):qj (AN born j lo hi) n=qj born lo:=by unfold AN;rw [if_pos h];rfl
theorem CN(bef:Nat):aU bef []=[]:=rfl
theorem yg(bef:Nat)(born:List (Nat×Nat×Nat))(j lo hi:Nat):aU bef (AN born j lo hi)=if bef.testBit j=true then aU bef born else List.range' lo (hi - lo)++aU bef born:=by
 unfold AN;split
 ·rfl
 ·have:hi - lo=0:=by omega
  rw [this];split<;>rfl
def I6(aa:au)(m:Bool)(B:List Nat)(seen:List (Bool×Nat))(o:aj)(l:List aj)(fr:Fr)(σ:St):Br->Option (Fr×St)
 | .tt=>Ik aa m B seen o l fr σ
 | .ff=>eB aa m B seen l (fr.put o.dst bA) σ
theorem Nt(aa:au)(m:Bool)(B:List Nat)(seen:List (Bool×Nat))(o:aj)(l:List aj)(fr:Fr)(σ:St)(b:Bool):Cv aa m B seen o l fr σ (some b)=I6 aa m B seen o l fr σ (if b=true then .tt else .ff):=by cases b<;>rfl
theorem Nu(aa:au)(m:Bool)(B:List Nat)(seen:List (Bool×Nat))(o:aj)(l:List aj)(fr:Fr)(σ:St):I6 aa m B seen o l fr σ .tt=Ik aa m B seen o l fr σ:=rfl
theorem Nv(aa:au)(m:Bool)(B:List Nat)(seen:List (Bool×Nat))(o:aj)(l:List aj)(fr:Fr)(σ:St):I6 aa m B seen o l fr σ .ff=eB aa m B seen l (fr.put o.dst bA) σ:=rfl
def I7(aa:au)(born:List (Nat×Nat×Nat))(j:Nat)(o:aj)(l:List aj)(fr:Fr)(σ:St):Br->Option (Fr×St)
 | .tt=>Qf aa born j o.dst l fr σ (aop aa o.op fr ⟨σ.heap,eo o.wr (gI o) born σ.lock σ.heap.length,aU o.bef born++σ.hid,σ.af⟩)
 | .ff=>fQ aa born (j+1) l (fr.put o.dst bA) σ
theorem Nw(born:List (Nat×Nat×Nat))(j:Nat)(o:aj)(l:List aj)(fr:Fr)(σ:St)(b:Bool):CA aa born j o l fr σ (some b)=I7 aa born j o l fr σ (if b=true then .tt else .ff):=by cases b<;>rfl
theorem Nx(born:List (Nat×Nat×Nat))(j:Nat)(o:aj)(l:List aj)(fr:Fr)(σ:St):I7 aa born j o l fr σ .tt=Qf aa born j o.dst l fr σ (aop aa o.op fr ⟨σ.heap,eo o.wr (gI o) born σ.lock σ.heap.length,aU o.bef born++σ.hid,σ.af⟩):=rfl
theorem Ny(born:List (Nat×Nat×Nat))(j:Nat)(o:aj)(l:List aj)(fr:Fr)(σ:St):I7 aa born j o l fr σ .ff=fQ aa born (j+1) l (fr.put o.dst bA) σ:=rfl
theorem Nz(born:List (Nat×Nat×Nat))(j:Nat)(d:Option Nat)(l:List aj)(fr:Fr)(σ:St)(v:Value)(τ:St):Qf aa born j d l fr σ (some (v,τ)) =
  fQ aa (AN born j σ.heap.length τ.heap.length) (j+1) l (fr.put d v) ⟨τ.heap,σ.lock,σ.hid,τ.af⟩:=rfl
def KM(b:Bool):Option Value->Option Bool
 | some (.bool c)=>some (c==b)
 | some (.tuple _)=>some false
 | _=>none
theorem NA(d:Option Nat)(bf:Nat)(wr:Bool)(op:AOp)(fr:Fr):want ⟨d,none,bf,wr,op⟩ fr=some true:=rfl
theorem NB(d:Option Nat)(g:Nat)(b:Bool)(bf:Nat)(wr:Bool)(op:AOp)(fr:Fr):want ⟨d,some (g,b),bf,wr,op⟩ fr=KM b (fr.get g):=by
 simp only [want];cases fr.get g with
 | none=>rfl
 | some v=>cases v<;>rfl
theorem I8(c:Bool):KM true (some (.bool c))=some c:=by cases c<;>rfl
theorem Fz(c:Bool):KM false (some (.bool c))=some (!c):=by cases c<;>rfl
theorem FA(b:Bool)(vs:Array Value):KM b (some (.tuple vs))=some false:=rfl
theorem I9(o:aj)(l:List aj)(fr:Fr)(σ:St):Kw aa o l fr σ (some true)=opX aa o.dst l fr (aop aa o.op fr σ):=rfl
theorem FB(born:List (Nat×Nat×Nat))(j:Nat)(o:aj)(l:List aj)(fr:Fr)(σ:St):CA aa born j o l fr σ (some true)=Qf aa born j o.dst l fr σ (aop aa o.op fr ⟨σ.heap,eo o.wr (gI o) born σ.lock σ.heap.length,aU o.bef born++σ.hid,σ.af⟩):=rfl
theorem XK(fr:Fr)(t:Nat):ev fr (.tmp t)=fr.get t:=rfl
theorem Q6(fr:Fr)(v:Value):ev fr (.const v)=some v:=rfl
theorem UI(fr:Fr)(f:FuncId):ev fr (.func f)=some (.func (.func f) #[] #[]):=rfl
theorem jW(k t:Nat)(v:Value)(l:Fr):Fr.get ((k,v)::l) t=if k=t then some v else Fr.get l t:=rfl
theorem Q7(fr:Fr)(d:Nat)(v:Value):fr.put (some d) v=(d,v)::fr:=rfl
theorem Q8(fr:Fr)(v:Value):fr.put none v=fr:=rfl
end
end AM
end Go.Proofs.YtgdpefeomemllaaGreat
end
section
namespace Go.Proofs.YtgdpefeomemllaaGreat
namespace AM
open Go Go.RowKit
section
variable{h nw:List Blk}{L:Nat}{H d:List Nat}{vs:List Value}
theorem KN(hv:∀ v∈vs,∀ r∈refs v,r < h.length)(hd:d=[]):gc h.length vs ⟨h++nw,L,H,d⟩=some (vs,⟨h,L,H,[]⟩):=by
 subst hd;unfold gc;by_cases hn:(h++nw).length<=h.length
 ·rw [if_pos hn];have:nw=[]:=by simp only [List.length_append] at hn;exact List.eq_nil_of_length_eq_zero (by omega)
  subst this;simp
 ·rw [if_neg hn];have:(vs.flatMap refs++(([]:List Nat).filter (· < h.length)).flatMap (aP (h++nw))).filter (h.length<=·)=[]:=by simp only [List.filter_nil,List.flatMap_nil,List.append_nil];rw [List.filter_eq_nil_iff];intro r hr;obtain ⟨v,h1,h2⟩:=List.mem_flatMap.1 hr;have:=hv v h1 r h2;simpa using this
  simp only [this];simp
theorem AO{g:Nat}{cs:List Value}{base r:Nat}{hp:List Blk}(hb:hp[r]?=some (.cells g true cs))(hr:base<=r):∀ (ws acc:List Nat) (f:Nat),(∀ x∈ws,x=r)->acc=[r]->reach hp base f ws acc=[r]
 | ws,acc,0,_,ha=>by rw [reach];exact ha
 | [],acc,f+1,_,ha=>by rw [reach];exact ha
 | x::ws,acc,f+1,hx,ha=>by
  have:x=r:=hx x (by simp);subst this;rw [reach];have h1:(decide (x < base)||acc.contains x)=true:=by rw [ha];simp
  rw [if_pos h1];exact AO hb hr ws acc f (fun y hy=>hx y (by simp [hy])) ha
def one(base r:Nat)(id:Nat):Nat:=if id < base then id else base+[r].idxOf id
theorem rM{base r id:Nat}(h:id < base):one base r id=id:=by simp [one,h]
theorem eU{base k:Nat} : one base (base+k) (base+k)=base:=by
 have:¬ base+k < base:=by omega
 simp [one,this]
theorem CO{k g:Nat}{cs:List Value}(hk:nw[k]?=some (.cells g true cs))(hv:∀ v∈vs,∀ r∈refs v,r < h.length\/r=h.length+k)(hx:∃ v∈vs,h.length+k∈refs v)(hd:d=[]) :
  gc h.length vs ⟨h++nw,L,H,d⟩=some (vs.map (ren (one h.length (h.length+k))),⟨h++[.cells g true cs],L,H,[]⟩):=by
 subst hd;have hkl:k < nw.length:=(List.getElem?_eq_some_iff.1 hk).1;have hb:(h++nw)[h.length+k]?=some (.cells g true cs):=by rw [List.getElem?_append_right (by omega),Nat.add_sub_cancel_left];exact hk
 have hr0:aP (h++nw) (h.length+k)=[]:=by simp [aP,hb,cU]
 unfold gc;rw [if_neg (by simp only [List.length_append];omega)];have s9:∀ r∈(vs.flatMap refs++(([]:List Nat).filter (· < h.length)).flatMap (aP (h++nw))).filter (h.length<=·),r=h.length+k:=fun r hr=>by
  simp only [List.filter_nil,List.flatMap_nil,List.append_nil,List.mem_filter,List.mem_flatMap,decide_eq_true_eq] at hr;obtain ⟨⟨v,h1,h2⟩,h3⟩:=hr;rcases hv v h1 r h2 with h4 | h4
  ·omega
  ·exact h4
 have hne:h.length+k∈(vs.flatMap refs++(([]:List Nat).filter (· < h.length)).flatMap (aP (h++nw))).filter (h.length<=·):=by simp only [List.filter_nil,List.flatMap_nil,List.append_nil,List.mem_filter,List.mem_flatMap,decide_eq_true_eq];obtain ⟨v,h1,h2⟩:=hx;exact ⟨⟨v,h1,h2⟩,by omega⟩
 simp only [];generalize KO:(vs.flatMap refs++(([]:List Nat).filter (· < h.length)).flatMap (aP (h++nw))).filter (h.length<=·)=roots at s9 hne;cases roots with
 | nil=>simp at hne
 | cons r rs=>
  have hr:r=h.length+k:=s9 r (by simp);subst hr;simp only [];have Ja:reach (h++nw) h.length 4096 ((h.length+k)::rs) []=[h.length+k]:=by
   rw [show 4096=4095+1 by rfl,reach];rw [if_neg (by simp)];exact AO hb (by omega) _ _ _ (fun x hx=>by rw [hr0,List.nil_append] at hx;exact s9 x (by simp [hx])) rfl
  rw [Ja];unfold lZ;have hok:(vs.all fun v=>(refs v).all fun r=>decide (r < h.length)||[h.length+k].contains r)=true:=by
   rw [List.all_eq_true];intro v h1;rw [List.all_eq_true];intro r h2;rcases hv v h1 r h2 with h4 | h4
   ·simp [h4]
   ·simp [h4]
  simp only [List.filter_nil];refine (if_pos ?_).trans ?_
  ·simp only [dW,hok,List.all_nil,List.all_cons,hr0,List.length_append];simp;exact hkl
  ·have hg:(h++nw).getD (h.length+k) default=.cells g true cs:=by rw [List.getD_eq_getElem?_getD,hb];rfl
   simp only [dV,List.map_cons,List.map_nil,hg,gK,List.take_left'];rfl
theorem FC{v:Value}(hv:∀ r∈refs v,r < h.length):gc h.length [v] ⟨h++nw,L,H,[]⟩=some ([v],⟨h,L,H,[]⟩):=KN (fun v' h1 r h2=>by simp at h1;subst h1;exact hv r h2) rfl
end
end AM
end Go.Proofs.YtgdpefeomemllaaGreat
end
section
namespace Go.Proofs.YtgdpefeomemllaaGreat
namespace AM
open Go Go.RowKit
theorem w64{n:Int}(h : -9223372036854775808<=n)(h':n<=9223372036854775807):IntKind.i64.wrap n=n:=by rw [IntKind.wrap_i64];omega
theorem wu8{n:Int}(h:0<=n)(h':n<=255):IntKind.u8.wrap n=n:=by simp [IntKind.wrap,IntKind.bits,IntKind.signed];omega
theorem UJ(n:Int):IntKind.u8.wrap n=n%256:=by simp [IntKind.wrap,IntKind.bits,IntKind.signed]
theorem acv{n:Int}(h:0<=n)(h':n<=4294967295):IntKind.u32.wrap n=n:=by simp [IntKind.wrap,IntKind.bits,IntKind.signed];omega
theorem Z3{n:Int}(h:0<=n)(h':n<=18446744073709551615):IntKind.u64.wrap n=n:=by simp [IntKind.wrap,IntKind.bits,IntKind.signed];omega
theorem WQ(n:Int):IntKind.u64.wrap n=n%18446744073709551616:=by simp [IntKind.wrap,IntKind.bits,IntKind.signed]
theorem Q9:IntKind.i64.bits=64:=rfl
theorem Ra:IntKind.u64.bits=64:=rfl
theorem Rb:IntKind.u32.bits=32:=rfl
theorem UK:IntKind.u8.bits=8:=rfl
theorem n8(a:Int){b:Int}(h:0<=b):a.fdiv b=a / b:=Int.fdiv_eq_ediv_of_nonneg a h
theorem Rc(w a:Nat)(h:a < 2 ^ w):(BitVec.ofInt w (a:Int)).toNat=a:=by rw [BitVec.ofInt_natCast,BitVec.toNat_ofNat,Nat.mod_eq_of_lt h]
theorem Re(w a b:Nat)(ha:a < 2 ^ w)(hb:b < 2 ^ w):(BitVec.ofInt w (a:Int)|||BitVec.ofInt w (b:Int)).toNat=a|||b:=by rw [BitVec.toNat_or,Rc w a ha,Rc w b hb]
def UL(w:Nat)(a b:Int):Int:=((BitVec.ofInt w a&&&BitVec.ofInt w b).toNat:Int)
def orI(w:Nat)(a b:Int):Int:=((BitVec.ofInt w a|||BitVec.ofInt w b).toNat:Int)
def XL(w:Nat)(a b:Int):Int:=((BitVec.ofInt w a ^^^ BitVec.ofInt w b).toNat:Int)
theorem NC{k:IntKind}{a b:Int} : bV .and (.int k a) (.int k b)=some (.int k (k.wrap (UL k.bits a b))):=EW
theorem Rf{k:IntKind}{a b:Int} : bV .or (.int k a) (.int k b)=some (.int k (k.wrap (orI k.bits a b))):=Ku
theorem ND{k:IntKind}{a b:Int} : bV .xor (.int k a) (.int k b)=some (.int k (k.wrap (XL k.bits a b))):=EX
def b8(l:List Nat):List UInt8:=l.map UInt8.ofNat
def By(l:List Nat):Prop:=∀ b∈l,b < 256
theorem By.nil:By []:=fun b h=>by cases h
theorem By.cons{b:Nat}{l:List Nat}(h:b < 256)(hl:By l):By (b::l):=fun x hx=>by
 rcases List.mem_cons.1 hx with rfl | hx
 ·exact h
 ·exact hl x hx
theorem By.append{l m:List Nat}(h:By l)(k:By m):By (l++m):=fun x hx=>(List.mem_append.1 hx).elim (h x) (k x)
theorem By.take{l:List Nat}(h:By l)(n:Nat):By (l.take n):=fun x hx=>h x (List.mem_of_mem_take hx)
theorem By.drop{l:List Nat}(h:By l)(n:Nat):By (l.drop n):=fun x hx=>h x (List.mem_of_mem_drop hx)
theorem By.get{l:List Nat}(h:By l){i:Nat}(hi:i < l.length):l[i] < 256:=h _ (List.getElem_mem hi)
theorem AP(l:List Nat):(b8 l).length=l.length:=by simp [b8]
theorem qA:∀ (l:List Nat),gL (u8s l)=some (b8 l)
 | []=>rfl
 | x::l=>by have:=qA l;simp only [u8s,List.map_cons,gL] at this ⊢;rw [this];simp [b8]
theorem Rg(l m:List UInt8):bV .eql (.string ⟨l.toArray⟩) (.string ⟨m.toArray⟩)=some (.bool (l==m)):=by simp [bV,DV]
theorem Rh(l m:List UInt8):bV .neq (.string ⟨l.toArray⟩) (.string ⟨m.toArray⟩)=some (.bool (!(l==m))):=by simp [bV,DV]
theorem Ri(l m:List UInt8):bV .lss (.string ⟨l.toArray⟩) (.string ⟨m.toArray⟩)=some (.bool (pO l m)):=by simp [bV,DV]
theorem Rj(l m:List UInt8):bV .add (.string ⟨l.toArray⟩) (.string ⟨m.toArray⟩)=if l.length+m.length<=1099511627776 then some (.string ⟨(l++m).toArray⟩) else none:=by simp [bV,DV,ByteArray.size]
def Low(n:Nat)(H:List Nat):Prop:=∀ t∈H,t < n
theorem Low.nil(n:Nat):Low n []:=fun t h=>by cases h
theorem Low.mono{n m:Nat}{H:List Nat}(h:Low n H)(k:n<=m):Low m H:=fun t ht=>Nat.lt_of_lt_of_le (h t ht) k
theorem Low.not{n i:Nat}{H:List Nat}(h:Low n H)(hi:n<=i):H.contains i=false:=by
 cases e:H.contains i with
 | false=>rfl
 | true=>have:=h i (by simpa using e);omega
theorem Low.jv{n:Nat}{H:List Nat}(h:Low n H):H.contains n=false:=h.not (Nat.le_refl _)
theorem Low.nL{n:Nat}{H:List Nat}(h:Low n H)(i:Nat):H.contains (n+i)=false:=h.not (by omega)
theorem gT{lo k i:Nat}{H:List Nat}(h:i < lo\/lo+k<=i):(List.range' lo k++H).contains i=H.contains i:=by
 rw [Bool.eq_iff_iff];simp only [List.contains_iff_mem,List.mem_append,List.mem_range'_1];constructor
 ·rintro (h1 | h1)
  ·omega
  ·exact h1
 ·exact .inr
structure Rd(σ:St)(v:Value)(l:List Nat):Prop where
 by_:By l
 form:(v=.slice none 0 0/\l=[])\/∃ b o g e pl cs,v=.slice (some ⟨b,o,some g⟩) l.length e/\(e=0\/e=1)/\σ.hid.contains b=false/\σ.heap[b]?=some (.cells g pl cs)/\o+l.length<=cs.length/\(cs.drop o).take l.length=u8s l
theorem Rd.len{σ:St}{v:Value}{l:List Nat}(h:Rd σ v l):∃ a e,v=.slice a l.length e:=by
 rcases h.form with ⟨rfl,rfl⟩ | ⟨b,o,g,e,pl,cs,rfl,_⟩
 ·exact ⟨none,0,rfl⟩
 ·exact ⟨_,_,rfl⟩
theorem Rd.str{σ:St}{v:Value}{l:List Nat}(h:Rd σ v l):σ.str v=some (b8 l):=by
 rcases h.form with ⟨rfl,rfl⟩ | ⟨b,o,g,e,pl,cs,rfl,_,hh,hb,hl,hc⟩
 ·rfl
 ·have:σ.blk ⟨b,o,some g⟩=some (pl,cs):=by unfold St.blk;rw [hh,hb];simp
  simp only [St.str,this,Option.bind_some,if_pos hl,hc,qA]
theorem Rd.E8{σ:St}{v:Value}{l:List Nat}(h:Rd σ v l):E8 v=some (.int .i64 l.length):=by obtain ⟨a,e,rfl⟩:=h.len;rfl
theorem Rd.more{σ τ:St}{v:Value}{l:List Nat}(h:Rd σ v l)(hp:∀ b x,σ.heap[b]?=some x->σ.hid.contains b=false->τ.heap[b]?=some x/\τ.hid.contains b=false):Rd τ v l:=by
 refine ⟨h.by_,?_⟩;rcases h.form with h1 | ⟨b,o,g,e,pl,cs,h1,h2,h3,h4,h5⟩
 ·exact .inl h1
 ·obtain ⟨h6,h7⟩:=hp b _ h4 h3;exact .inr ⟨b,o,g,e,pl,cs,h1,h2,h7,h6,h5⟩
theorem Rd.app{h nw:List Blk}{L L':Nat}{H d d':List Nat}{v:Value}{l:List Nat}(k:Rd ⟨h,L,H,d⟩ v l):Rd ⟨h++nw,L',H,d'⟩ v l:=
 k.more fun b x hx hh=>⟨by rw [List.getElem?_append_left (List.getElem?_eq_some_iff.1 hx).1];exact hx,hh⟩
theorem CP{cs:List Value}{o:Nat}{l:List Nat}(h:(cs.drop o).take l.length=u8s l){i:Nat}(hi:i < l.length):cs[o+i]?=some (.int .u8 (l[i]:Nat)):=by
 have:((cs.drop o).take l.length)[i]?=some (.int .u8 (l[i]:Nat)):=by rw [h,j8,List.getElem?_eq_getElem hi];rfl
 rw [List.getElem?_take,if_pos hi,List.getElem?_drop] at this;exact this
theorem Rd.at_{σ:St}{a:Option Addr}{e:Nat}{l:List Nat}{n:Nat}(h:Rd σ (.slice a n e) l){i:Nat}(hi:i < l.length) :
  ∃ b o g pl cs,a=some ⟨b,o,some g⟩/\n=l.length/\σ.hid.contains b=false/\σ.heap[b]?=some (.cells g pl cs)/\cs[o+i]?=some (.int .u8 (l[i]:Nat)):=by
 rcases h.form with ⟨h1,rfl⟩ | ⟨b,o,g,e',pl,cs,h1,_,hh,hb,hl,hc⟩
 ·simp at hi
 ·cases h1;exact ⟨b,o,g,pl,cs,rfl,rfl,hh,hb,CP hc hi⟩
theorem Rd.news{σ:St}{v:Value}{l:List Nat}(h:Rd σ v l):σ.news 1 v=some (l.length,u8s l):=by
 rcases h.form with ⟨rfl,rfl⟩ | ⟨b,o,g,e,pl,cs,rfl,_,hh,hb,hl,hc⟩
 ·rfl
 ·have:σ.blk ⟨b,o,some g⟩=some (pl,cs):=by unfold St.blk;rw [hh,hb];simp
  simp only [St.news,this,Option.bind_some,Nat.mul_one,if_pos hl,hc]
def sl(k g:Nat):Option (List Nat)->Value
 | none=>.slice none 0 0
 | some l=>.slice (some ⟨k,0,some g⟩) l.length 1
def slB(g:Nat):Option (List Nat)->List Blk
 | none=>[]
 | some l=>[.cells g true (u8s l)]
theorem UM(k g:Nat):sl k g none=.slice none 0 0:=rfl
theorem rN(k g:Nat)(l:List Nat):sl k g (some l)=.slice (some ⟨k,0,some g⟩) l.length 1:=rfl
theorem Rk(g:Nat):slB g none=[]:=rfl
theorem n9(g:Nat)(l:List Nat):slB g (some l)=[.cells g true (u8s l)]:=rfl
theorem UN(k g:Nat)(o:Option (List Nat)):E8 (sl k g o)=some (.int .i64 (o.getD []).length):=by cases o<;>rfl
theorem qB(l:List Nat):(u8s l).all sc=true:=by rw [List.all_eq_true];intro v hv;obtain ⟨x,_,rfl⟩:=List.mem_map.1 hv;rfl
theorem c9(l:List Nat):(u8s l).all aW=true:=by rw [List.all_eq_true];intro v hv;obtain ⟨x,_,rfl⟩:=List.mem_map.1 hv;rfl
theorem UO{hp nw:List Blk}{base:Nat}{v:Value}{L:Nat}{H:List Nat}(hb:hp.length=base)(hv:refs v=[]):gc base [v] ⟨hp++nw,L,H,[]⟩=some ([v],⟨hp,L,H,[]⟩):=by subst hb;exact FC fun r hr=>by rw [hv] at hr;cases hr
theorem NF{hp nw:List Blk}{base:Nat}{fr:Fr}{L:Nat}{H:List Nat}(hb:hp.length=base)(hv:∀ p∈fr,∀ r∈refs p.2,r < base):jo base fr ⟨hp++nw,L,H,[]⟩=some (fr,⟨hp,L,H,[]⟩):=by
 subst hb;unfold jo;rw [KN (fun v hv' r hr=>by obtain ⟨p,hp',rfl⟩:=List.mem_map.1 hv';exact hv p hp' r hr) rfl]
 simp only [Option.map_some];congr 2;clear hv;induction fr with
 | nil=>rfl
 | cons x fr ih=>simpa using ih
def gcY(h nw:List Blk)(v:Value)(L:Nat)(H:List Nat):Bool->Option (List Value×St)
 | true=>some ([v],⟨h,L,H,[]⟩)
 | false=>gc h.length [v] ⟨h++nw,L,H,[]⟩
theorem CQ(h nw:List Blk)(v:Value)(L:Nat)(H:List Nat):gc h.length [v] ⟨h++nw,L,H,[]⟩=gcY h nw v L H (refs v).isEmpty:=by
 cases e:(refs v).isEmpty with
 | false=>rfl
 | true=>exact UO rfl (List.isEmpty_iff.1 e)
theorem Rl(h nw:List Blk)(v:Value)(L:Nat)(H:List Nat):gcY h nw v L H true=some ([v],⟨h,L,H,[]⟩):=rfl
theorem Jb(h nw:List Blk)(i:Nat)(b:Blk)(v:Value)(L:Nat)(H:List Nat):gc h.length [v] ⟨h.set i b++nw,L,H,[]⟩=gcY (h.set i b) nw v L H (refs v).isEmpty:=by have:=CQ (h.set i b) nw v L H;rwa [List.length_set] at this
theorem iO{h nw:List Blk}{v:Value}{L:Nat}{H:List Nat}(k:Nat){g:Nat}{cs:List Value}(hk:nw[k]?=some (.cells g true cs))(hv:∀ r∈refs v,r < h.length\/r=h.length+k)(hx:h.length+k∈refs v) :
  gcY h nw v L H false=some ([ren (AM.one h.length (h.length+k)) v],⟨h++[.cells g true cs],L,H,[]⟩):=by unfold gcY;exact CO hk (fun v' h1 r h2=>by simp at h1;subst h1;exact hv r h2) ⟨v,by simp,hx⟩ rfl
theorem Rm{base:Nat} : AM.one base base base=base:=eU (k:=0)
def Fit(n L:Nat)(H:List Nat):Prop:=L<=n/\Low n H
theorem Fit.mono{n m L:Nat}{H:List Nat}(h:Fit n L H)(k:n<=m):Fit m L H:=⟨Nat.le_trans h.1 k,h.2.mono k⟩
theorem Fit.jv{n L:Nat}{H:List Nat}(h:Fit n L H):H.contains n=false:=h.2.jv
theorem Fit.nL{n L:Nat}{H:List Nat}(h:Fit n L H)(i:Nat):H.contains (n+i)=false:=h.2.nL i
theorem Fit.up0{n L:Nat}{H:List Nat}(h:Fit n L H):(n < L)=False:=eq_false (by have:=h.1;omega)
theorem Fit.up1{n L:Nat}{H:List Nat}(h:Fit n L H)(i:Nat):(n+i < L)=False:=eq_false (by have:=h.1;omega)
theorem Fit.all{n L:Nat}{H:List Nat}(h:Fit n L H):H.contains n=false/\(∀ i,H.contains (n+i)=false)/\(n < L)=False/\∀ i,(n+i < L)=False:=⟨h.jv,h.nL,h.up0,h.up1⟩
theorem Fit.draw{n m L L':Nat}{H:List Nat}(h:Fit n L H)(k:n<=m)(kl:L'<=m):Fit m L' H:=⟨kl,h.2.mono k⟩
theorem jX{h nw:List Blk}{i:Nat}(hi:i < h.length):(h++nw)[i]?=h[i]?:=List.getElem?_append_left hi
theorem FD{h nw:List Blk}{i:Nat}{b:Blk}(hi:i < h.length):(h++nw).set i b=h.set i b++nw:=by rw [List.set_append_left _ _ hi]
theorem NG(esz b o n e:Nat)(s:Option Nat)(k:IntKind)(i:Int):eS esz (.slice (some ⟨b,o,s⟩) n e) (some (.int k i)) none none=if e=0\/e=esz then (if 0<=i/\i<=n then some (.slice (some ⟨b,o+i.toNat*esz,s⟩) (n - i.toNat) e) else none) else yd esz ⟨b,o,s⟩ n e (some (.int k i)) none none:=by
 simp only [eS,jm,cN,Option.bind_some];split
 ·split<;>rfl
 ·rfl
theorem NH(esz b o n e:Nat)(s:Option Nat)(k:IntKind)(j:Int):eS esz (.slice (some ⟨b,o,s⟩) n e) none (some (.int k j)) none=if e=0\/e=esz then (if 0<=j/\j<=n then some (.slice (some ⟨b,o,s⟩) j.toNat e) else none) else yd esz ⟨b,o,s⟩ n e none (some (.int k j)) none:=by
 simp only [eS,jm,cN];split
 ·split
  ·simp
  ·rfl
 ·rfl
theorem FE(esz b o n e:Nat)(s:Option Nat)(k k':IntKind)(i j:Int):eS esz (.slice (some ⟨b,o,s⟩) n e) (some (.int k i)) (some (.int k' j)) none=if e=0\/e=esz then (if 0<=i/\i<=j/\j<=n then some (.slice (some ⟨b,o+i.toNat*esz,s⟩) (j.toNat - i.toNat) e) else none) else yd esz ⟨b,o,s⟩ n e (some (.int k i)) (some (.int k' j)) none:=by
 simp only [eS,jm,cN];split
 ·by_cases h1:0<=j/\j<=(n:Int)
  ·rw [if_pos h1];simp only [Option.bind_some];by_cases h2:0<=i/\i<=(j.toNat:Int)
   ·rw [if_pos h2,if_pos (by omega)];rfl
   ·rw [if_neg h2,if_neg (by omega)];rfl
  ·rw [if_neg h1,if_neg (by omega)];rfl
 ·rfl
theorem FF{hp:List Blk}{L:Nat}{H d:List Nat}{l:List Nat}(h0:l≠[])(hs:l.length<=1048576):St.append ⟨hp,L,H,d⟩ true 1 (.slice none 0 0) l.length (u8s l)=some (.slice (some ⟨hp.length,0,some l.length⟩) l.length 1,⟨hp++[.cells l.length true (u8s l)],L,H,d⟩):=by have h1:¬ l.length=0:=fun h=>h0 (List.eq_nil_of_length_eq_zero h);simp only [St.append];rw [if_neg h1,if_pos (by simp [small,qB,c9];omega)];simp
theorem FG{hp:List Blk}{L:Nat}{H d:List Nat}{vs:List Value}(pl:Bool)(esz:Nat):St.append ⟨hp,L,H,d⟩ pl esz (.slice none 0 0) 0 vs=some (.slice none 0 0,⟨hp,L,H,d⟩):=rfl
theorem dY{hp:List Blk}{b:Nat}{x:Blk}(h:hp[b]?=some x):hp.set b x=hp:=by obtain ⟨h1,rfl⟩:=List.getElem?_eq_some_iff.1 h;exact List.set_getElem_self h1
theorem yh{hp:List Blk}{L b g:Nat}{H d:List Nat}{l0 l:List Nat}(hb:hp[b]?=some (.cells g true (u8s l0)))(hL:L<=b)(hh:H.contains b=false)(hs:l0.length+l.length<=1048576)(hg:g<=l0.length:=by first | exact Nat.zero_le _ | (simp;done) | omega) :
  St.append ⟨hp,L,H,d⟩ true 1 (.slice (some ⟨b,0,some g⟩) l0.length 1) l.length (u8s l) =
   some (.slice (some ⟨b,0,some (if l=[] then g else (l0++l).length)⟩) (l0++l).length 1,⟨hp.set b (.cells (if l=[] then g else (l0++l).length) true (u8s (l0++l))),L,H,d⟩):=by
 by_cases h0:l=[]
 ·subst h0;simp only [St.append,List.length_nil,if_true,List.append_nil];rw [dY hb]
 ·have h1:¬ l.length=0:=fun h=>h0 (List.eq_nil_of_length_eq_zero h);have hk:St.blk ⟨hp,L,H,d⟩ ⟨b,0,some g⟩=some (true,u8s l0):=by unfold St.blk;simp only [hh,hb];simp
  simp only [St.append];rw [if_neg h1,if_neg (by simp;omega),hk];simp only [Option.bind_some];rw [if_pos (by simp [c9,qB]),if_pos (by simp [u8s]),if_pos (by simp [small,u8s];omega)];simp only [if_neg h0,bu,qB,Bool.true_or,if_true,Hs,List.length_append,Nat.mul_one]
theorem FH{hp:List Blk}{L:Nat}{H d:List Nat}{l:List Nat}(hF:Fit hp.length L H)(hs:l.length<=1048576) :
  St.append ⟨hp++[.cells 0 true []],L,H,d⟩ true 1 (.slice (some ⟨hp.length,0,some 0⟩) 0 1) l.length (u8s l)=some (.slice (some ⟨hp.length,0,some l.length⟩) l.length 1,⟨hp++[.cells l.length true (u8s l)],L,H,d⟩):=by
 have h:=yh (hp:=hp++[.cells 0 true []]) (L:=L) (H:=H) (d:=d) (b:=hp.length) (g:=0) (l0:=[]) (l:=l) (by rw [dK];rfl) hF.1 hF.jv (by simpa using hs) (Nat.le_refl _);have e:(if l=[] then 0 else l.length)=l.length:=by split<;>simp_all
 simpa only [List.length_nil,List.nil_append,iV,e] using h
theorem FI{hp:List Blk}{L b:Nat}{H d:List Nat}{l0 l:List Nat}(hb:hp[b]?=some (.cells l0.length true (u8s l0)))(hL:L<=b)(hh:H.contains b=false)(hs:l0.length+l.length<=1048576) :
  St.append ⟨hp,L,H,d⟩ true 1 (.slice (some ⟨b,0,some l0.length⟩) l0.length 1) l.length (u8s l) =
   some (.slice (some ⟨b,0,some (l0++l).length⟩) (l0++l).length 1,⟨hp.set b (.cells (l0++l).length true (u8s (l0++l))),L,H,d⟩):=by
 have h:=yh (d:=d) hb hL hh hs (Nat.le_refl _);have e:(if l=[] then l0.length else (l0++l).length)=(l0++l).length:=by split<;>simp_all
 rwa [e] at h
theorem Jc(n:Nat):((n:Int)+1).toNat=n+1:=by omega
theorem Rn{hp nw:List Blk}{fr:Fr}{L:Nat}{H:List Nat}(k:Nat)(hk:k<=nw.length)(hv:∀ p∈fr,∀ r∈refs p.2,r < hp.length+k):jo (hp.length+k) fr ⟨hp++nw,L,H,[]⟩=some (fr,⟨hp++nw.take k,L,H,[]⟩):=by
 have e:hp++nw=(hp++nw.take k)++nw.drop k:=by rw [List.append_assoc,List.take_append_drop]
 rw [e];exact NF (by simp;omega) hv
def WR(esz o m:Nat):Option (Bool×List Value)->Option (Nat×List Value)
 | some (_,cs)=>if o+m*esz<=cs.length then some (m,(cs.drop o).take (m*esz)) else none
 | none=>none
theorem Jd(esz o m:Nat)(pl:Bool)(cs:List Value):WR esz o m (some (pl,cs))=if o+m*esz<=cs.length then some (m,(cs.drop o).take (m*esz)) else none:=rfl
theorem Je(σ:St)(esz b o m e:Nat)(s:Option Nat):St.news σ esz (.slice (some ⟨b,o,s⟩) m e)=WR esz o m (St.blk σ ⟨b,o,s⟩):=by simp only [St.news];cases St.blk σ ⟨b,o,s⟩<;>rfl
theorem NI(σ:St)(esz:Nat):St.news σ esz (.slice none 0 0)=some (0,[]):=rfl
def Z4(o n:Nat):Option (Bool×List Value)->Option (List UInt8)
 | some (_,cs)=>if o+n<=cs.length then gL ((cs.drop o).take n) else none
 | none=>none
theorem NJ(o n:Nat)(pl:Bool)(cs:List Value):Z4 o n (some (pl,cs))=if o+n<=cs.length then gL ((cs.drop o).take n) else none:=rfl
theorem str_slice(σ:St)(b o n e:Nat)(s:Option Nat):St.str σ (.slice (some ⟨b,o,s⟩) n e)=Z4 o n (St.blk σ ⟨b,o,s⟩):=by simp only [St.str];cases St.blk σ ⟨b,o,s⟩<;>rfl
theorem Ro(σ:St):St.str σ (.slice none 0 0)=some []:=rfl
theorem Rp(l:List Nat):(u8s l).take l.length=u8s l:=List.take_of_length_le (by simp [u8s])
theorem NK{l m:List UInt8}(h:l.length+m.length<=1099511627776):bV .add (.string ⟨l.toArray⟩) (.string ⟨m.toArray⟩)=some (.string ⟨(l++m).toArray⟩):=by rw [Rj,if_pos h]
theorem Rd.whole{hp:List Blk}{L b g e:Nat}{H d:List Nat}{pl:Bool}{l:List Nat}(h:hp[b]?=some (.cells g pl (u8s l)))(hh:H.contains b=false)(hb:By l)(he:e=0\/e=1):Rd ⟨hp,L,H,d⟩ (.slice (some ⟨b,0,some g⟩) l.length e) l:=
 ⟨hb,.inr ⟨b,0,g,e,pl,u8s l,rfl,he,hh,h,by simp [u8s],by rw [List.drop_zero,List.take_of_length_le (by simp [u8s])]⟩⟩
theorem Rd.refs{σ:St}{v:Value}{l:List Nat}(h:Rd σ v l):∀ r∈refs v,r < σ.heap.length:=by
 rcases h.form with ⟨rfl,rfl⟩ | ⟨b,o,g,e,pl,cs,rfl,_,hh,hb,_⟩
 ·simp [AM.refs,bw,aI]
 ·have:=(List.getElem?_eq_some_iff.1 hb).1;simp [AM.refs,bw,aI];omega
end AM
end Go.Proofs.YtgdpefeomemllaaGreat
end
section
namespace Go.Proofs.YtgdpefeomemllaaGreat
namespace AM
open Go Go.RowKit
theorem Rq(esz b o n e:Nat)(s:Option Nat)(k1 k2 k3:IntKind)(i j m:Int):eS esz (.slice (some ⟨b,o,s⟩) n e) (some (.int k1 i)) (some (.int k2 j)) (some (.int k3 m))=if e=0\/e=esz then (if 0<=i/\i<=j/\j<=m/\m<=n then some (.slice (some ⟨b,o+i.toNat*esz,s⟩) (j.toNat - i.toNat) 0) else none) else yd esz ⟨b,o,s⟩ n e (some (.int k1 i)) (some (.int k2 j)) (some (.int k3 m)):=by
 simp only [eS,jm,cN];split
 ·by_cases h1:0<=m/\m<=(n:Int)
  ·rw [if_pos h1];simp only [Option.bind_some];by_cases h2:0<=j/\j<=(m.toNat:Int)
   ·rw [if_pos h2];simp only [Option.bind_some];by_cases h3:0<=i/\i<=(j.toNat:Int)
    ·rw [if_pos h3,if_pos (by omega)];rfl
    ·rw [if_neg h3,if_neg (by omega)];rfl
   ·rw [if_neg h2,if_neg (by omega)];rfl
  ·rw [if_neg h1,if_neg (by omega)];rfl
 ·rfl
theorem vo{lo k i:Nat}(h:i < lo\/lo+k<=i):(List.range' lo k).contains i=false:=by have:=gT (H:=[]) h;rw [List.append_nil] at this;rw [this];rfl
theorem Fit.nil{n L:Nat}(h:L<=n):Fit n L []:=⟨h,Low.nil n⟩
end AM
end Go.Proofs.YtgdpefeomemllaaGreat
end
section
namespace Go.Proofs.YtgdpefeomemllaaGreat
namespace AM
open Go Go.RowKit
def acw:=And.intro @Ur<|And.intro @Ia<|And.intro @MN<|And.intro @MP<|And.intro @E1<|And.intro @MQ<|And.intro @Ij<|And.intro @MR<|And.intro @Us<|And.intro @P7<|And.intro @PS<|And.intro @E2<|And.intro @Nt<|And.intro @Nu<|And.intro @Nv<|And.intro @MS<|And.intro @Il<|And.intro @PT<|And.intro @PU<|And.intro @MT<|And.intro @PV<|And.intro @XE<|And.intro @PW<|And.intro @MU<|And.intro @MV<|And.intro @Ut<|And.intro @Uu<|And.intro @XF<|And.intro @PX<|And.intro @MW<|And.intro @Im<|And.intro @MX<|And.intro @MY<|And.intro @MZ<|And.intro @Io<|And.intro @Uv<|And.intro @Uw<|And.intro @Ux<|And.intro @PY<|And.intro @PZ<|And.intro @XG<|And.intro @Uy<|And.intro @M4<|And.intro @M5<|And.intro @Iq<|And.intro @Ir<|And.intro @P8<|And.intro @M6<|And.intro @QE<|And.intro @AB<|And.intro @xO<|And.intro @xP<|And.intro @Cy<|And.intro @M7<|And.intro @Is<|And.intro @zW<|And.intro @It<|And.intro @E3<|And.intro @Iu<|And.intro @QU<|And.intro @QV<|And.intro @QW<|And.intro @IV<|And.intro @QK<|And.intro @Fx<|And.intro @I0<|And.intro @Nn<|And.intro @I1<|And.intro @No<|And.intro @QL<|And.intro @Np<|And.intro @I3<|And.intro @I2<|And.intro @Nq<|And.intro @Nr<|And.intro @Ns<|And.intro @QI<|And.intro @UG<|And.intro @CQ<|And.intro @Jb<|And.intro @Rl<|And.intro @w64<|And.intro @wu8<|And.intro @acv<|And.intro @Z3<|And.intro @zT<|And.intro @P9<|And.intro @Qa<|And.intro @NA<|And.intro @NB<|And.intro @I8<|And.intro @Fz<|And.intro @FA<|And.intro @I9<|And.intro @QN<|And.intro @QO<|And.intro @QS<|And.intro @Qb<|And.intro @Qg<|And.intro @Qh<|And.intro @FB<|And.intro @Nw<|And.intro @Nx<|And.intro @Ny<|And.intro @Nz<|And.intro @I4<|And.intro @CN<|And.intro @yg<|And.intro @Q1<|And.intro @Q3<|And.intro @Q4<|And.intro @Q5<|And.intro @UH<|And.intro @I5<|And.intro @Fy<|And.intro @XK<|And.intro @Q6<|And.intro @UI<|And.intro @Qq<|And.intro @Qr<|And.intro @Nc<|And.intro @Qt<|And.intro @UD<|And.intro @Nh<|And.intro @Ng<|And.intro @Qs<|And.intro @IG<|And.intro @jW<|And.intro @Q7<|And.intro @Q8<|And.intro @Nl<|And.intro @QH<|And.intro @IY<|And.intro @IZ<|And.intro @M8<|And.intro @gu<|And.intro @iU<|And.intro @AE<|And.intro @QY<|And.intro @QZ<|And.intro @Q0<|And.intro @xZ<|And.intro @uJ<|And.intro @uK<|And.intro @E4<|And.intro @Qe<|@E5
def acy:=And.intro @Kz<|And.intro @E6<|And.intro @AF<|And.intro @AH<|And.intro @KB<|And.intro @Qk<|And.intro @Fb<|And.intro @KC<|And.intro @Fc<|And.intro @Ql<|And.intro @AI<|And.intro @AJ<|And.intro @KD<|And.intro @AK<|And.intro @yc<|And.intro @KE<|And.intro @Fe<|And.intro @Nb<|And.intro @XI<|And.intro @Qo<|And.intro @AL<|And.intro @ID<|And.intro @IE<|And.intro @Nd<|And.intro @UC<|And.intro @IF<|And.intro @Qu<|And.intro @Qy<|And.intro @Qx<|And.intro @IK<|And.intro @IL<|And.intro @Fk<|And.intro @Qz<|And.intro @Ni<|And.intro @IP<|And.intro @Fm<|And.intro @IQ<|And.intro @QB<|And.intro @Nj<|And.intro @Iw<|And.intro @E7<|And.intro @M9<|And.intro @Iy<|And.intro @Na<|And.intro @Iz<|And.intro @x9<|And.intro @uL<|And.intro @rL<|And.intro @AG<|And.intro @IB<|And.intro @ya<|And.intro @Ff<|And.intro @CD<|And.intro @Qm<|And.intro @Uz<|And.intro @UA<|And.intro @UB<|And.intro @IC<|And.intro @Fg<|And.intro @CE<|And.intro @CF<|And.intro @Nf<|And.intro @CG<|And.intro @zX<|And.intro @II<|And.intro @IJ<|And.intro @Fi<|And.intro @zY<|And.intro @IM<|And.intro @Fl<|And.intro @CI<|And.intro @Ct<|And.intro @rJ<|And.intro @PR<|And.intro @Ic<|And.intro @Cu<|And.intro @MO<|And.intro @Ie<|And.intro @zU<|And.intro @zV<|And.intro @E0<|And.intro @CJ<|And.intro @IN<|And.intro @IU<|And.intro @IS<|And.intro @IT<|And.intro @CK<|And.intro @Fp<|And.intro @Ft<|And.intro @yf<|And.intro @QC<|And.intro @write_eq<|And.intro @Fu<|And.intro @EK<|And.intro @EL<|And.intro @EM<|And.intro @EN<|And.intro @EO<|And.intro @EP<|And.intro @ER<|And.intro @ES<|And.intro @ET<|And.intro @xW<|And.intro @xX<|And.intro @EU<|And.intro @EV<|And.intro @NC<|And.intro @Rf<|And.intro @ND<|And.intro @Uq<|And.intro @Rg<|And.intro @Rh<|And.intro @Ri<|And.intro @Q9<|And.intro @Ra<|And.intro @Rb<|And.intro @UK<|And.intro @gj<|And.intro @dK<|And.intro @UE<|And.intro @iV<|And.intro @jX<|And.intro @FD<|And.intro @gT<|And.intro @vo<|And.intro @NG<|And.intro @NH<|And.intro @FE<|And.intro @UN<|And.intro @FG<|And.intro @str_slice<|And.intro @NJ<|And.intro @Ro<|And.intro @Rp<|And.intro @qA<|And.intro @aR<|And.intro @AP<|And.intro @NK<|And.intro @Je<|And.intro @Jd<|And.intro @NI<|And.intro @Jc<|And.intro @CM<|And.intro @Nk<|And.intro @IX<|And.intro @Fv<|@Nm
def syA:=And.intro acw acy
def syB:=And.intro @List.isEmpty_nil.{0}<|And.intro @List.isEmpty_cons.{0}<|And.intro @List.nil_append.{0}<|And.intro @Option.isNone_none.{0}<|And.intro @Option.isNone_some.{0}<|And.intro @Option.getD_some.{0}<|And.intro @Option.getD_none.{0}<|And.intro @decide_true<|And.intro @decide_false<|And.intro @decide_eq_true_eq<|And.intro @decide_eq_false_iff_not<|And.intro @decide_not<|And.intro @Bool.not_true<|And.intro @Bool.not_false<|And.intro @Bool.not_not<|And.intro @Bool.not_eq_true'<|And.intro @Bool.and_true<|And.intro @Bool.true_and<|And.intro @Bool.and_false<|And.intro @Bool.false_and<|And.intro @Bool.and_self<|And.intro @Bool.or_true<|And.intro @Bool.true_or<|And.intro @Bool.or_false<|And.intro @Bool.false_or<|And.intro @Bool.or_self<|And.intro @Bool.false_eq_true<|And.intro @Bool.and_eq_true<|And.intro @Bool.or_eq_true<|And.intro @and_true<|And.intro @true_and<|And.intro @and_false<|And.intro @false_and<|And.intro @or_true<|And.intro @true_or<|And.intro @or_false<|And.intro @false_or<|And.intro @not_true_eq_false<|And.intro @not_false_eq_true<|And.intro @Option.map_some.{0,0}<|And.intro @Option.map_none.{0,0}<|And.intro @Option.bind_some.{0,0}<|And.intro @Option.bind_none.{0,0}<|And.intro @Nat.testBit_eq_decide_div_mod_eq<|And.intro @Nat.zero_add<|And.intro @Nat.add_zero<|And.intro @Nat.sub_self<|And.intro @Nat.le_refl<|And.intro @Nat.lt_irrefl<|And.intro @Nat.mul_one<|And.intro @Int.mul_one<|And.intro @Int.one_mul<|And.intro @Int.sub_zero<|And.intro @Int.add_zero<|And.intro @Int.zero_add<|And.intro @beq_iff_eq.{0}<|And.intro @bne_iff_ne.{0}<|And.intro @bne_self_eq_false.{0}<|And.intro @bne_eq_false_iff_eq.{0}<|And.intro @beq_eq_false_iff_ne.{0}<|And.intro @ne_eq.{1}<|And.intro @beq_self_eq_true.{0}<|And.intro @List.all_cons.{0}<|And.intro @List.all_nil.{0}<|And.intro @List.flatMap_cons.{0,0}<|And.intro @List.flatMap_nil.{0,0}<|And.intro @List.append_nil.{0}<|And.intro @List.append_assoc.{0}<|And.intro @List.cons_append.{0}<|And.intro @List.length_append.{0}<|And.intro @List.length_set.{0}<|And.intro @Int.cast_ofNat_Int<|And.intro @List.length_cons.{0}<|And.intro @List.length_nil.{0}<|And.intro @List.getElem?_cons_zero.{0}<|And.intro @List.getElem?_cons_succ.{0}<|And.intro @List.set_cons_zero.{0}<|And.intro @List.set_cons_succ.{0}<|And.intro @List.take_succ_cons.{0}<|And.intro @List.take_zero.{0}<|And.intro @List.drop_zero.{0}<|And.intro @List.drop_succ_cons.{0}<|And.intro @List.contains_nil.{0}<|And.intro @Int.toNat_natCast<|And.intro @Int.lt_irrefl<|And.intro @Nat.min_eq_left<|@Nat.min_eq_right
theorem dis{p:Prop}(h:p:=by first | omega | (simp only [lnE]<;>omega) | (refine Fit.mono ‹Fit _ _ _› ?_<;>(simp only [lnE]<;>omega)) | (refine Fit.draw ‹Fit _ _ _› ?_ ?_<;>(simp only [lnE]<;>omega)) | (refine Fit.hid1 ‹Fit _ _ _› ?_ ?_<;>(simp only [lnE]<;>omega)) | (refine Fit.hidc1 ‹Fit _ _ _› ?_ ?_<;>(simp only [lnE]<;>omega)) | (refine Fit.hidc2 ‹Fit _ _ _› ?_ ?_ ?_<;>(simp only [lnE]<;>omega)) | (refine Fit.draw1 ‹Fit _ _ _› ?_ ?_ ?_<;>(simp only [lnE]<;>omega)) | (refine Fit.range0 ?_ ?_<;>(simp only [lnE]<;>omega)) | (intros;contradiction) | (intros;rename_i hx;injection hx;contradiction)):p:=h
def syC:=And.intro @bX.eq_1<|And.intro @bX.eq_2<|And.intro @bA.eq_1<|And.intro @eqF.eq_1<|And.intro @aeq.eq_1<|And.intro @aeq.eq_2<|And.intro @aeq.eq_3<|And.intro @aeq.eq_4<|And.intro @aeq.eq_5<|And.intro @aeq.eq_6<|And.intro @aeq.eq_7<|And.intro @aeq.eq_8<|And.intro @aeq.eq_9<|And.intro @aeq.eq_10<|And.intro @aeq.eq_11<|And.intro @aeq.eq_12<|And.intro @aeq.eq_13<|And.intro @bG.eq_1<|And.intro @bG.eq_2<|And.intro @bG.eq_3<|And.intro @jK.eq_1<|And.intro @jK.eq_2<|And.intro @jK.eq_3<|And.intro @jK.eq_4<|And.intro @bM.eq_1<|And.intro @bM.eq_2<|And.intro @cellsOf.eq_1<|And.intro @cellsOf.eq_2<|And.intro @fill.eq_1<|And.intro @fill.eq_2<|And.intro @putAt.eq_1<|And.intro @putAt.eq_2<|And.intro @aW.eq_1<|And.intro @aW.eq_2<|And.intro @aW.eq_3<|And.intro @aW.eq_4<|And.intro @aW.eq_5<|And.intro @sc.eq_1<|And.intro @sc.eq_2<|And.intro @sc.eq_3<|And.intro @sc.eq_4<|And.intro @sc.eq_5<|And.intro @sc.eq_6<|And.intro @sc.eq_7<|And.intro @sc.eq_8<|And.intro @sc.eq_9<|And.intro @sc.eq_10<|And.intro @sc.eq_11<|And.intro @Af.eq_1<|And.intro @Af.eq_2<|And.intro @refs.eq_1<|And.intro @refs.eq_2<|And.intro @bw.eq_1<|And.intro @bw.eq_2<|And.intro @bw.eq_3<|And.intro @aI.eq_1<|And.intro @aI.eq_2<|And.intro @aI.eq_3<|And.intro @aI.eq_4<|@aI.eq_5
theorem FJ:([]:List Blk).length=0:=rfl
def lnE:=And.intro (@List.length_append Blk)<|And.intro (@List.length_cons Blk)<|And.intro FJ<|And.intro (@List.length_set Blk)<|And.intro @AP<|And.intro @aR<|And.intro (@List.length_set Nat)<|And.intro (@List.length_append Nat)<|And.intro (@List.length_append UInt8)<|And.intro (@List.length_cons Nat)<|And.intro @P5<|And.intro @M1<|And.intro @Ip<|And.intro @P6<|And.intro @M3<|And.intro @P0<|And.intro @M0<|And.intro @or_false<|And.intro (@eq_self.{1} Nat)<|And.intro @or_true<|And.intro @true_or @and_true
end AM
end Go.Proofs.YtgdpefeomemllaaGreat
end
namespace Go.Proofs.YtgdpefeomemllaaGreat
namespace aE
open Go AM
abbrev T(n:Nat):Operand:=.tmp n
abbrev C(v:Value):Operand:=.const v
abbrev Ki(n:Int):Operand:=.const (.int .i64 n)
abbrev Kb(b:Bool):Operand:=.const (.bool b)
abbrev D(d:Nat)(o:AOp):aj:=⟨some d,none,0,true,o⟩
abbrev Mv(d x:Nat):aj:=⟨some d,none,0,true,.mv (.tmp x)⟩
abbrev Gd(d g:Nat)(b:Bool)(o:AOp):aj:=⟨some d,some (g,b),0,true,o⟩
abbrev E(o:AOp):aj:=⟨none,none,0,true,o⟩
abbrev Fq(d b:Nat)(o:AOp):aj:=⟨some d,none,b,false,o⟩
abbrev Gq(d g:Nat)(w:Bool)(b:Nat)(o:AOp):aj:=⟨some d,some (g,w),b,false,o⟩
def sy:=And.intro @Fq.eq_1<|And.intro @Gq.eq_1<|And.intro syA<|And.intro syB<|And.intro syC<|And.intro @Mv.eq_1<|And.intro @Gd.eq_1<|And.intro @Ki.eq_1<|And.intro @Kb.eq_1<|And.intro @D.eq_1<|And.intro @E.eq_1<|And.intro @T.eq_1<|@C.eq_1
noncomputable def cfn(f:Func):AFn:=(cA Tryz.prog f).getD ⟨.skip,[]⟩
theorem XM{f:Func}(h:(cA Tryz.prog f).isSome=true:=by kernel_rfl):cA Tryz.prog f=some (cfn f):=by
 unfold cfn;cases e:cA Tryz.prog f with
 | none=>rw [e] at h;cases h
 | some x=>rfl
noncomputable def pf(i:Nat):Func:=(Tryz.prog.funcs[i]?).getD Tryz.f9
theorem ckw {P : Program} {r : List (Nat × AFn)} (h : lK P (.base r)) : ∀ {l : List (Nat × AFn)}, (l.map fun p => (P.funcs[p.1]?).bind (cA P)) = l.map (fun p => some p.2) -> (l.all fun p => (P.funcs[p.1]?).any fun f => decide (f.name ≠ "runtime.NumGoroutine")) = true -> lK P (.base (l ++ r))
 | [],_,_=>h
 | (i,a)::l,e,k=>by simp only [List.map_cons,List.cons.injEq,Option.bind_eq_some_iff] at e;obtain ⟨⟨f,e1,e2⟩,e3⟩:=e;simp only [List.all_cons,e1,Option.any_some,Bool.and_eq_true,decide_eq_true_eq] at k;exact lK.cons e1 e2 k.1 (ckw h e3 k.2)
theorem ckc {P : Program} {g : Nat -> AFn} (hg : ∀ i f, P.funcs[i]? = some f -> (cA P f).isSome = true -> cA P f = some (g i)) : ∀ {s : List Nat}, (s.all fun i => (P.funcs[i]?).any fun f => (cA P f).isSome && decide (f.name ≠ "runtime.NumGoroutine")) = true -> lK P (.base (s.map fun i => (i, g i)))
 | [],_=>lK.nil
 | i::l,k=>by
  simp only [List.all_cons,Bool.and_eq_true] at k;cases e:P.funcs[i]? with
  | none=>rw [e] at k;cases k.1
  | some f=>
   rw [e] at k;simp only [Option.any_some,Bool.and_eq_true,decide_eq_true_eq] at k;exact lK.cons e (hg i f e k.1.1) k.1.2 (ckc hg k.2)
theorem cgf(i:Nat)(f:Func)(e:Tryz.prog.funcs[i]?=some f)(h:(cA Tryz.prog f).isSome=true):cA Tryz.prog f=some (cfn (pf i)):=by
 have:pf i=f:=by unfold pf;rw [e];rfl
 rw [this];exact XM h
end aE
namespace aE
open Go AM
def XN:az:=(.block 3 (.seq (.region [
 Mv 55 12,
 D 56 (.call 46 [(T 55)]),
 Mv 16 56])
 (.seq (.region [
 Mv 58 12,
 D 59 (.call 47 [(T 58)]),
 Mv 57 59,
 D 60 (.ext (T 57) 0),
 D 61 (.ext (T 57) 1),
 D 62 (.ext (T 57) 2),
 Mv 17 60,
 Mv 18 61,
 Mv 19 62])
 (.seq (.region [
 Mv 64 3,
 Mv 65 12,
 D 66 (.call 49 [(T 65)]),
 D 67 (.call 48 [(T 64),(T 66)]),
 Mv 63 67,
 D 68 (.ext (T 63) 0),
 D 69 (.ext (T 63) 1),
 Mv 20 68,
 Mv 21 69])
 (.seq (.seq (.region [
 Mv 70 12,
 D 71 (.call 50 [(T 70)]),
 Mv 72 1,
 D 73 (.bin .gtr (T 71) (T 72)),
 Mv 74 73,
 Gd 75 74 false (.mv (T 21)),
 Gd 76 74 false (.bin .eql (T 75) (Ki 0)),
 Gd 77 74 false (.mv (T 76)),
 Gd 78 77 true (.mv (T 12)),
 Gd 79 77 true (.call 46 [(T 78)]),
 Gd 80 77 true (.mv (T 16)),
 Gd 81 77 true (.bin .sub (T 79) (T 80)),
 Gd 82 77 true (.mv (T 20)),
 Gd 83 77 true (.bin .gtr (T 81) (T 82)),
 Gd 84 74 false (.pick (T 77) (T 83) (Kb false)),
 D 85 (.pick (T 74) (Kb true) (T 84))])
 (.cond (T 85)
 (.seq (.region [
 D 8 (.mv (C (.slice none 0 0))),
 D 9 (.mv (C (.int .u8 0))),
 D 10 (.mv (Ki 0)),
 D 11 (.mv (Kb false))])
 .ret)
 .skip))
 (.seq (.seq (.region [
 Mv 86 18,
 D 87 (.bin .eql (T 86) (C (.int .u8 1)))])
 (.cond (T 87)
 (.seq (.region [
 Mv 88 14,
 Mv 89 17,
 D 90 (.dO true 1 1 [(.int .u8 0)] [(0,1,(T 89))]),
 D 91 (.append true 1 (T 88) (T 90)),
 Mv 14 91])
 (.exit 3))
 .skip))
 (.seq (.seq (.region [
 Mv 92 18,
 D 93 (.bin .neq (T 92) (C (.int .u8 2))),
 Mv 94 93,
 Gd 95 94 false (.mv (T 15)),
 Gd 96 94 false (.mv (T 0)),
 Gd 97 94 false (.len (T 96)),
 Gd 98 94 false (.bin .geq (T 95) (T 97)),
 D 99 (.pick (T 94) (Kb true) (T 98))])
 (.cond (T 99)
 (.seq (.region [
 Mv 100 14,
 Mv 101 18,
 Mv 102 19,
 Mv 103 18,
 D 104 (.bin .neq (T 103) (C (.int .u8 2))),
 Mv 8 100,
 Mv 9 101,
 Mv 10 102,
 Mv 11 104])
 .ret)
 .skip))
 (.exit 2))))))))
def k7:az:=(.seq (.block 1 (.seq (.seq (.region [
 Mv 37 15,
 Mv 38 0,
 D 39 (.len (T 38)),
 D 40 (.bin .lss (T 37) (T 39))])
 (.cond (T 40)
 (.region [
 Mv 41 12,
 Mv 42 0,
 Mv 43 15,
 Mv 44 15,
 Mv 45 2,
 D 46 (.bin .add (T 44) (T 45)),
 Mv 47 0,
 D 48 (.len (T 47)),
 D 49 (.mm false [(T 46),(T 48)]),
 D 50 (.slice 1 (T 42) (some (T 43)) (some (T 49)) none),
 D 51 (.dO false 1 1 [(.slice none 0 0)] [(0,1,(T 50))]),
 D 52 (.call 44 [(T 41),(T 51)])])
 (.region [
 Mv 53 12,
 D 54 (.call 45 [(T 53)])])))
 (.block 2 (.loop [15,2,0,12,1,3,14] XN))))
 (.region [
 Mv 34 15,
 Mv 35 2,
 D 36 (.bin .add (T 34) (T 35)),
 Mv 15 36]))
def Jf:AFn:=⟨(.seq (.region [
 D 8 (.mv (C (.slice none 0 0))),
 D 9 (.mv (C (.int .u8 0))),
 D 10 (.mv (Ki 0)),
 D 11 (.mv (Kb false))])
 (.seq (.region [
 Mv 23 1,
 D 24 (.call 43 [(T 23)]),
 Mv 22 24,
 D 25 (.ext (T 22) 0),
 D 26 (.ext (T 22) 1),
 Mv 12 25,
 Mv 13 26])
 (.seq (.seq (.region [
 Mv 27 13,
 D 28 (.bin .neq (T 27) (Ki 0)),
 Mv 29 28,
 Gd 30 29 false (.mv (T 12)),
 Gd 31 29 false (.eqs false .ptr (T 30) (C (.pointer none))),
 D 32 (.pick (T 29) (Kb true) (T 31))])
 (.cond (T 32)
 (.seq (.region [
 Mv 33 13,
 D 8 (.mv (C (.slice none 0 0))),
 D 9 (.mv (C (.int .u8 0))),
 Mv 10 33,
 D 11 (.mv (Kb false))])
 .ret)
 .skip))
 (.seq (.region [
 D 14 (.mv (C (.slice none 0 0)))])
 (.seq (.region [
 D 15 (.mv (Ki 0))])
 (.block 0 (.loop [15,2,0,12,1,3,14] k7))))))),[.tmp 8,.tmp 9,.tmp 10,.tmp 11]⟩
def yj:az:=(.seq (.region [
 D 10 (.bin .lss (T 9) (T 8))])
 (.seq (.cond (T 10)
 .skip
 (.exit 0))
 (.seq (.block 1 (.seq (.region [
 Mv 11 9,
 D 12 (.aD 1 (T 7) (T 9)),
 D 13 (.load none (T 12)),
 Mv 4 11,
 Mv 5 13])
 (.seq (.seq (.region [
 Mv 14 5,
 D 15 (.bin .eql (T 14) (Ki 0))])
 (.cond (T 15)
 (.seq (.region [
 Mv 16 4,
 Mv 3 16])
 (.exit 1))
 .skip))
 (.region [
 Mv 17 2,
 Mv 18 0,
 Mv 19 5,
 D 20 (.bin .sub (T 19) (Ki 1)),
 D 21 (.aD 1 (T 18) (T 20)),
 D 22 (.load none (T 21)),
 D 23 (.dO true 1 1 [(.int .u8 0)] [(0,1,(T 22))]),
 D 24 (.append true 1 (T 17) (T 23)),
 Mv 2 24]))))
 (.region [
 D 25 (.bin .add (T 9) (Ki 1)),
 Mv 9 25]))))
def XO:AFn:=⟨(.seq (.region [
 D 2 (.mv (C (.slice none 0 0))),
 D 3 (.mv (Ki 0))])
 (.seq (.seq (.region [
 Mv 6 0,
 D 7 (.call 53 [(T 6)]),
 D 8 (.len (T 7)),
 D 9 (.mv (Ki 0))])
 (.block 0 (.loop [3,9,8,7,0,2] yj)))
 (.seq (.region [
 Mv 26 2,
 Mv 27 3,
 Mv 2 26,
 Mv 3 27])
 .ret))),[.tmp 2,.tmp 3]⟩
def UP:AFn:=⟨(.seq (.region [
 D 4 (.mv (C (.slice none 0 0))),
 D 5 (.mv (Ki 0))])
 (.seq (.region [
 Mv 21 0,
 D 22 (.len (T 21)),
 D 23 (.bin .mul (Ki 2) (T 22)),
 Mv 24 1,
 D 25 (.bin .mul (Ki 4) (T 24)),
 D 26 (.bin .add (T 23) (T 25)),
 D 27 (.bin .add (T 26) (Ki 1)),
 D 28 (.call 54 [(T 27)]),
 Mv 20 28,
 D 29 (.ext (T 20) 0),
 D 30 (.ext (T 20) 1),
 Mv 6 29,
 Mv 7 30])
 (.seq (.seq (.region [
 Mv 31 7,
 D 32 (.bin .neq (T 31) (Ki 0)),
 Mv 33 32,
 Gd 34 33 false (.mv (T 6)),
 Gd 35 33 false (.eqs false .ptr (T 34) (C (.pointer none))),
 D 36 (.pick (T 33) (Kb true) (T 35))])
 (.cond (T 36)
 (.seq (.region [
 D 4 (.mv (C (.slice none 0 0))),
 D 5 (.mv (Ki 0))])
 .ret)
 .skip))
 (.seq (.region [
 Mv 38 6,
 Mv 39 0,
 D 40 (.len (T 39)),
 D 41 (.call 55 [(T 38),(T 40)]),
 Mv 37 41,
 D 42 (.ext (T 37) 0),
 D 43 (.ext (T 37) 1),
 D 8 (.alloc true [(.int .i64 0),(.int .i64 0)]),
 E (.store 2 (T 8) (T 42)),
 Mv 9 43])
 (.seq (.region [
 Mv 45 6,
 Mv 46 0,
 D 47 (.len (T 46)),
 D 48 (.call 55 [(T 45),(T 47)]),
 Mv 44 48,
 D 49 (.ext (T 44) 0),
 D 50 (.ext (T 44) 1),
 D 10 (.alloc true [(.int .i64 0),(.int .i64 0)]),
 E (.store 2 (T 10) (T 49)),
 Mv 11 50])
 (.seq (.region [
 Mv 52 6,
 Mv 53 1,
 D 54 (.bin .mul (Ki 4) (T 53)),
 D 55 (.call 55 [(T 52),(T 54)]),
 Mv 51 55,
 D 56 (.ext (T 51) 0),
 D 57 (.ext (T 51) 1),
 D 12 (.alloc true [(.int .i64 0),(.int .i64 0)]),
 E (.store 2 (T 12) (T 56)),
 Mv 13 57])
 (.seq (.region [
 Mv 58 6,
 D 59 (.load (some 2) (T 8)),
 Mv 60 0,
 D 61 (.call 56 [(T 58),(T 59),(Ki 0),(T 60)])])
 (.seq (.seq (.region [
 Mv 62 1,
 D 63 (.bin .eql (T 62) (Ki 0))])
 (.cond (T 63)
 (.seq (.region [
 Mv 65 6,
 D 66 (.load (some 2) (T 8)),
 D 67 (.call 57 [(T 65),(T 66)]),
 Mv 64 67,
 D 68 (.ext (T 64) 0),
 D 69 (.ext (T 64) 1),
 D 70 (.ext (T 64) 2),
 Mv 14 68,
 Mv 15 69,
 Mv 16 70])
 (.seq (.region [
 Mv 71 6,
 D 72 (.load (some 2) (T 8)),
 D 73 (.call 58 [(T 71),(T 72)]),
 Mv 74 14,
 Mv 4 73,
 Mv 5 74])
 .ret))
 .skip))
 (.seq (.region [
 Mv 76 6,
 D 77 (.load (some 2) (T 8)),
 D 78 (.load (some 2) (T 10)),
 D 79 (.load (some 2) (T 12)),
 D 80 (.call 59 [(T 76),(T 77),(T 78),(T 79)]),
 Mv 75 80,
 D 81 (.ext (T 75) 0),
 D 82 (.ext (T 75) 1),
 D 83 (.ext (T 75) 2),
 Mv 17 81,
 Mv 18 82,
 Mv 19 83])
 (.seq (.region [
 Mv 84 6,
 D 85 (.load (some 2) (T 10)),
 D 86 (.call 58 [(T 84),(T 85)]),
 Mv 87 17,
 Mv 4 86,
 Mv 5 87])
 .ret)))))))))),[.tmp 4,.tmp 5]⟩
def XP:AFn:=⟨(.seq (.region [
 D 4 (.mv (Kb false))])
 (.seq (.region [
 Mv 8 0,
 Mv 9 1,
 D 10 (.call 60 [(T 8),(T 9)]),
 Mv 7 10,
 D 11 (.ext (T 7) 0),
 D 12 (.ext (T 7) 1),
 Mv 5 11,
 Mv 6 12])
 (.seq (.region [
 Mv 13 6,
 D 14 (.bin .eql (T 13) (Ki 0)),
 Mv 4 14])
 .ret))),[.tmp 4]⟩
def CR:az:=(.seq (.region [
 D 15 (.bin .lss (T 14) (T 13))])
 (.seq (.cond (T 15)
 .skip
 (.exit 0))
 (.seq (.block 1 (.seq (.region [
 Mv 16 14,
 D 17 (.aD 1 (T 12) (T 14)),
 D 18 (.load none (T 17)),
 Mv 5 16,
 Mv 6 18])
 (.region [
 Mv 19 4,
 Mv 20 6,
 Mv 21 5,
 D 22 (.aD 1 (T 19) (T 20)),
 E (.store 1 (T 22) (T 21))])))
 (.region [
 D 23 (.bin .add (T 14) (Ki 1)),
 Mv 14 23]))))
def XQ:AFn:=⟨(.seq (.region [
 D 2 (.mv (C (.slice none 0 0)))])
 (.seq (.region [
 Mv 7 0,
 D 8 (.call 114 [(T 7)]),
 Mv 3 8])
 (.seq (.region [
 Mv 9 3,
 D 10 (.len (T 9)),
 D 11 (.eA true 1 [(.int .i64 0)] (T 10) (T 10)),
 Mv 4 11])
 (.seq (.seq (.region [
 Mv 12 3,
 D 13 (.len (T 12)),
 D 14 (.mv (Ki 0))])
 (.block 0 (.loop [14,13,12,4] CR)))
 (.seq (.region [
 Mv 24 4,
 Mv 2 24])
 .ret))))),[.tmp 2]⟩
def XR:AFn:=⟨(.seq (.region [
 D 2 (.mv (C (.pointer none))),
 D 3 (.mv (Ki 0))])
 (.seq (.seq (.region [
 Mv 4 0,
 D 5 (.bin .lss (T 4) (Ki 1)),
 Mv 6 5,
 Gd 7 6 false (.mv (T 0)),
 Gd 8 6 false (.bin .gtr (T 7) (Ki 1048576)),
 D 9 (.pick (T 6) (Kb true) (T 8))])
 (.cond (T 9)
 (.seq (.region [
 D 2 (.mv (C (.pointer none))),
 D 3 (.mv (Ki 2))])
 .ret)
 .skip))
 (.seq (.region [
 Mv 10 0,
 D 11 (.eA true 1 [(.int .u8 0)] (T 10) (T 10)),
 D 12 (.build [(.slice none 0 0),(.int .i64 0),(.int .i64 0)] [(0,1,(T 11))]),
 D 13 (.box false (T 12)),
 Mv 2 13,
 D 3 (.mv (Ki 0))])
 .ret))),[.tmp 2,.tmp 3]⟩
def NL:AFn:=⟨(.seq (.region [
 D 4 (.alloc true [(.int .i64 0),(.int .i64 0)]),
 D 5 (.mv (Ki 0))])
 (.seq (.block 0 (.seq (.region [
 Mv 8 0,
 D 9 (.eqs false .ptr (T 8) (C (.pointer none))),
 Mv 10 9,
 Gd 11 10 false (.mv (T 1)),
 Gd 12 10 false (.bin .lss (T 11) (Ki 0)),
 D 13 (.pick (T 10) (Kb true) (T 12)),
 Mv 7 13])
 (.cond (T 7)
 (.seq (.region [
 D 14 (.build [(.int .i64 0),(.int .i64 0)] []),
 E (.store 2 (T 4) (T 14)),
 D 5 (.mv (Ki 2))])
 .ret)
 (.seq (.drawn [
 Fq 16 0 (.mv (T 1)),
 Fq 17 0 (.mv (T 0)),
 Fq 18 2 (.br (T 17)),
 Fq 19 6 (.ay 0 (T 18)),
 Fq 20 14 (.load none (T 19)),
 Fq 21 30 (.len (T 20)),
 Fq 22 0 (.mv (T 0)),
 Fq 23 64 (.br (T 22)),
 Fq 24 192 (.ay 1 (T 23)),
 Fq 25 448 (.load none (T 24)),
 Fq 26 1022 (.bin .sub (T 21) (T 25)),
 Fq 27 2047 (.bin .gtr (T 16) (T 26)),
 Fq 15 4095 (.mv (T 27))])
 (.cond (T 15)
 (.seq (.region [
 D 28 (.build [(.int .i64 0),(.int .i64 0)] []),
 E (.store 2 (T 4) (T 28)),
 D 5 (.mv (Ki 10))])
 .ret)
 .skip)))))
 (.seq (.region [
 Mv 29 0,
 D 30 (.br (T 29)),
 D 31 (.ay 1 (T 30)),
 D 32 (.load none (T 31)),
 Mv 33 1,
 D 34 (.build [(.int .i64 0),(.int .i64 0)] [(0,1,(T 32)),(1,1,(T 33))]),
 D 6 (.alloc true [(.int .i64 0),(.int .i64 0)]),
 E (.store 2 (T 6) (T 34))])
 (.seq (.drawn [
 Fq 35 0 (.mv (T 0)),
 Fq 36 1 (.br (T 35)),
 Fq 37 3 (.ay 0 (T 36)),
 Fq 38 7 (.load none (T 37)),
 Fq 39 0 (.ay 0 (T 6)),
 Fq 40 16 (.load none (T 39)),
 Fq 41 0 (.ay 0 (T 6)),
 Fq 42 64 (.load none (T 41)),
 Fq 43 0 (.mv (T 1)),
 Fq 44 448 (.bin .add (T 42) (T 43)),
 Fq 45 1023 (.slice 1 (T 38) (some (T 40)) (some (T 44)) none),
 ⟨none,none,2047,true,.clear 1 [(.int .u8 0)] (T 45)⟩])
 (.seq (.region [
 Mv 46 0,
 D 47 (.br (T 46)),
 D 48 (.ay 1 (T 47)),
 D 49 (.load none (T 48)),
 Mv 50 1,
 D 51 (.bin .add (T 49) (T 50)),
 D 52 (.br (T 46)),
 D 53 (.ay 1 (T 52)),
 E (.store 1 (T 53) (T 51))])
 (.seq (.drawn [
 Fq 54 0 (.mv (T 0)),
 Fq 55 0 (.mv (T 0)),
 Fq 56 2 (.br (T 55)),
 Fq 57 6 (.ay 2 (T 56)),
 Fq 58 14 (.load none (T 57)),
 Fq 59 0 (.mv (T 0)),
 Fq 60 32 (.br (T 59)),
 Fq 61 96 (.ay 1 (T 60)),
 Fq 62 224 (.load none (T 61)),
 Fq 63 510 (.mm true [(T 58),(T 62)]),
 Fq 64 1023 (.br (T 54)),
 Fq 65 2047 (.ay 2 (T 64)),
 ⟨none,none,4095,true,.store 1 (T 65) (T 63)⟩])
 (.seq (.region [
 D 66 (.load (some 2) (T 6)),
 E (.store 2 (T 4) (T 66)),
 D 5 (.mv (Ki 0))])
 .ret))))))),[.cell 4 (some 2),.tmp 5]⟩
def Jg:AFn:=⟨(.seq (.region [
 D 5 (.box true (T 1)),
 D 8 (.mv (Kb false))])
 (.seq (.seq (.region [
 Mv 9 0,
 D 10 (.load (some 2) (T 5)),
 D 11 (.call 115 [(T 9),(T 10)]),
 D 12 (.un .not (T 11)),
 Mv 13 12,
 Gd 14 13 false (.mv (T 2)),
 Gd 15 13 false (.bin .lss (T 14) (Ki 0)),
 D 16 (.pick (T 13) (Kb true) (T 15)),
 Mv 17 16,
 Gd 18 17 false (.mv (T 2)),
 Gd 19 17 false (.ay 1 (T 5)),
 Gd 20 17 false (.load none (T 19)),
 Gd 21 17 false (.mv (T 3)),
 Gd 22 17 false (.len (T 21)),
 Gd 23 17 false (.bin .sub (T 20) (T 22)),
 Gd 24 17 false (.bin .gtr (T 18) (T 23)),
 D 25 (.pick (T 17) (Kb true) (T 24))])
 (.cond (T 25)
 (.seq (.region [
 D 8 (.mv (Kb false))])
 .ret)
 .skip))
 (.seq (.drawn [
 Fq 26 0 (.mv (T 0)),
 Fq 27 1 (.br (T 26)),
 Fq 28 3 (.ay 0 (T 27)),
 Fq 29 7 (.load none (T 28)),
 Fq 30 0 (.ay 0 (T 5)),
 Fq 31 16 (.load none (T 30)),
 Fq 32 0 (.mv (T 2)),
 Fq 33 112 (.bin .add (T 31) (T 32)),
 Fq 34 255 (.slice 1 (T 29) (some (T 33)) none none),
 Fq 35 0 (.mv (T 3)),
 ⟨(some 36),none,1023,true,.copy 1 (T 34) (T 35)⟩])
 (.seq (.region [
 D 8 (.mv (Kb true))])
 .ret)))),[.tmp 8]⟩
def CS:az:=(.seq (.seq (.region [
 Mv 20 8,
 D 21 (.bin .geq (T 20) (Ki 0))])
 (.cond (T 21)
 .skip
 (.exit 0)))
 (.seq (.block 1 (.seq (.region [
 Mv 24 5,
 D 25 (.ay 1 (T 3)),
 D 26 (.load none (T 25)),
 D 27 (.bin .sub (T 26) (Ki 1)),
 Mv 28 8,
 D 29 (.bin .sub (T 27) (T 28)),
 Mv 30 4,
 D 31 (.bin .add (T 29) (T 30)),
 D 32 (.bin .add (T 24) (T 31)),
 Mv 5 32])
 (.region [
 Mv 33 7,
 Mv 34 8,
 Mv 35 4,
 D 36 (.call 117 [(T 33),(T 34),(T 35)]),
 Mv 4 36])))
 (.region [
 Mv 22 8,
 D 23 (.bin .sub (T 22) (Ki 1)),
 Mv 8 23])))
def XS:AFn:=⟨(.seq (.region [
 D 3 (.box true (T 1)),
 D 4 (.mv (Ki 0)),
 D 5 (.mv (Ki 0)),
 D 6 (.mv (Ki 0))])
 (.seq (.seq (.region [
 Mv 9 0,
 D 10 (.load (some 2) (T 3)),
 D 11 (.call 116 [(T 9),(T 10)]),
 D 12 (.un .not (T 11))])
 (.cond (T 12)
 (.seq (.region [
 D 4 (.mv (Ki 0)),
 D 5 (.mv (Ki 0)),
 D 6 (.mv (Ki 2))])
 .ret)
 .skip))
 (.seq (.region [
 Mv 13 0,
 D 14 (.load (some 2) (T 3)),
 D 15 (.build [(.pointer none),(.int .i64 0),(.int .i64 0)] [(0,1,(T 13)),(1,2,(T 14))]),
 D 16 (.box false (T 15)),
 Mv 7 16])
 (.seq (.seq (.region [
 D 17 (.ay 1 (T 3)),
 D 18 (.load none (T 17)),
 D 19 (.bin .sub (T 18) (Ki 1)),
 Mv 8 19])
 (.block 0 (.loop [5,4,8,3,7] CS)))
 (.seq (.region [
 Mv 37 4,
 Mv 38 5,
 Mv 4 37,
 Mv 5 38,
 D 6 (.mv (Ki 0))])
 .ret))))),[.tmp 4,.tmp 5,.tmp 6]⟩
def UQ:AFn:=⟨(.seq (.region [
 D 3 (.box true (T 1)),
 D 4 (.mv (C (.slice none 0 0)))])
 (.seq (.seq (.region [
 Mv 5 0,
 D 6 (.load (some 2) (T 3)),
 D 7 (.call 115 [(T 5),(T 6)]),
 D 8 (.un .not (T 7))])
 (.cond (T 8)
 (.seq (.region [
 D 4 (.mv (C (.slice none 0 0)))])
 .ret)
 .skip))
 (.seq (.drawn [
 Fq 9 0 (.mv (T 0)),
 Fq 10 1 (.br (T 9)),
 Fq 11 3 (.ay 0 (T 10)),
 Fq 12 7 (.load none (T 11)),
 Fq 13 0 (.ay 0 (T 3)),
 Fq 14 16 (.load none (T 13)),
 Fq 15 0 (.ay 0 (T 3)),
 Fq 16 64 (.load none (T 15)),
 Fq 17 0 (.ay 1 (T 3)),
 Fq 18 256 (.load none (T 17)),
 Fq 19 960 (.bin .add (T 16) (T 18)),
 Fq 20 2047 (.slice 1 (T 12) (some (T 14)) (some (T 19)) none),
 ⟨(some 21),none,4095,true,.call 118 [(T 20)]⟩,
 Fq 4 8191 (.mv (T 21))])
 .ret))),[.tmp 4]⟩
def mH:az:=(.seq (.region [
 D 50 (.bin .lss (T 49) (T 48))])
 (.seq (.cond (T 50)
 .skip
 (.exit 2))
 (.seq (.block 3 (.seq (.region [
 Mv 51 49,
 Mv 16 51])
 (.seq (.seq (.region [
 D 52 (.load none (T 11)),
 Mv 53 16,
 D 54 (.call 124 [(T 52),(T 53)]),
 E (.store 1 (T 13) (T 54))])
 (.seq (.region [
 D 55 (.load none (T 13)),
 D 56 (.bin .eql (T 55) (Ki 0))])
 (.cond (T 56)
 (.region [
 Mv 57 15,
 Mv 8 57])
 (.seq (.region [
 Mv 59 0,
 D 60 (.load (some 2) (T 5)),
 D 61 (.load none (T 13)),
 D 62 (.bin .sub (T 61) (Ki 1)),
 D 63 (.call 125 [(T 59),(T 60),(T 62)]),
 Mv 58 63,
 D 64 (.ext (T 58) 0),
 D 65 (.ext (T 58) 1),
 Mv 17 64,
 Mv 18 65])
 (.seq (.region [
 Mv 66 0,
 D 67 (.load (some 2) (T 6)),
 Mv 68 14,
 Mv 69 17,
 D 70 (.call 126 [(T 66),(T 67),(T 68),(T 69)])])
 (.region [
 Mv 71 14,
 D 72 (.bin .add (T 71) (Ki 1)),
 Mv 14 72]))))))
 (.region [
 Mv 73 15,
 D 74 (.bin .add (T 73) (Ki 1)),
 Mv 15 74]))))
 (.region [
 D 75 (.bin .add (T 49) (Ki 1)),
 Mv 49 75]))))
def og:az:=(.seq (.seq (.region [
 Mv 37 15,
 D 38 (.ay 1 (T 5)),
 D 39 (.load none (T 38)),
 D 40 (.bin .leq (T 37) (T 39))])
 (.cond (T 40)
 .skip
 (.exit 0)))
 (.seq (.block 1 (.seq (.region [
 D 43 (.load none (T 11)),
 Mv 44 12,
 D 45 (.zJ 121 [] [(T 13),(T 11)]),
 D 46 (.call 120 [(T 43),(T 44),(T 45)])])
 (.seq (.region [
 D 47 (.load none (T 11)),
 D 48 (.call 123 [(T 47)]),
 D 49 (.mv (Ki 0))])
 (.block 2 (.loop [8,15,49,48,12,9,11,14,6,0,13,5] mH)))))
 (.region [
 Mv 41 9,
 D 42 (.bin .add (T 41) (Ki 1)),
 Mv 9 42])))
def XT:AFn:=⟨(.seq (.region [
 D 5 (.box true (T 1)),
 D 6 (.box true (T 2)),
 D 7 (.box true (T 3)),
 D 8 (.mv (Ki 0)),
 D 9 (.mv (Ki 0)),
 D 10 (.mv (Ki 0))])
 (.seq (.seq (.region [
 Mv 19 0,
 D 20 (.load (some 2) (T 5)),
 D 21 (.load (some 2) (T 6)),
 D 22 (.load (some 2) (T 7)),
 D 23 (.call 119 [(T 19),(T 20),(T 21),(T 22)]),
 D 24 (.un .not (T 23))])
 (.cond (T 24)
 (.seq (.region [
 D 8 (.mv (Ki 0)),
 D 9 (.mv (Ki 0)),
 D 10 (.mv (Ki 2))])
 .ret)
 .skip))
 (.seq (.region [
 Mv 25 0,
 D 26 (.load (some 2) (T 5)),
 D 27 (.load (some 2) (T 7)),
 D 28 (.build [(.pointer none),(.int .i64 0),(.int .i64 0),(.int .i64 0),(.int .i64 0),(.int .i64 0)] [(0,1,(T 25)),(1,2,(T 26)),(3,2,(T 27))]),
 D 29 (.box false (T 28)),
 D 11 (.alloc false [(.pointer none)]),
 E (.store 1 (T 11) (T 29))])
 (.seq (.region [
 D 30 (.ay 1 (T 7)),
 D 31 (.load none (T 30)),
 D 32 (.bin .quo (T 31) (Ki 4)),
 D 33 (.ay 1 (T 5)),
 D 34 (.load none (T 33)),
 D 35 (.bin .add (T 34) (Ki 1)),
 D 36 (.mm false [(T 32),(T 35)]),
 D 13 (.alloc true [(.int .i64 0)]),
 Mv 12 36,
 E (.store 1 (T 13) (Ki (-1))),
 D 14 (.mv (Ki 0))])
 (.seq (.seq (.region [
 D 15 (.mv (Ki 0))])
 (.block 0 (.loop [8,15,12,9,11,14,6,0,13,5] og)))
 (.seq (.region [
 Mv 76 8,
 Mv 77 9,
 Mv 8 76,
 Mv 9 77,
 D 10 (.mv (Ki 0))])
 .ret)))))),[.tmp 8,.tmp 9,.tmp 10]⟩
def CT:az:=(.seq (.seq (.region [
 Mv 37 10,
 D 38 (.bin .geq (T 37) (Ki 0))])
 (.cond (T 38)
 .skip
 (.exit 0)))
 (.seq (.block 1 (.seq (.region [
 Mv 42 0,
 Mv 43 1,
 Mv 44 9,
 D 45 (.call 128 [(T 42),(T 43),(T 44)]),
 Mv 41 45,
 D 46 (.ext (T 41) 0),
 D 47 (.ext (T 41) 1),
 Mv 11 46,
 Mv 12 47])
 (.seq (.seq (.region [
 Mv 48 12,
 D 49 (.un .not (T 48))])
 (.cond (T 49)
 (.seq (.region [
 D 4 (.mv (C (.slice none 0 0))),
 D 5 (.mv (Ki 170))])
 .ret)
 .skip))
 (.seq (.region [
 Mv 50 8,
 Mv 51 10,
 Mv 52 0,
 Mv 53 11,
 D 54 (.aD 1 (T 52) (T 53)),
 D 55 (.load none (T 54)),
 D 56 (.aD 1 (T 50) (T 51)),
 E (.store 1 (T 56) (T 55))])
 (.region [
 Mv 57 7,
 Mv 58 9,
 D 59 (.aD 1 (T 57) (T 58)),
 D 60 (.load none (T 59)),
 Mv 9 60])))))
 (.region [
 Mv 39 10,
 D 40 (.bin .sub (T 39) (Ki 1)),
 Mv 10 40])))
def XU:AFn:=⟨(.seq (.region [
 D 4 (.mv (C (.slice none 0 0))),
 D 5 (.mv (Ki 0))])
 (.seq (.region [
 Mv 13 0,
 D 14 (.len (T 13)),
 Mv 6 14])
 (.seq (.seq (.region [
 Mv 15 1,
 D 16 (.bin .lss (T 15) (Ki 0)),
 Mv 17 16,
 Gd 18 17 false (.mv (T 1)),
 Gd 19 17 false (.mv (T 6)),
 Gd 20 17 false (.bin .gtr (T 18) (T 19)),
 D 21 (.pick (T 17) (Kb true) (T 20)),
 Mv 22 21,
 Gd 23 22 false (.mv (T 1)),
 Gd 24 22 false (.bin .eql (T 23) (Ki 0)),
 Gd 25 22 false (.mv (T 24)),
 Gd 26 25 true (.mv (T 6)),
 Gd 27 25 true (.bin .gtr (T 26) (Ki 0)),
 Gd 28 22 false (.pick (T 25) (T 27) (Kb false)),
 D 29 (.pick (T 22) (Kb true) (T 28))])
 (.cond (T 29)
 (.seq (.region [
 D 4 (.mv (C (.slice none 0 0))),
 D 5 (.mv (Ki 170))])
 .ret)
 .skip))
 (.seq (.region [
 Mv 30 0,
 Mv 31 1,
 D 32 (.call 127 [(T 30),(T 31)]),
 Mv 7 32])
 (.seq (.region [
 Mv 33 6,
 D 34 (.eA true 1 [(.int .u8 0)] (T 33) (T 33)),
 Mv 8 34,
 D 9 (.mv (Ki 0))])
 (.seq (.seq (.region [
 Mv 35 6,
 D 36 (.bin .sub (T 35) (Ki 1)),
 Mv 10 36])
 (.block 0 (.loop [8,0,7,1,10,9] CT)))
 (.seq (.seq (.region [
 Mv 61 9,
 Mv 62 1,
 D 63 (.bin .neq (T 61) (T 62))])
 (.cond (T 63)
 (.seq (.region [
 D 4 (.mv (C (.slice none 0 0))),
 D 5 (.mv (Ki 170))])
 .ret)
 .skip))
 (.seq (.region [
 Mv 64 8,
 Mv 4 64,
 D 5 (.mv (Ki 0))])
 .ret)))))))),[.tmp 4,.tmp 5]⟩
def vJ:az:=(.seq (.region [
 D 43 (.bin .lss (T 42) (T 41))])
 (.seq (.cond (T 43)
 .skip
 (.exit 4))
 (.seq (.block 5 (.seq (.region [
 Mv 44 42,
 Mv 9 44])
 (.seq (.region [
 Mv 45 3,
 Mv 46 9,
 Mv 47 6,
 Mv 48 9,
 D 49 (.aD 1 (T 47) (T 48)),
 D 50 (.load none (T 49)),
 D 51 (.build [(.int .i64 0),(.int .i64 0)] [(0,1,(T 50)),(1,1,(Ki (-1)))]),
 D 52 (.aD 2 (T 45) (T 46)),
 E (.store 2 (T 52) (T 51))])
 (.seq (.region [
 Mv 53 9,
 Mv 54 8,
 D 55 (.bin .add (T 53) (T 54)),
 Mv 56 3,
 D 57 (.len (T 56)),
 D 58 (.bin .lss (T 55) (T 57))])
 (.cond (T 58)
 (.region [
 Mv 59 3,
 Mv 60 9,
 Mv 61 6,
 Mv 62 9,
 Mv 63 8,
 D 64 (.bin .add (T 62) (T 63)),
 D 65 (.aD 1 (T 61) (T 64)),
 D 66 (.load none (T 65)),
 D 67 (.aD 2 (T 59) (T 60)),
 D 68 (.ay 1 (T 67)),
 E (.store 1 (T 68) (T 66))])
 .skip)))))
 (.region [
 D 69 (.bin .add (T 42) (Ki 1)),
 Mv 42 69]))))
def mI:az:=(.seq (.seq (.region [
 Mv 34 7,
 Mv 35 3,
 D 36 (.len (T 35)),
 D 37 (.bin .lss (T 34) (T 36))])
 (.cond (T 37)
 .skip
 (.exit 2)))
 (.seq (.block 3 (.seq (.seq (.region [
 Mv 40 3,
 D 41 (.len (T 40)),
 D 42 (.mv (Ki 0))])
 (.block 4 (.loop [42,41,3,6,8] vJ)))
 (.region [
 Mv 71 3,
 D 72 (.call 173 [(T 71)]),
 Mv 70 72,
 D 73 (.ext (T 70) 0),
 D 74 (.ext (T 70) 1),
 Mv 6 73,
 Mv 7 74])))
 (.region [
 Mv 38 8,
 D 39 (.bin .shl (T 38) (C (.int .u64 1))),
 Mv 8 39])))
def vK:az:=(.seq (.region [
 D 17 (.bin .lss (T 16) (T 15))])
 (.seq (.cond (T 17)
 .skip
 (.exit 0))
 (.seq (.block 1 (.seq (.region [
 Mv 18 16,
 D 19 (.aD 1 (T 14) (T 16)),
 D 20 (.load none (T 19)),
 Mv 4 18,
 Mv 5 20])
 (.region [
 Mv 21 3,
 Mv 22 4,
 Mv 23 5,
 D 24 (.conv .i64 (T 23)),
 D 25 (.bin .add (Ki 1) (T 24)),
 D 26 (.aD 2 (T 21) (T 22)),
 D 27 (.ay 0 (T 26)),
 E (.store 1 (T 27) (T 25))])))
 (.region [
 D 28 (.bin .add (T 16) (Ki 1)),
 Mv 16 28]))))
def FK:AFn:=⟨(.seq (.region [
 D 2 (.mv (C (.slice none 0 0)))])
 (.seq (.region [
 Mv 10 0,
 D 11 (.len (T 10)),
 D 12 (.bin .add (T 11) (Ki 1)),
 D 13 (.eA true 2 [(.int .i64 0),(.int .i64 0)] (T 12) (T 12)),
 Mv 3 13])
 (.seq (.seq (.region [
 Mv 14 0,
 D 15 (.len (T 14)),
 D 16 (.mv (Ki 0))])
 (.block 0 (.loop [16,15,14,3] vK)))
 (.seq (.region [
 Mv 30 3,
 D 31 (.call 173 [(T 30)]),
 Mv 29 31,
 D 32 (.ext (T 29) 0),
 D 33 (.ext (T 29) 1),
 Mv 6 32,
 Mv 7 33])
 (.seq (.seq (.region [
 D 8 (.mv (Ki 1))])
 (.block 2 (.loop [7,3,6,8] mI)))
 (.seq (.region [
 Mv 75 6,
 Mv 2 75])
 .ret)))))),[.tmp 2]⟩
def KP:AFn:=⟨(.seq (.region [
 D 3 (.box true (T 1)),
 D 4 (.mv (Kb false))])
 (.seq (.drawn [
 Fq 5 0 (.mv (T 0)),
 Fq 6 1 (.eqs true .ptr (T 5) (C (.pointer none))),
 Fq 7 3 (.mv (T 6)),
 Gq 8 7 true 7 (.ay 0 (T 3)),
 ⟨(some 9),(some (7,true)),15,true,.load none (T 8)⟩,
 Gq 10 7 true 31 (.bin .geq (T 9) (Ki 0)),
 Fq 11 63 (.pick (T 7) (T 10) (Kb false)),
 Fq 12 127 (.mv (T 11)),
 Gq 13 12 true 255 (.ay 1 (T 3)),
 ⟨(some 14),(some (12,true)),511,true,.load none (T 13)⟩,
 Gq 15 12 true 1023 (.bin .geq (T 14) (Ki 0)),
 Fq 16 2047 (.pick (T 12) (T 15) (Kb false)),
 Fq 17 4095 (.mv (T 16)),
 Gq 18 17 true 8191 (.ay 0 (T 3)),
 Gq 19 17 true 16383 (.load none (T 18)),
 Gq 20 17 true 8191 (.mv (T 0)),
 Gq 21 17 true 40959 (.br (T 20)),
 Gq 22 17 true 106495 (.ay 1 (T 21)),
 Gq 23 17 true 237567 (.load none (T 22)),
 Gq 24 17 true 524287 (.bin .leq (T 19) (T 23)),
 Fq 25 1048575 (.pick (T 17) (T 24) (Kb false)),
 Fq 26 2097151 (.mv (T 25)),
 Gq 27 26 true 4194303 (.ay 1 (T 3)),
 Gq 28 26 true 8388607 (.load none (T 27)),
 Gq 29 26 true 4194303 (.mv (T 0)),
 Gq 30 26 true 20971519 (.br (T 29)),
 Gq 31 26 true 54525951 (.ay 1 (T 30)),
 Gq 32 26 true 121634815 (.load none (T 31)),
 Gq 33 26 true 4194303 (.ay 0 (T 3)),
 Gq 34 26 true 272629759 (.load none (T 33)),
 Gq 35 26 true 1061158911 (.bin .sub (T 32) (T 34)),
 Gq 36 26 true 2147483647 (.bin .leq (T 28) (T 35)),
 Fq 37 4294967295 (.pick (T 26) (T 36) (Kb false)),
 Fq 4 8589934591 (.mv (T 37))])
 .ret)),[.tmp 4]⟩
def Rt:AFn:=⟨(.seq (.region [
 D 3 (.box true (T 1)),
 D 4 (.mv (Kb false))])
 (.seq (.region [
 Mv 5 0,
 D 6 (.load (some 2) (T 3)),
 D 7 (.call 115 [(T 5),(T 6)]),
 Mv 8 7,
 Gd 9 8 true (.ay 1 (T 3)),
 Gd 10 8 true (.load none (T 9)),
 Gd 11 8 true (.bin .gtr (T 10) (Ki 0)),
 D 12 (.pick (T 8) (T 11) (Kb false)),
 Mv 13 12,
 Gd 14 13 true (.ay 1 (T 3)),
 Gd 15 13 true (.load none (T 14)),
 Gd 16 13 true (.bin .leq (T 15) (Ki 65536)),
 D 17 (.pick (T 13) (T 16) (Kb false)),
 Mv 4 17])
 .ret)),[.tmp 4]⟩
def vL:az:=(.seq (.region [
 D 50 (.bin .lss (T 49) (T 48))])
 (.seq (.cond (T 50)
 .skip
 (.exit 2))
 (.seq (.block 3 (.seq (.region [
 Mv 51 49,
 Mv 11 51])
 (.drawn [
 Fq 52 0 (.mv (T 0)),
 Fq 53 1 (.br (T 52)),
 Fq 54 3 (.ay 0 (T 53)),
 Fq 55 7 (.load none (T 54)),
 Fq 56 0 (.mv (T 0)),
 Fq 57 16 (.br (T 56)),
 Fq 58 48 (.ay 1 (T 57)),
 Fq 59 112 (.load (some 2) (T 58)),
 Fq 60 0 (.mv (T 1)),
 Fq 61 0 (.mv (T 11)),
 Fq 62 768 (.bin .add (T 60) (T 61)),
 Fq 63 0 (.mv (T 0)),
 Fq 64 0 (.mv (T 1)),
 Fq 65 0 (.mv (T 11)),
 Fq 66 12288 (.bin .add (T 64) (T 65)),
 Fq 67 28672 (.bin .add (T 66) (Ki 1)),
 Fq 68 63488 (.call 174 [(T 63),(T 67)]),
 ⟨(some 69),none,131071,true,.call 126 [(T 55),(T 59),(T 62),(T 68)]⟩])))
 (.region [
 D 70 (.bin .add (T 49) (Ki 1)),
 Mv 49 70]))))
def vM:az:=(.seq (.region [
 D 24 (.bin .lss (T 23) (T 22))])
 (.seq (.cond (T 24)
 .skip
 (.exit 0))
 (.seq (.block 1 (.seq (.region [
 Mv 25 23,
 Mv 9 25])
 (.seq (.region [
 Mv 26 0,
 Mv 27 1,
 D 28 (.bin .add (T 27) (Ki 1)),
 Mv 29 9,
 D 30 (.bin .add (T 28) (T 29)),
 D 31 (.call 174 [(T 26),(T 30)]),
 Mv 10 31])
 (.seq (.region [
 Mv 32 10,
 Mv 33 7,
 D 34 (.bin .lss (T 32) (T 33)),
 Mv 35 34,
 Gd 36 35 false (.mv (T 10)),
 Gd 37 35 false (.mv (T 7)),
 Gd 38 35 false (.bin .eql (T 36) (T 37)),
 Gd 39 35 false (.mv (T 38)),
 Gd 40 39 true (.mv (T 9)),
 Gd 41 39 true (.mv (T 2)),
 Gd 42 39 true (.bin .lss (T 40) (T 41)),
 Gd 43 35 false (.pick (T 39) (T 42) (Kb false)),
 D 44 (.pick (T 35) (Kb true) (T 43))])
 (.cond (T 44)
 (.region [
 Mv 45 8,
 D 46 (.bin .add (T 45) (Ki 1)),
 Mv 8 46])
 .skip)))))
 (.region [
 D 47 (.bin .add (T 23) (Ki 1)),
 Mv 23 47]))))
def KQ:AFn:=⟨(.seq (.region [
 D 6 (.mv (Ki 0))])
 (.seq (.region [
 Mv 12 0,
 Mv 13 1,
 D 14 (.call 174 [(T 12),(T 13)]),
 Mv 7 14])
 (.seq (.region [
 D 8 (.mv (Ki 1))])
 (.seq (.seq (.region [
 Mv 15 0,
 D 16 (.br (T 15)),
 D 17 (.ay 1 (T 16)),
 D 18 (.ay 1 (T 17)),
 D 19 (.load none (T 18)),
 Mv 20 1,
 D 21 (.bin .sub (T 19) (T 20)),
 D 22 (.bin .sub (T 21) (Ki 1)),
 D 23 (.mv (Ki 0))])
 (.block 0 (.loop [8,23,22,0,1,7,2] vM)))
 (.seq (.seq (.region [
 Mv 48 2,
 D 49 (.mv (Ki 0))])
 (.block 2 (.loop [49,48,8,7,2,0,1] vL)))
 (.seq (.drawn [
 Fq 71 0 (.mv (T 0)),
 Fq 72 1 (.br (T 71)),
 Fq 73 3 (.ay 0 (T 72)),
 Fq 74 7 (.load none (T 73)),
 Fq 75 0 (.mv (T 0)),
 Fq 76 16 (.br (T 75)),
 Fq 77 48 (.ay 1 (T 76)),
 Fq 78 112 (.load (some 2) (T 77)),
 Fq 79 0 (.mv (T 1)),
 Fq 80 0 (.mv (T 2)),
 Fq 81 768 (.bin .add (T 79) (T 80)),
 Fq 82 0 (.mv (T 7)),
 ⟨(some 83),none,4095,true,.call 126 [(T 74),(T 78),(T 81),(T 82)]⟩])
 (.seq (.region [
 Mv 84 8,
 Mv 6 84])
 .ret))))))),[.tmp 6]⟩
def Ru:AFn:=⟨(.seq (.region [
 D 2 (.mv (C (.slice none 0 0)))])
 (.seq (.seq (.region [
 Mv 3 0,
 D 4 (.eqs false .slice (T 3) (C (.slice none 0 0)))])
 (.cond (T 4)
 (.seq (.region [
 D 2 (.mv (C (.slice none 0 0)))])
 .ret)
 .skip))
 (.seq (.region [
 D 5 (.dO true 1 0 [] []),
 Mv 6 0,
 D 7 (.append true 1 (T 5) (T 6)),
 Mv 2 7])
 .ret))),[.tmp 2]⟩
def nC:AFn:=⟨(.seq (.region [
 D 5 (.box true (T 1)),
 D 6 (.box true (T 2)),
 D 7 (.box true (T 3)),
 D 8 (.mv (Kb false))])
 (.seq (.seq (.region [
 Mv 9 0,
 D 10 (.load (some 2) (T 5)),
 D 11 (.call 115 [(T 9),(T 10)]),
 D 12 (.un .not (T 11)),
 Mv 13 12,
 Gd 14 13 false (.mv (T 0)),
 Gd 15 13 false (.load (some 2) (T 6)),
 Gd 16 13 false (.call 115 [(T 14),(T 15)]),
 Gd 17 13 false (.un .not (T 16)),
 D 18 (.pick (T 13) (Kb true) (T 17)),
 Mv 19 18,
 Gd 20 19 false (.mv (T 0)),
 Gd 21 19 false (.load (some 2) (T 7)),
 Gd 22 19 false (.call 115 [(T 20),(T 21)]),
 Gd 23 19 false (.un .not (T 22)),
 D 24 (.pick (T 19) (Kb true) (T 23))])
 (.cond (T 24)
 (.seq (.region [
 D 8 (.mv (Kb false))])
 .ret)
 .skip))
 (.seq (.seq (.region [
 D 25 (.ay 1 (T 5)),
 D 26 (.load none (T 25)),
 D 27 (.bin .lss (T 26) (Ki 1)),
 Mv 28 27,
 Gd 29 28 false (.ay 1 (T 5)),
 Gd 30 28 false (.load none (T 29)),
 Gd 31 28 false (.bin .gtr (T 30) (Ki 65536)),
 D 32 (.pick (T 28) (Kb true) (T 31)),
 Mv 33 32,
 Gd 34 33 false (.ay 1 (T 6)),
 Gd 35 33 false (.load none (T 34)),
 Gd 36 33 false (.ay 1 (T 5)),
 Gd 37 33 false (.load none (T 36)),
 Gd 38 33 false (.bin .neq (T 35) (T 37)),
 D 39 (.pick (T 33) (Kb true) (T 38)),
 Mv 40 39,
 Gd 41 40 false (.ay 1 (T 7)),
 Gd 42 40 false (.load none (T 41)),
 Gd 43 40 false (.bin .lss (T 42) (Ki 4)),
 D 44 (.pick (T 40) (Kb true) (T 43))])
 (.cond (T 44)
 (.seq (.region [
 D 8 (.mv (Kb false))])
 .ret)
 .skip))
 (.seq (.region [
 D 45 (.load (some 2) (T 5)),
 D 46 (.load (some 2) (T 6)),
 D 47 (.call 175 [(T 45),(T 46)]),
 Mv 48 47,
 Gd 49 48 true (.load (some 2) (T 5)),
 Gd 50 48 true (.load (some 2) (T 7)),
 Gd 51 48 true (.call 175 [(T 49),(T 50)]),
 D 52 (.pick (T 48) (T 51) (Kb false)),
 Mv 53 52,
 Gd 54 53 true (.load (some 2) (T 6)),
 Gd 55 53 true (.load (some 2) (T 7)),
 Gd 56 53 true (.call 175 [(T 54),(T 55)]),
 D 57 (.pick (T 53) (T 56) (Kb false)),
 Mv 8 57])
 .ret)))),[.tmp 8]⟩
def dS:az:=(.seq (.region [
 D 17 (.bin .lss (T 16) (T 15))])
 (.seq (.cond (T 17)
 .skip
 (.exit 0))
 (.seq (.block 1 (.seq (.region [
 Mv 18 16,
 Mv 6 18])
 (.block 2 (.seq (.region [
 Mv 20 2,
 Mv 21 6,
 D 22 (.dw (T 20) [(T 21)]),
 D 23 (.un .not (T 22)),
 Mv 19 23])
 (.cond (T 19)
 .skip
 (.seq (.region [
 Mv 25 0,
 D 26 (.br (T 25)),
 D 27 (.ay 5 (T 26)),
 D 28 (.load none (T 27)),
 Mv 29 1,
 D 30 (.bin .lss (T 28) (T 29)),
 Mv 24 30])
 (.cond (T 24)
 (.region [
 Mv 31 0,
 Mv 32 6,
 D 33 (.call 176 [(T 31),(T 32)])])
 (.seq (.region [
 Mv 35 0,
 Mv 36 6,
 Mv 37 0,
 D 38 (.call 124 [(T 37),(Ki 0)]),
 D 39 (.call 122 [(T 35),(T 36),(T 38)]),
 Mv 34 39])
 (.cond (T 34)
 (.seq (.region [
 Mv 40 0,
 Mv 41 6,
 D 42 (.call 177 [(T 40),(Ki 0),(T 41)])])
 (.region [
 Mv 43 0,
 D 44 (.call 178 [(T 43),(Ki 0)])]))
 .skip)))))))))
 (.region [
 D 45 (.bin .add (T 16) (Ki 1)),
 Mv 16 45]))))
def Rv:AFn:=⟨(.seq (.region [
 Mv 7 0,
 D 8 (.br (T 7)),
 D 9 (.ay 5 (T 8)),
 E (.store 1 (T 9) (Ki 0))])
 (.seq (.region [
 Mv 10 0,
 D 11 (.br (T 10)),
 D 12 (.ay 1 (T 11)),
 D 13 (.ay 1 (T 12)),
 D 14 (.load none (T 13)),
 D 15 (.bin .add (T 14) (Ki 1)),
 D 16 (.mv (Ki 0))])
 (.block 0 (.loop [16,15,2,0,1] dS)))),[]⟩
def KR:AFn:=⟨(.seq (.region [
 D 4 (.mv (Kb false))])
 (.seq (.region [
 D 5 (.load none (T 1)),
 D 6 (.bin .lss (T 5) (Ki 0)),
 Mv 7 6,
 Gd 8 7 false (.load none (T 2)),
 Gd 9 7 false (.load none (T 1)),
 Gd 10 7 false (.mv (T 0)),
 Gd 11 7 false (.call 122 [(T 8),(T 9),(T 10)]),
 D 12 (.pick (T 7) (Kb true) (T 11)),
 Mv 4 12])
 .ret)),[.tmp 4]⟩
def vN:az:=(.seq (.block 1 (.seq (.drawn [
 Fq 16 0 (.mv (T 0)),
 Fq 17 1 (.br (T 16)),
 Fq 18 3 (.ay 0 (T 17)),
 Fq 19 7 (.load none (T 18)),
 Fq 20 0 (.mv (T 0)),
 Fq 21 16 (.br (T 20)),
 Fq 22 48 (.ay 1 (T 21)),
 Fq 23 112 (.load (some 2) (T 22)),
 Fq 24 0 (.mv (T 1)),
 ⟨(some 25),none,511,true,.call 125 [(T 19),(T 23),(T 24)]⟩,
 Fq 15 1023 (.mv (T 25)),
 Fq 26 2047 (.ext (T 15) 0),
 Fq 27 2047 (.ext (T 15) 1),
 Fq 7 4095 (.mv (T 26)),
 Fq 8 16383 (.mv (T 27))])
 (.seq (.drawn [
 Fq 29 0 (.mv (T 0)),
 Fq 30 1 (.br (T 29)),
 Fq 31 3 (.ay 0 (T 30)),
 Fq 32 7 (.load none (T 31)),
 Fq 33 0 (.mv (T 0)),
 Fq 34 16 (.br (T 33)),
 Fq 35 48 (.ay 1 (T 34)),
 Fq 36 112 (.load (some 2) (T 35)),
 Fq 37 0 (.mv (T 2)),
 ⟨(some 38),none,511,true,.call 125 [(T 32),(T 36),(T 37)]⟩,
 Fq 28 1023 (.mv (T 38)),
 Fq 39 2047 (.ext (T 28) 0),
 Fq 40 2047 (.ext (T 28) 1),
 Fq 9 4095 (.mv (T 39)),
 Fq 10 16383 (.mv (T 40))])
 (.block 2 (.seq (.region [
 Mv 42 8,
 D 43 (.un .not (T 42)),
 Mv 44 43,
 Gd 45 44 false (.mv (T 10)),
 Gd 46 44 false (.un .not (T 45)),
 D 47 (.pick (T 44) (Kb true) (T 46)),
 Mv 41 47])
 (.cond (T 41)
 (.seq (.region [
 Mv 48 8,
 D 49 (.un .not (T 48)),
 Mv 50 49,
 Gd 51 50 true (.mv (T 10)),
 D 52 (.pick (T 50) (T 51) (Kb false)),
 Mv 6 52])
 .ret)
 (.seq (.region [
 Mv 54 7,
 Mv 55 9,
 D 56 (.bin .neq (T 54) (T 55)),
 Mv 53 56])
 (.cond (T 53)
 (.seq (.region [
 Mv 57 7,
 Mv 58 9,
 D 59 (.bin .lss (T 57) (T 58)),
 Mv 6 59])
 .ret)
 (.seq (.region [
 Mv 61 1,
 Mv 62 2,
 D 63 (.bin .eql (T 61) (T 62)),
 Mv 60 63])
 (.cond (T 60)
 (.seq (.region [
 D 6 (.mv (Kb false))])
 .ret)
 .skip))))))))))
 (.region [
 Mv 11 1,
 D 12 (.bin .add (T 11) (Ki 1)),
 Mv 13 2,
 D 14 (.bin .add (T 13) (Ki 1)),
 Mv 1 12,
 Mv 2 14]))
def Rx:AFn:=⟨(.seq (.region [
 D 6 (.mv (Kb false))])
 (.block 0 (.loop [0,2,1] vN))),[.tmp 6]⟩
def mJ:az:=(.seq (.seq (.region [
 Mv 10 0,
 D 11 (.br (T 10)),
 D 12 (.ay 5 (T 11)),
 D 13 (.load none (T 12)),
 D 14 (.bin .gtr (T 13) (Ki 1))])
 (.cond (T 14)
 .skip
 (.exit 0)))
 (.block 1 (.seq (.region [
 Mv 15 0,
 D 16 (.br (T 15)),
 D 17 (.ay 5 (T 16)),
 D 18 (.load none (T 17)),
 D 19 (.bin .sub (T 18) (Ki 1)),
 D 20 (.br (T 15)),
 D 21 (.ay 5 (T 20)),
 E (.store 1 (T 21) (T 19))])
 (.seq (.drawn [
 Fq 22 0 (.mv (T 0)),
 Fq 23 1 (.call 124 [(T 22),(Ki 0)]),
 Fq 24 0 (.mv (T 0)),
 Fq 25 0 (.mv (T 0)),
 Fq 26 8 (.br (T 25)),
 Fq 27 24 (.ay 5 (T 26)),
 Fq 28 56 (.load none (T 27)),
 ⟨(some 29),none,127,true,.call 124 [(T 24),(T 28)]⟩,
 Fq 4 255 (.mv (T 23)),
 Fq 5 511 (.mv (T 29))])
 (.seq (.region [
 Mv 30 0,
 Mv 31 5,
 D 32 (.call 177 [(T 30),(Ki 0),(T 31)])])
 (.seq (.region [
 Mv 33 0,
 Mv 34 0,
 D 35 (.br (T 34)),
 D 36 (.ay 5 (T 35)),
 D 37 (.load none (T 36)),
 Mv 38 4,
 D 39 (.call 177 [(T 33),(T 37),(T 38)])])
 (.region [
 Mv 40 0,
 D 41 (.call 178 [(T 40),(Ki 0)])])))))))
def Rz:AFn:=⟨(.seq (.region [
 D 2 (.mv (Ki 0))])
 (.seq (.region [
 Mv 6 0,
 D 7 (.br (T 6)),
 D 8 (.ay 5 (T 7)),
 D 9 (.load none (T 8)),
 Mv 3 9])
 (.seq (.block 0 (.loop [3,0] mJ))
 (.seq (.region [
 Mv 42 3,
 Mv 2 42])
 .ret)))),[.tmp 2]⟩
def RA:AFn:=⟨(.seq (.region [
 D 4 (.mv (Ki 0))])
 (.seq (.drawn [
 Fq 8 0 (.mv (T 0)),
 Fq 9 1 (.br (T 8)),
 Fq 10 3 (.ay 0 (T 9)),
 Fq 11 7 (.load none (T 10)),
 Fq 12 0 (.mv (T 0)),
 Fq 13 16 (.br (T 12)),
 Fq 14 48 (.ay 3 (T 13)),
 Fq 15 112 (.load (some 2) (T 14)),
 Fq 16 0 (.mv (T 1)),
 ⟨(some 17),none,511,true,.call 179 [(T 11),(T 15),(T 16)]⟩,
 Fq 7 1023 (.mv (T 17)),
 Fq 18 2047 (.ext (T 7) 0),
 Fq 19 2047 (.ext (T 7) 1),
 Fq 5 4095 (.mv (T 18)),
 Fq 6 16383 (.mv (T 19))])
 (.seq (.region [
 Mv 20 5,
 D 21 (.conv .i64 (T 20)),
 Mv 4 21])
 .ret))),[.tmp 4]⟩
def FL:AFn:=⟨(.seq (.region [
 D 4 (.box true (T 1)),
 D 6 (.mv (C (.int .u8 0))),
 D 7 (.mv (Kb false))])
 (.seq (.region [
 Mv 9 0,
 D 10 (.load (some 2) (T 4)),
 Mv 11 2,
 D 12 (.call 180 [(T 9),(T 10),(T 11),(Ki 1)]),
 Mv 8 12])
 (.seq (.seq (.region [
 Mv 13 8,
 D 14 (.eqs false .slice (T 13) (C (.slice none 0 0)))])
 (.cond (T 14)
 (.seq (.region [
 D 6 (.mv (C (.int .u8 0))),
 D 7 (.mv (Kb false))])
 .ret)
 .skip))
 (.seq (.region [
 Mv 15 8,
 D 16 (.aD 1 (T 15) (Ki 0)),
 D 17 (.load none (T 16)),
 Mv 6 17,
 D 7 (.mv (Kb true))])
 .ret)))),[.tmp 6,.tmp 7]⟩
def FM:AFn:=⟨(.seq (.region [
 D 5 (.box true (T 1)),
 D 8 (.mv (Kb false))])
 (.seq (.region [
 Mv 10 0,
 D 11 (.load (some 2) (T 5)),
 Mv 12 2,
 D 13 (.call 180 [(T 10),(T 11),(T 12),(Ki 1)]),
 Mv 9 13])
 (.seq (.seq (.region [
 Mv 14 9,
 D 15 (.eqs false .slice (T 14) (C (.slice none 0 0)))])
 (.cond (T 15)
 (.seq (.region [
 D 8 (.mv (Kb false))])
 .ret)
 .skip))
 (.seq (.region [
 Mv 16 9,
 Mv 17 3,
 D 18 (.aD 1 (T 16) (Ki 0)),
 E (.store 1 (T 18) (T 17))])
 (.seq (.region [
 D 8 (.mv (Kb true))])
 .ret))))),[.tmp 8]⟩
def rO:az:=(.seq (.region [
 D 48 (.bin .lss (T 47) (T 46))])
 (.seq (.cond (T 48)
 .skip
 (.exit 4))
 (.seq (.block 5 (.seq (.region [
 Mv 49 47,
 Mv 10 49])
 (.seq (.region [
 Mv 51 0,
 Mv 52 1,
 Mv 53 10,
 D 54 (.call 128 [(T 51),(T 52),(T 53)]),
 Mv 50 54,
 D 55 (.ext (T 50) 0),
 D 56 (.ext (T 50) 1),
 Mv 11 55,
 Mv 12 56])
 (.seq (.region [
 Mv 57 12])
 (.cond (T 57)
 (.seq (.region [
 Mv 58 0,
 Mv 59 11,
 D 60 (.aD 1 (T 58) (T 59)),
 D 61 (.load none (T 60)),
 Mv 13 61])
 (.seq (.region [
 Mv 62 13,
 D 63 (.cz 1 257 (T 5) (T 62)),
 D 64 (.load none (T 63)),
 D 65 (.bin .add (T 64) (Ki 1)),
 D 66 (.cz 1 257 (T 5) (T 62)),
 E (.store 1 (T 66) (T 65))])
 (.region [
 Mv 67 9,
 Mv 68 10,
 Mv 69 13,
 D 70 (.cz 1 257 (T 5) (T 69)),
 D 71 (.load none (T 70)),
 D 72 (.aD 1 (T 67) (T 68)),
 E (.store 1 (T 72) (T 71))])))
 .skip)))))
 (.region [
 D 73 (.bin .add (T 47) (Ki 1)),
 Mv 47 73]))))
def vO:az:=(.seq (.region [
 D 29 (.bin .lss (T 28) (Ki 256))])
 (.seq (.cond (T 29)
 .skip
 (.exit 2))
 (.seq (.block 3 (.seq (.region [
 Mv 30 28,
 Mv 8 30])
 (.drawn [
 Fq 31 0 (.mv (T 8)),
 Fq 32 1 (.bin .add (T 31) (Ki 1)),
 Fq 33 3 (.cz 1 257 (T 5) (T 32)),
 Fq 34 7 (.load none (T 33)),
 Fq 35 0 (.mv (T 8)),
 Fq 36 16 (.cz 1 257 (T 5) (T 35)),
 Fq 37 48 (.load none (T 36)),
 Fq 38 127 (.bin .add (T 34) (T 37)),
 Fq 39 255 (.cz 1 257 (T 5) (T 32)),
 ⟨none,none,511,true,.store 1 (T 39) (T 38)⟩])))
 (.region [
 D 40 (.bin .add (T 28) (Ki 1)),
 Mv 28 40]))))
def vP:az:=(.seq (.region [
 D 17 (.bin .lss (T 16) (T 15))])
 (.seq (.cond (T 17)
 .skip
 (.exit 0))
 (.seq (.block 1 (.seq (.region [
 D 18 (.aD 1 (T 14) (T 16)),
 D 19 (.load none (T 18)),
 Mv 7 19])
 (.region [
 Mv 20 7,
 D 21 (.conv .i64 (T 20)),
 D 22 (.bin .add (T 21) (Ki 1)),
 D 23 (.cz 1 257 (T 5) (T 22)),
 D 24 (.load none (T 23)),
 D 25 (.bin .add (T 24) (Ki 1)),
 D 26 (.cz 1 257 (T 5) (T 22)),
 E (.store 1 (T 26) (T 25))])))
 (.region [
 D 27 (.bin .add (T 16) (Ki 1)),
 Mv 16 27]))))
def KS:AFn:=⟨(.seq (.region [
 D 4 (.mv (C (.slice none 0 0)))])
 (.seq (.region [
 D 5 (.alloc true (List.replicate 257 (.int .i64 0)))])
 (.seq (.seq (.region [
 Mv 14 0,
 D 15 (.len (T 14)),
 D 16 (.mv (Ki 0))])
 (.block 0 (.loop [16,15,1,0,14,5] vP)))
 (.seq (.seq (.region [
 D 28 (.mv (Ki 0))])
 (.block 2 (.loop [28,0,1,5] vO)))
 (.seq (.region [
 Mv 41 0,
 D 42 (.len (T 41)),
 D 43 (.bin .add (T 42) (Ki 1)),
 D 44 (.eA true 1 [(.int .i64 0)] (T 43) (T 43)),
 Mv 9 44])
 (.seq (.seq (.region [
 Mv 45 9,
 D 46 (.len (T 45)),
 D 47 (.mv (Ki 0))])
 (.block 4 (.loop [47,46,1,0,9,5] rO)))
 (.seq (.region [
 Mv 74 9,
 Mv 4 74])
 .ret))))))),[.tmp 4]⟩
def AQ:AFn:=⟨(.seq (.region [
 D 6 (.mv (Ki 0)),
 D 7 (.mv (Kb false))])
 (.seq (.seq (.region [
 Mv 8 1,
 D 9 (.bin .lss (T 8) (Ki 0)),
 Mv 10 9,
 Gd 11 10 false (.mv (T 1)),
 Gd 12 10 false (.mv (T 0)),
 Gd 13 10 false (.len (T 12)),
 Gd 14 10 false (.bin .gtr (T 11) (T 13)),
 D 15 (.pick (T 10) (Kb true) (T 14)),
 Mv 16 15,
 Gd 17 16 false (.mv (T 2)),
 Gd 18 16 false (.bin .lss (T 17) (Ki 0)),
 D 19 (.pick (T 16) (Kb true) (T 18)),
 Mv 20 19,
 Gd 21 20 false (.mv (T 2)),
 Gd 22 20 false (.mv (T 0)),
 Gd 23 20 false (.len (T 22)),
 Gd 24 20 false (.bin .gtr (T 21) (T 23)),
 D 25 (.pick (T 20) (Kb true) (T 24)),
 Mv 26 25,
 Gd 27 26 false (.mv (T 2)),
 Gd 28 26 false (.mv (T 1)),
 Gd 29 26 false (.bin .eql (T 27) (T 28)),
 D 30 (.pick (T 26) (Kb true) (T 29))])
 (.cond (T 30)
 (.seq (.region [
 D 6 (.mv (Ki 0)),
 D 7 (.mv (Kb false))])
 .ret)
 .skip))
 (.seq (.seq (.region [
 Mv 31 2,
 Mv 32 1,
 D 33 (.bin .gtr (T 31) (T 32))])
 (.cond (T 33)
 (.region [
 Mv 34 2,
 D 35 (.bin .sub (T 34) (Ki 1)),
 Mv 2 35])
 .skip))
 (.seq (.region [
 Mv 36 2,
 Mv 6 36,
 D 7 (.mv (Kb true))])
 .ret)))),[.tmp 6,.tmp 7]⟩
def FN:AFn:=⟨(.seq (.region [
 D 4 (.mv (Ki 0))])
 (.seq (.region [
 Mv 7 0,
 D 8 (.call 182 [(T 7)]),
 Mv 5 8])
 (.seq (.region [
 Mv 9 1,
 D 10 (.call 182 [(T 9)]),
 Mv 6 10])
 (.seq (.seq (.region [
 Mv 11 5])
 (.cond (T 11)
 (.seq (.seq (.region [
 Mv 12 6])
 (.cond (T 12)
 (.seq (.region [
 D 4 (.mv (Ki 0))])
 .ret)
 .skip))
 (.seq (.region [
 D 4 (.mv (Ki (-1)))])
 .ret))
 .skip))
 (.seq (.seq (.region [
 Mv 13 6])
 (.cond (T 13)
 (.seq (.region [
 D 4 (.mv (Ki 1))])
 .ret)
 .skip))
 (.seq (.seq (.region [
 Mv 14 0,
 Mv 15 1,
 D 16 (.bin .lss (T 14) (T 15))])
 (.cond (T 16)
 (.seq (.region [
 D 4 (.mv (Ki (-1)))])
 .ret)
 .skip))
 (.seq (.seq (.region [
 Mv 17 0,
 Mv 18 1,
 D 19 (.bin .gtr (T 17) (T 18))])
 (.cond (T 19)
 (.seq (.region [
 D 4 (.mv (Ki 1))])
 .ret)
 .skip))
 (.seq (.region [
 D 4 (.mv (Ki 0))])
 .ret)))))))),[.tmp 4]⟩
def UR:az:=(.seq (.region [
 D 3 (.bin .lss (T 2) (Ki 256))])
 (.seq (.cond (T 3)
 .skip
 (.exit 0))
 (.seq (.block 1 (.seq (.region [
 Mv 4 2,
 Mv 1 4])
 (.region [
 Mv 5 1,
 Mv 6 1,
 D 7 (.conv .u8 (T 6)),
 D 8 (.cz 1 256 (T 0) (T 5)),
 E (.store 1 (T 8) (T 7))])))
 (.region [
 D 9 (.bin .add (T 2) (Ki 1)),
 Mv 2 9]))))
def WS:AFn:=⟨(.seq (.region [
 D 0 (.alloc true (List.replicate 256 (.int .u8 0)))])
 (.seq (.seq (.region [
 D 2 (.mv (Ki 0))])
 (.block 0 (.loop [2,0] UR)))
 (.seq (.region [
 D 10 (.load (some 256) (T 0)),
 E (.store 256 (T 0) (T 10))])
 .ret))),[.cell 0 (some 256)]⟩
def ym:AFn:=⟨(.seq (.region [
 D 2 (.box true (T 0)),
 D 4 (.alloc true (List.replicate 258 (.int .u8 0)++[(.int .i64 0),(.int .i64 0),(.int .i64 0),(.int .i64 0)])),
 D 5 (.mv (Kb false)),
 D 6 (.mv (Ki 0))])
 (.seq (.seq (.region [
 D 8 (.load (some 262) (T 2)),
 D 9 (.call 204 [(T 8)]),
 D 10 (.un .not (T 9)),
 Mv 11 10,
 Gd 12 11 false (.ay 258 (T 2)),
 Gd 13 11 false (.load none (T 12)),
 Gd 14 11 false (.bin .eql (T 13) (Ki 258)),
 D 15 (.pick (T 11) (Kb true) (T 14)),
 Mv 16 15,
 Gd 17 16 false (.mv (T 1)),
 Gd 18 16 false (.bin .shr (T 17) (C (.int .u64 1))),
 Gd 19 16 false (.bin .neq (T 18) (Ki 0)),
 D 20 (.pick (T 16) (Kb true) (T 19))])
 (.cond (T 20)
 (.seq (.region [
 D 21 (.load (some 262) (T 4)),
 E (.store 262 (T 4) (T 21)),
 D 5 (.mv (Kb false)),
 D 6 (.mv (Ki 2))])
 .ret)
 .skip))
 (.seq (.region [
 D 23 (.load (some 262) (T 2)),
 Mv 24 1,
 D 25 (.call 205 [(T 23),(T 24)]),
 Mv 22 25,
 D 26 (.ext (T 22) 0),
 D 27 (.ext (T 22) 1),
 E (.store 262 (T 2) (T 26)),
 Mv 7 27])
 (.seq (.seq (.region [
 Mv 28 7,
 D 29 (.un .not (T 28))])
 (.cond (T 29)
 (.seq (.region [
 D 30 (.load (some 262) (T 4)),
 E (.store 262 (T 4) (T 30)),
 D 5 (.mv (Kb false)),
 D 6 (.mv (Ki 100))])
 .ret)
 .skip))
 (.seq (.nO [] false [
 Fq 31 0 (.load (some 262) (T 2)),
 Fq 32 0 (.ay 258 (T 2)),
 Fq 33 0 (.load none (T 32)),
 Fq 34 0 (.bin .eql (T 33) (Ki 258)),
 ⟨none,none,0,false,.store 262 (T 4) (T 31)⟩,
 Fq 5 0 (.mv (T 34)),
 Fq 6 0 (.mv (Ki 0))])
 .ret))))),[.cell 4 (some 262),.tmp 5,.tmp 6]⟩
def US:az:=(.seq (.region [
 D 3 (.bin .lss (T 2) (Ki 256))])
 (.seq (.cond (T 3)
 .skip
 (.exit 0))
 (.seq (.block 1 (.seq (.region [
 Mv 4 2,
 Mv 1 4])
 (.region [
 Mv 5 1,
 Mv 6 1,
 D 7 (.conv .u8 (T 6)),
 D 8 (.call 210 [(T 7)]),
 D 9 (.cz 1 256 (T 0) (T 5)),
 E (.store 1 (T 9) (T 8))])))
 (.region [
 D 10 (.bin .add (T 2) (Ki 1)),
 Mv 2 10]))))
def WT:AFn:=⟨(.seq (.region [
 D 0 (.alloc true (List.replicate 256 (.int .u32 0)))])
 (.seq (.seq (.region [
 D 2 (.mv (Ki 0))])
 (.block 0 (.loop [2,0] US)))
 (.seq (.region [
 D 11 (.load (some 256) (T 0)),
 E (.store 256 (T 0) (T 11))])
 .ret))),[.cell 0 (some 256)]⟩
def vQ:az:=(.seq (.region [
 D 39 (.bin .lss (T 38) (T 37))])
 (.seq (.cond (T 39)
 .skip
 (.exit 2))
 (.seq (.block 3 (.seq (.region [
 D 40 (.aD 2 (T 36) (T 38)),
 D 41 (.load (some 2) (T 40)),
 D 11 (.alloc true [(.int .i64 0),(.int .i64 0)]),
 E (.store 2 (T 11) (T 41))])
 (.region [
 Mv 42 2,
 Mv 43 5,
 D 44 (.load (some 2) (T 11)),
 D 45 (.wG true [.nu,.nu] (.int .i64 0) false (T 43) (T 44)),
 D 46 (.dO true 1 1 [(.int .i64 0)] [(0,1,(T 45))]),
 D 47 (.append true 1 (T 42) (T 46)),
 Mv 2 47])))
 (.region [
 D 48 (.bin .add (T 38) (Ki 1)),
 Mv 38 48]))))
def vR:az:=(.seq (.region [
 D 20 (.bin .lss (T 19) (T 18))])
 (.seq (.cond (T 20)
 .skip
 (.exit 0))
 (.seq (.block 1 (.seq (.region [
 D 21 (.aD 2 (T 17) (T 19)),
 D 22 (.load (some 2) (T 21)),
 D 7 (.alloc true [(.int .i64 0),(.int .i64 0)]),
 E (.store 2 (T 7) (T 22))])
 (.seq (.region [
 Mv 24 5,
 D 25 (.load (some 2) (T 7)),
 D 26 (.wG true [.nu,.nu] (.int .i64 0) true (T 24) (T 25)),
 Mv 23 26,
 D 27 (.ext (T 23) 0),
 D 28 (.ext (T 23) 1),
 Mv 8 27,
 Mv 9 28])
 (.seq (.region [
 Mv 29 9,
 D 30 (.un .not (T 29))])
 (.cond (T 30)
 (.region [
 Mv 31 5,
 D 32 (.load (some 2) (T 7)),
 Mv 33 5,
 D 34 (.wH (T 33)),
 E (.jc true [.nu,.nu] (T 31) (T 32) (T 34))])
 .skip)))))
 (.region [
 D 35 (.bin .add (T 19) (Ki 1)),
 Mv 19 35]))))
def KT:AFn:=⟨(.seq (.region [
 D 2 (.mv (C (.slice none 0 0))),
 D 3 (.mv (Ki 0))])
 (.seq (.region [
 Mv 12 0,
 D 13 (.call 221 [(T 12)]),
 Mv 4 13])
 (.seq (.region [
 Mv 14 4,
 D 15 (.call 222 [(T 14),(.func 223)])])
 (.seq (.region [
 D 16 (.iP),
 Mv 5 16])
 (.seq (.seq (.region [
 Mv 17 4,
 D 18 (.len (T 17)),
 D 19 (.mv (Ki 0))])
 (.block 0 (.loop [19,18,2,0,17,5] vR)))
 (.seq (.seq (.region [
 Mv 36 0,
 D 37 (.len (T 36)),
 D 38 (.mv (Ki 0))])
 (.block 2 (.loop [2,38,37,36,5] vQ)))
 (.seq (.region [
 Mv 49 2,
 Mv 50 5,
 D 51 (.wH (T 50)),
 Mv 2 49,
 Mv 3 51])
 .ret))))))),[.tmp 2,.tmp 3]⟩
def KU:AFn:=⟨(.seq (.region [
 D 4 (.mv (C (.int .u8 0)))])
 (.seq (.drawn [
 Fq 8 0 (.mv (T 0)),
 Fq 9 1 (.br (T 8)),
 Fq 10 3 (.ay 0 (T 9)),
 Fq 11 7 (.load none (T 10)),
 Fq 12 0 (.mv (T 0)),
 Fq 13 16 (.br (T 12)),
 Fq 14 48 (.ay 1 (T 13)),
 Fq 15 112 (.load (some 2) (T 14)),
 Fq 16 0 (.mv (T 1)),
 ⟨(some 17),none,511,true,.call 125 [(T 11),(T 15),(T 16)]⟩,
 Fq 7 1023 (.mv (T 17)),
 Fq 18 2047 (.ext (T 7) 0),
 Fq 19 2047 (.ext (T 7) 1),
 Fq 5 4095 (.mv (T 18)),
 Fq 6 16383 (.mv (T 19))])
 (.seq (.region [
 Mv 20 5,
 Mv 4 20])
 .ret))),[.tmp 4]⟩
def AR:AFn:=⟨(.seq (.region [
 D 2 (.box true (T 0)),
 D 3 (.box true (T 1)),
 D 4 (.mv (Kb false))])
 (.seq (.region [
 D 5 (.ay 1 (T 2)),
 D 6 (.load none (T 5)),
 D 7 (.bin .eql (T 6) (Ki 0)),
 Mv 8 7,
 Gd 9 8 false (.ay 1 (T 3)),
 Gd 10 8 false (.load none (T 9)),
 Gd 11 8 false (.bin .eql (T 10) (Ki 0)),
 D 12 (.pick (T 8) (Kb true) (T 11)),
 Mv 13 12,
 Gd 14 13 false (.ay 0 (T 2)),
 Gd 15 13 false (.load none (T 14)),
 Gd 16 13 false (.ay 1 (T 2)),
 Gd 17 13 false (.load none (T 16)),
 Gd 18 13 false (.bin .add (T 15) (T 17)),
 Gd 19 13 false (.ay 0 (T 3)),
 Gd 20 13 false (.load none (T 19)),
 Gd 21 13 false (.bin .leq (T 18) (T 20)),
 D 22 (.pick (T 13) (Kb true) (T 21)),
 Mv 23 22,
 Gd 24 23 false (.ay 0 (T 3)),
 Gd 25 23 false (.load none (T 24)),
 Gd 26 23 false (.ay 1 (T 3)),
 Gd 27 23 false (.load none (T 26)),
 Gd 28 23 false (.bin .add (T 25) (T 27)),
 Gd 29 23 false (.ay 0 (T 2)),
 Gd 30 23 false (.load none (T 29)),
 Gd 31 23 false (.bin .leq (T 28) (T 30)),
 D 32 (.pick (T 23) (Kb true) (T 31)),
 Mv 4 32])
 .ret)),[.tmp 4]⟩
def jw:az:=(.seq (.seq (.region [
 Mv 23 4,
 D 24 (.bin .gtr (T 23) (Ki 0))])
 (.cond (T 24)
 .skip
 (.exit 0)))
 (.block 1 (.seq (.region [
 Mv 25 4,
 D 26 (.bin .sub (T 25) (Ki 1)),
 D 27 (.bin .quo (T 26) (Ki 2)),
 Mv 5 27])
 (.seq (.region [
 Mv 28 0,
 Mv 29 5,
 D 30 (.call 124 [(T 28),(T 29)]),
 Mv 31 0,
 Mv 32 4,
 D 33 (.call 124 [(T 31),(T 32)]),
 Mv 6 30,
 Mv 7 33])
 (.seq (.seq (.region [
 Mv 34 0,
 Mv 35 6,
 Mv 36 7,
 D 37 (.call 122 [(T 34),(T 35),(T 36)]),
 D 38 (.un .not (T 37))])
 (.cond (T 38)
 .ret
 .skip))
 (.seq (.region [
 Mv 39 0,
 Mv 40 5,
 Mv 41 7,
 D 42 (.call 177 [(T 39),(T 40),(T 41)])])
 (.seq (.region [
 Mv 43 0,
 Mv 44 4,
 Mv 45 6,
 D 46 (.call 177 [(T 43),(T 44),(T 45)])])
 (.region [
 Mv 47 5,
 Mv 4 47]))))))))
def KV:AFn:=⟨(.seq (.region [
 Mv 8 0,
 D 9 (.br (T 8)),
 D 10 (.ay 5 (T 9)),
 D 11 (.load none (T 10)),
 Mv 4 11])
 (.seq (.region [
 Mv 12 0,
 Mv 13 4,
 Mv 14 1,
 D 15 (.call 177 [(T 12),(T 13),(T 14)])])
 (.seq (.region [
 Mv 16 0,
 D 17 (.br (T 16)),
 D 18 (.ay 5 (T 17)),
 D 19 (.load none (T 18)),
 D 20 (.bin .add (T 19) (Ki 1)),
 D 21 (.br (T 16)),
 D 22 (.ay 5 (T 21)),
 E (.store 1 (T 22) (T 20))])
 (.block 0 (.loop [0,4] jw))))),[]⟩
def RB:AFn:=⟨(.drawn [
 Fq 6 0 (.mv (T 0)),
 Fq 7 1 (.br (T 6)),
 Fq 8 3 (.ay 0 (T 7)),
 Fq 9 7 (.load none (T 8)),
 Fq 10 0 (.mv (T 0)),
 Fq 11 16 (.br (T 10)),
 Fq 12 48 (.ay 3 (T 11)),
 Fq 13 112 (.load (some 2) (T 12)),
 Fq 14 0 (.mv (T 1)),
 Fq 15 0 (.mv (T 2)),
 Fq 16 512 (.conv .u32 (T 15)),
 ⟨(some 17),none,2047,true,.call 225 [(T 9),(T 13),(T 14),(T 16)]⟩]),[]⟩
def cT:az:=(.block 1 (.seq (.region [
 Mv 7 1,
 D 8 (.bin .mul (Ki 2) (T 7)),
 D 9 (.bin .add (T 8) (Ki 1)),
 Mv 4 9])
 (.seq (.seq (.region [
 Mv 10 4,
 D 11 (.bin .add (T 10) (Ki 1)),
 Mv 12 0,
 D 13 (.br (T 12)),
 D 14 (.ay 5 (T 13)),
 D 15 (.load none (T 14)),
 D 16 (.bin .lss (T 11) (T 15)),
 Mv 17 16,
 Gd 18 17 true (.mv (T 0)),
 Gd 19 17 true (.mv (T 0)),
 Gd 20 17 true (.mv (T 4)),
 Gd 21 17 true (.call 124 [(T 19),(T 20)]),
 Gd 22 17 true (.mv (T 0)),
 Gd 23 17 true (.mv (T 4)),
 Gd 24 17 true (.bin .add (T 23) (Ki 1)),
 Gd 25 17 true (.call 124 [(T 22),(T 24)]),
 Gd 26 17 true (.call 122 [(T 18),(T 21),(T 25)]),
 D 27 (.pick (T 17) (T 26) (Kb false))])
 (.cond (T 27)
 (.region [
 Mv 28 4,
 D 29 (.bin .add (T 28) (Ki 1)),
 Mv 4 29])
 .skip))
 (.seq (.seq (.region [
 Mv 30 4,
 Mv 31 0,
 D 32 (.br (T 31)),
 D 33 (.ay 5 (T 32)),
 D 34 (.load none (T 33)),
 D 35 (.bin .geq (T 30) (T 34)),
 Mv 36 35,
 Gd 37 36 false (.mv (T 0)),
 Gd 38 36 false (.mv (T 0)),
 Gd 39 36 false (.mv (T 1)),
 Gd 40 36 false (.call 124 [(T 38),(T 39)]),
 Gd 41 36 false (.mv (T 0)),
 Gd 42 36 false (.mv (T 4)),
 Gd 43 36 false (.call 124 [(T 41),(T 42)]),
 Gd 44 36 false (.call 122 [(T 37),(T 40),(T 43)]),
 Gd 45 36 false (.un .not (T 44)),
 D 46 (.pick (T 36) (Kb true) (T 45))])
 (.cond (T 46)
 .ret
 .skip))
 (.seq (.region [
 Mv 47 0,
 Mv 48 1,
 D 49 (.call 124 [(T 47),(T 48)]),
 Mv 50 0,
 Mv 51 4,
 D 52 (.call 124 [(T 50),(T 51)]),
 Mv 5 49,
 Mv 6 52])
 (.seq (.region [
 Mv 53 0,
 Mv 54 1,
 Mv 55 6,
 D 56 (.call 177 [(T 53),(T 54),(T 55)])])
 (.seq (.region [
 Mv 57 0,
 Mv 58 4,
 Mv 59 5,
 D 60 (.call 177 [(T 57),(T 58),(T 59)])])
 (.region [
 Mv 61 4,
 Mv 1 61]))))))))
def RC:AFn:=⟨(.block 0 (.loop [0,1] cT)),[]⟩
def mK:az:=(.seq (.region [
 D 18 (.bin .lss (T 17) (T 16))])
 (.seq (.cond (T 18)
 .skip
 (.exit 0))
 (.seq (.block 1 (.seq (.region [
 Mv 19 17,
 D 20 (.aD 1 (T 15) (T 17)),
 D 21 (.load none (T 20)),
 Mv 9 19,
 Mv 10 21])
 (.region [
 Mv 22 6,
 Mv 23 10,
 D 24 (.conv .u32 (T 23)),
 Mv 25 9,
 D 26 (.bin .mul (Ki 8) (T 25)),
 D 27 (.bin .shl (T 24) (T 26)),
 D 28 (.bin .or (T 22) (T 27)),
 Mv 6 28])))
 (.region [
 D 29 (.bin .add (T 17) (Ki 1)),
 Mv 17 29]))))
def KW:AFn:=⟨(.seq (.region [
 D 4 (.box true (T 1)),
 D 6 (.mv (C (.int .u32 0))),
 D 7 (.mv (Kb false))])
 (.seq (.region [
 Mv 11 0,
 D 12 (.load (some 2) (T 4)),
 Mv 13 2,
 D 14 (.call 226 [(T 11),(T 12),(T 13)]),
 Mv 8 14])
 (.seq (.seq (.region [
 Mv 15 8,
 D 16 (.len (T 15)),
 D 17 (.mv (Ki 0))])
 (.block 0 (.loop [6,17,16,8,15] mK)))
 (.seq (.region [
 Mv 30 6,
 Mv 31 8,
 D 32 (.eqs true .slice (T 31) (C (.slice none 0 0))),
 Mv 6 30,
 Mv 7 32])
 .ret)))),[.tmp 6,.tmp 7]⟩
def yp:AFn:=⟨(.seq (.region [
 D 5 (.box true (T 1)),
 D 8 (.mv (C (.slice none 0 0)))])
 (.seq (.seq (.region [
 Mv 9 0,
 D 10 (.load (some 2) (T 5)),
 D 11 (.call 115 [(T 9),(T 10)]),
 D 12 (.un .not (T 11)),
 Mv 13 12,
 Gd 14 13 false (.mv (T 2)),
 Gd 15 13 false (.bin .lss (T 14) (Ki 0)),
 D 16 (.pick (T 13) (Kb true) (T 15)),
 Mv 17 16,
 Gd 18 17 false (.mv (T 2)),
 Gd 19 17 false (.ay 1 (T 5)),
 Gd 20 17 false (.load none (T 19)),
 Gd 21 17 false (.mv (T 3)),
 Gd 22 17 false (.bin .sub (T 20) (T 21)),
 Gd 23 17 false (.bin .gtr (T 18) (T 22)),
 D 24 (.pick (T 17) (Kb true) (T 23))])
 (.cond (T 24)
 (.seq (.region [
 D 8 (.mv (C (.slice none 0 0)))])
 .ret)
 .skip))
 (.seq (.region [
 Mv 25 2,
 D 26 (.ay 0 (T 5)),
 D 27 (.load none (T 26)),
 D 28 (.bin .add (T 25) (T 27)),
 Mv 2 28])
 (.seq (.region [
 Mv 29 0,
 D 30 (.br (T 29)),
 D 31 (.ay 0 (T 30)),
 D 32 (.load none (T 31)),
 Mv 33 2,
 Mv 34 2,
 Mv 35 3,
 D 36 (.bin .add (T 34) (T 35)),
 Mv 37 2,
 Mv 38 3,
 D 39 (.bin .add (T 37) (T 38)),
 D 40 (.slice 1 (T 32) (some (T 33)) (some (T 36)) (some (T 39))),
 Mv 8 40])
 .ret)))),[.tmp 8]⟩
def RD:AFn:=⟨(.seq (.region [
 D 2 (.mv (Kb false))])
 (.seq (.region [
 Mv 3 0,
 Mv 4 0,
 D 5 (.bin .neq (T 3) (T 4)),
 Mv 2 5])
 .ret)),[.tmp 2]⟩
def vS:az:=(.seq (.region [
 D 8 (.bin .lss (T 7) (Ki 256))])
 (.seq (.cond (T 8)
 .skip
 (.exit 0))
 (.seq (.block 1 (.seq (.region [
 D 9 (.idx 1 256 none (T 6) (T 7)),
 Mv 5 9])
 (.region [
 Mv 10 5,
 D 11 (.cz 1 256 (T 3) (T 10)),
 E (.store 1 (T 11) (Ki 1))])))
 (.region [
 D 12 (.bin .add (T 7) (Ki 1)),
 Mv 7 12]))))
def KX:AFn:=⟨(.seq (.region [
 D 1 (.box true (T 0)),
 D 2 (.mv (Kb false))])
 (.seq (.region [
 D 3 (.alloc true (List.replicate 256 (.int .i64 0)))])
 (.seq (.seq (.region [
 D 6 (.load (some 256) (T 1)),
 D 7 (.mv (Ki 0))])
 (.block 0 (.loop [7,6,3] vS)))
 (.seq (.drawn [
 Fq 13 0 (.load (some 256) (T 3)),
 Fq 14 0 (.call 229 []),
 Fq 15 3 (.eqs false (.agg (List.replicate 256 .nu)) (T 13) (T 14)),
 Fq 2 7 (.mv (T 15))])
 .ret)))),[.tmp 2]⟩
def iW:AFn:=⟨(.seq (.region [
 D 1 (.box true (T 0)),
 D 2 (.mv (Kb false))])
 (.seq (.seq (.region [
 D 3 (.load (some 262) (T 1)),
 D 4 (.call 244 [(T 3)])])
 (.cond (T 4)
 (.seq (.region [
 D 2 (.mv (Kb true))])
 .ret)
 .skip))
 (.seq (.seq (.region [
 D 5 (.ay 259 (T 1)),
 D 6 (.load none (T 5)),
 D 7 (.call 245 [(T 6),(Ki 4),(Ki 5)]),
 D 8 (.un .not (T 7)),
 Mv 9 8,
 Gd 10 9 false (.ay 258 (T 1)),
 Gd 11 9 false (.load none (T 10)),
 Gd 12 9 false (.call 245 [(T 11),(Ki 0),(Ki 258)]),
 Gd 13 9 false (.un .not (T 12)),
 D 14 (.pick (T 9) (Kb true) (T 13)),
 Mv 15 14,
 Gd 16 15 false (.ay 260 (T 1)),
 Gd 17 15 false (.load none (T 16)),
 Gd 18 15 false (.call 245 [(T 17),(Ki 0),(Ki 15)]),
 Gd 19 15 false (.un .not (T 18)),
 D 20 (.pick (T 15) (Kb true) (T 19)),
 Mv 21 20,
 Gd 22 21 false (.ay 261 (T 1)),
 Gd 23 21 false (.load none (T 22)),
 Gd 24 21 false (.call 245 [(T 23),(Ki 0),(Ki 2)]),
 Gd 25 21 false (.un .not (T 24)),
 D 26 (.pick (T 21) (Kb true) (T 25)),
 Mv 27 26,
 Gd 28 27 false (.load (some 262) (T 1)),
 Gd 29 27 false (.call 246 [(T 28)]),
 Gd 30 27 false (.un .not (T 29)),
 D 31 (.pick (T 27) (Kb true) (T 30))])
 (.cond (T 31)
 (.seq (.region [
 D 2 (.mv (Kb false))])
 .ret)
 .skip))
 (.seq (.seq (.region [
 D 32 (.ay 258 (T 1)),
 D 33 (.load none (T 32))])
 (.block 0 (.seq (.region [
 D 35 (.bin .eql (T 33) (Ki 0)),
 Mv 34 35])
 (.cond (T 34)
 (.seq (.region [
 D 36 (.ay 261 (T 1)),
 D 37 (.load none (T 36)),
 D 38 (.bin .eql (T 37) (Ki 0)),
 Mv 39 38,
 Gd 40 39 false (.ay 261 (T 1)),
 Gd 41 39 false (.load none (T 40)),
 Gd 42 39 false (.bin .eql (T 41) (Ki 1)),
 Gd 43 39 false (.mv (T 42)),
 Gd 44 43 true (.ay 260 (T 1)),
 Gd 45 43 true (.load none (T 44)),
 Gd 46 43 true (.bin .gtr (T 45) (Ki 0)),
 Gd 47 39 false (.pick (T 43) (T 46) (Kb false)),
 D 48 (.pick (T 39) (Kb true) (T 47)),
 Mv 49 48,
 Gd 50 49 false (.ay 261 (T 1)),
 Gd 51 49 false (.load none (T 50)),
 Gd 52 49 false (.bin .eql (T 51) (Ki 2)),
 Gd 53 49 false (.mv (T 52)),
 Gd 54 53 true (.ay 260 (T 1)),
 Gd 55 53 true (.load none (T 54)),
 Gd 56 53 true (.bin .lss (T 55) (Ki 15)),
 Gd 57 49 false (.pick (T 53) (T 56) (Kb false)),
 D 58 (.pick (T 49) (Kb true) (T 57)),
 Mv 2 58])
 .ret)
 (.seq (.region [
 D 60 (.bin .eql (T 33) (Ki 258)),
 Mv 59 60])
 (.cond (T 59)
 (.seq (.drawn [
 Fq 61 0 (.ay 259 (T 1)),
 ⟨(some 62),none,1,true,.load none (T 61)⟩,
 Fq 63 3 (.bin .eql (T 62) (Ki 4)),
 Fq 64 7 (.mv (T 63)),
 Gq 65 64 true 15 (.ay 261 (T 1)),
 ⟨(some 66),(some (64,true)),31,true,.load none (T 65)⟩,
 Gq 67 64 true 63 (.bin .eql (T 66) (Ki 0)),
 Fq 68 127 (.pick (T 64) (T 67) (Kb false)),
 Fq 69 255 (.mv (T 68)),
 Gq 70 69 true 511 (.ay 260 (T 1)),
 Gq 71 69 true 1023 (.load none (T 70)),
 Gq 72 69 true 511 (.ay 258 (T 1)),
 Gq 73 69 true 2559 (.load none (T 72)),
 Gq 74 69 true 6655 (.bin .sub (T 73) (Ki 1)),
 Gq 75 69 true 511 (.ay 0 (T 1)),
 Gq 76 69 true 31231 (.cz 1 258 (T 75) (T 74)),
 Gq 77 69 true 63999 (.load none (T 76)),
 Gq 78 69 true 129535 (.conv .i64 (T 77)),
 Gq 79 69 true 262143 (.bin .eql (T 71) (T 78)),
 Fq 80 524287 (.pick (T 69) (T 79) (Kb false)),
 Fq 81 1048575 (.mv (T 80)),
 Gq 82 81 true 2097151 (.ay 0 (T 1)),
 ⟨(some 83),(some (81,true)),4194303,true,.load (some 258) (T 82)⟩,
 ⟨(some 84),(some (81,true)),8388607,true,.call 206 [(T 83)]⟩,
 Fq 85 16777215 (.pick (T 81) (T 84) (Kb false)),
 Fq 2 33554431 (.mv (T 85))])
 .ret)
 .skip))))))
 (.seq (.drawn [
 Fq 86 0 (.ay 258 (T 1)),
 Fq 87 1 (.load none (T 86)),
 Fq 88 3 (.bin .sub (T 87) (Ki 1)),
 Fq 89 0 (.ay 0 (T 1)),
 Fq 90 15 (.cz 1 258 (T 89) (T 88)),
 Fq 91 31 (.load none (T 90)),
 Fq 92 63 (.conv .i64 (T 91)),
 Fq 93 0 (.ay 260 (T 1)),
 Fq 94 128 (.load none (T 93)),
 Fq 95 0 (.ay 261 (T 1)),
 Fq 96 512 (.load none (T 95)),
 ⟨(some 97),none,2047,true,.call 247 [(T 92),(T 94),(T 96)]⟩,
 Fq 2 4095 (.mv (T 97))])
 .ret))))),[.tmp 2]⟩
def oh:AFn:=⟨(.seq (.region [
 D 2 (.box true (T 0)),
 D 4 (.alloc true (List.replicate 258 (.int .u8 0)++[(.int .i64 0),(.int .i64 0),(.int .i64 0),(.int .i64 0)])),
 D 5 (.mv (Kb false))])
 (.seq (.block 0 (.seq (.region [
 D 25 (.ay 259 (T 2)),
 D 26 (.load none (T 25)),
 D 27 (.bin .lss (T 26) (Ki 4)),
 Mv 24 27])
 (.cond (T 24)
 (.region [
 D 28 (.ay 260 (T 2)),
 D 29 (.load none (T 28)),
 D 30 (.bin .shl (T 29) (C (.int .u64 1))),
 Mv 31 1,
 D 32 (.bin .or (T 30) (T 31)),
 D 33 (.ay 259 (T 2)),
 D 34 (.load none (T 33)),
 D 35 (.bin .add (T 34) (Ki 1)),
 D 36 (.ay 260 (T 2)),
 E (.store 1 (T 36) (T 32)),
 D 37 (.ay 259 (T 2)),
 E (.store 1 (T 37) (T 35))])
 (.seq (.region [
 D 39 (.ay 259 (T 2)),
 D 40 (.load none (T 39)),
 D 41 (.bin .eql (T 40) (Ki 4)),
 Mv 42 41,
 Gd 43 42 true (.mv (T 1)),
 Gd 44 42 true (.bin .eql (T 43) (Ki 0)),
 D 45 (.pick (T 42) (T 44) (Kb false)),
 Mv 38 45])
 (.cond (T 38)
 (.seq (.region [
 D 46 (.ay 258 (T 2)),
 D 47 (.load none (T 46)),
 D 48 (.ay 260 (T 2)),
 D 49 (.load none (T 48)),
 D 50 (.conv .u8 (T 49)),
 D 51 (.ay 0 (T 2)),
 D 52 (.cz 1 258 (T 51) (T 47)),
 E (.store 1 (T 52) (T 50))])
 (.seq (.region [
 D 53 (.ay 258 (T 2)),
 D 54 (.load none (T 53)),
 D 55 (.bin .add (T 54) (Ki 1)),
 D 56 (.ay 258 (T 2)),
 E (.store 1 (T 56) (T 55)),
 D 57 (.ay 261 (T 2)),
 E (.store 1 (T 57) (Ki 0))])
 (.seq (.drawn [
 Fq 58 0 (.load (some 262) (T 2)),
 Fq 59 0 (.ay 258 (T 2)),
 Fq 60 2 (.load none (T 59)),
 Fq 61 6 (.bin .lss (T 60) (Ki 258)),
 Fq 62 14 (.mv (T 61)),
 Gq 63 62 false 30 (.ay 0 (T 2)),
 Gq 64 62 false 62 (.load (some 258) (T 63)),
 Gq 65 62 false 126 (.call 206 [(T 64)]),
 Fq 66 254 (.pick (T 62) (Kb true) (T 65)),
 ⟨none,none,255,true,.store 262 (T 4) (T 58)⟩,
 Fq 5 1023 (.mv (T 66))])
 .ret)))
 (.seq (.region [
 D 68 (.ay 259 (T 2)),
 D 69 (.load none (T 68)),
 D 70 (.bin .eql (T 69) (Ki 4)),
 Mv 67 70])
 (.cond (T 67)
 (.region [
 D 71 (.ay 259 (T 2)),
 E (.store 1 (T 71) (Ki 5))])
 (.seq (.region [
 Mv 73 1,
 D 74 (.bin .eql (T 73) (Ki 0)),
 Mv 72 74])
 (.cond (T 72)
 (.seq (.region [
 D 75 (.ay 261 (T 2)),
 D 76 (.load none (T 75)),
 D 77 (.bin .neq (T 76) (Ki 2)),
 Mv 78 77,
 Gd 79 78 true (.ay 260 (T 2)),
 Gd 80 78 true (.load none (T 79)),
 Gd 81 78 true (.bin .lss (T 80) (Ki 15)),
 D 82 (.pick (T 78) (T 81) (Kb false)),
 Mv 6 82])
 (.seq (.region [
 D 83 (.ay 260 (T 2)),
 D 84 (.load none (T 83)),
 D 85 (.bin .add (T 84) (Ki 1)),
 D 86 (.ay 260 (T 2)),
 E (.store 1 (T 86) (T 85)),
 D 87 (.ay 261 (T 2)),
 E (.store 1 (T 87) (Ki 1)),
 D 88 (.ay 259 (T 2)),
 E (.store 1 (T 88) (Ki 4))])
 (.seq (.region [
 D 89 (.load (some 262) (T 2)),
 Mv 90 6,
 E (.store 262 (T 4) (T 89)),
 Mv 5 90])
 .ret)))
 (.seq (.region [
 D 8 (.ay 261 (T 2)),
 D 9 (.load none (T 8)),
 D 10 (.bin .neq (T 9) (Ki 1)),
 Mv 11 10,
 Gd 12 11 true (.ay 260 (T 2)),
 Gd 13 11 true (.load none (T 12)),
 Gd 14 11 true (.bin .gtr (T 13) (Ki 0)),
 D 15 (.pick (T 11) (T 14) (Kb false)),
 Mv 7 15])
 (.seq (.region [
 D 16 (.ay 260 (T 2)),
 D 17 (.load none (T 16)),
 D 18 (.bin .sub (T 17) (Ki 1)),
 D 19 (.ay 260 (T 2)),
 E (.store 1 (T 19) (T 18)),
 D 20 (.ay 261 (T 2)),
 E (.store 1 (T 20) (Ki 2)),
 D 21 (.ay 259 (T 2)),
 E (.store 1 (T 21) (Ki 4))])
 (.seq (.region [
 D 22 (.load (some 262) (T 2)),
 Mv 23 7,
 E (.store 262 (T 4) (T 22)),
 Mv 5 23])
 .ret))))))))))))
 (.seq (.region [
 D 91 (.load (some 262) (T 2)),
 E (.store 262 (T 4) (T 91)),
 D 5 (.mv (Kb true))])
 .ret))),[.cell 4 (some 262),.tmp 5]⟩
def FO:AFn:=⟨(.seq (.region [
 D 1 (.box true (T 0)),
 D 2 (.mv (Kb false))])
 (.seq (.region [
 D 3 (.load (some 258) (T 1)),
 D 4 (.call 248 [(T 3)]),
 Mv 5 4,
 Gd 6 5 true (.cz 1 258 (T 1) (Ki 257)),
 Gd 7 5 true (.load none (T 6)),
 Gd 8 5 true (.bin .gtr (T 7) (C (.int .u8 0))),
 D 9 (.pick (T 5) (T 8) (Kb false)),
 Mv 2 9])
 .ret)),[.tmp 2]⟩
def RE:AFn:=⟨(.seq (.region [
 D 2 (.mv (C (.slice none 0 0)))])
 (.seq (.seq (.region [
 Mv 3 0,
 D 4 (.eqs false .slice (T 3) (C (.slice none 0 0)))])
 (.cond (T 4)
 (.seq (.region [
 D 2 (.mv (C (.slice none 0 0)))])
 .ret)
 .skip))
 (.seq (.region [
 D 5 (.dO true 2 0 [] []),
 Mv 6 0,
 D 7 (.append true 2 (T 5) (T 6)),
 Mv 2 7])
 .ret))),[.tmp 2]⟩
def RF:AFn:=⟨(.seq (.region [
 Mv 5 0,
 D 6 (.len (T 5)),
 Mv 4 6])
 (.region [
 Mv 7 0,
 Mv 8 4,
 Mv 9 4,
 D 10 (.conv .u64 (T 9)),
 D 11 (.call 256 [(T 10)]),
 Mv 12 1,
 D 13 (.call 255 [(T 7),(Ki 0),(T 8),(T 11),(T 12)])])),[]⟩
def KY:AFn:=⟨(.seq (.region [
 D 2 (.box true (T 0)),
 D 3 (.box true (T 1)),
 D 4 (.mv (Ki 0))])
 (.seq (.drawn [
 Fq 5 0 (.ay 0 (T 2)),
 Fq 6 1 (.load none (T 5)),
 Fq 7 0 (.ay 0 (T 3)),
 Fq 8 4 (.load none (T 7)),
 Fq 9 15 (.call 132 [(T 6),(T 8)]),
 Fq 10 0 (.ay 1 (T 2)),
 Fq 11 32 (.load none (T 10)),
 Fq 12 0 (.ay 1 (T 3)),
 Fq 13 128 (.load none (T 12)),
 ⟨(some 14),none,511,true,.call 132 [(T 11),(T 13)]⟩,
 Fq 15 1023 (.dO true 1 2 [(.int .i64 0),(.int .i64 0)] [(0,1,(T 9)),(1,1,(T 14))]),
 ⟨(some 16),none,2047,true,.call 224 [(T 15)]⟩,
 Fq 4 4095 (.mv (T 16))])
 .ret)),[.tmp 4]⟩
def mL:az:=(.seq (.region [
 D 9 (.bin .lss (T 8) (T 7))])
 (.seq (.cond (T 9)
 .skip
 (.exit 0))
 (.seq (.block 1 (.seq (.region [
 D 10 (.aD 1 (T 6) (T 8)),
 D 11 (.load none (T 10)),
 Mv 5 11])
 (.seq (.region [
 Mv 12 5,
 Mv 13 3,
 D 14 (.bin .neq (T 12) (T 13))])
 (.cond (T 14)
 (.seq (.region [
 Mv 15 5,
 Mv 2 15])
 .ret)
 .skip))))
 (.region [
 D 16 (.bin .add (T 8) (Ki 1)),
 Mv 8 16]))))
def FP:AFn:=⟨(.seq (.region [
 D 2 (.mv (Ki 0))])
 (.seq (.region [
 D 3 (.mv (Ki 0))])
 (.seq (.seq (.region [
 Mv 6 0,
 D 7 (.len (T 6)),
 D 8 (.mv (Ki 0))])
 (.block 0 (.loop [3,6,7,8] mL)))
 (.seq (.region [
 Mv 17 3,
 Mv 2 17])
 .ret)))),[.tmp 2]⟩
def mM:az:=(.seq (.region [
 D 18 (.bin .lss (T 17) (T 16))])
 (.seq (.cond (T 18)
 .skip
 (.exit 0))
 (.seq (.block 1 (.seq (.region [
 Mv 19 17,
 Mv 10 19])
 (.region [
 Mv 20 9,
 Mv 21 10,
 Mv 22 3,
 Mv 23 10,
 D 24 (.bin .mul (Ki 8) (T 23)),
 D 25 (.bin .shr (T 22) (T 24)),
 D 26 (.conv .u8 (T 25)),
 D 27 (.aD 1 (T 20) (T 21)),
 E (.store 1 (T 27) (T 26))])))
 (.region [
 D 28 (.bin .add (T 17) (Ki 1)),
 Mv 17 28]))))
def KZ:AFn:=⟨(.seq (.region [
 D 5 (.box true (T 1)),
 D 8 (.mv (Kb false))])
 (.seq (.region [
 Mv 11 0,
 D 12 (.load (some 2) (T 5)),
 Mv 13 2,
 D 14 (.call 226 [(T 11),(T 12),(T 13)]),
 Mv 9 14])
 (.seq (.seq (.region [
 Mv 15 9,
 D 16 (.len (T 15)),
 D 17 (.mv (Ki 0))])
 (.block 0 (.loop [17,16,9,3] mM)))
 (.seq (.region [
 Mv 29 9,
 D 30 (.eqs true .slice (T 29) (C (.slice none 0 0))),
 Mv 8 30])
 .ret)))),[.tmp 8]⟩
def AS:AFn:=⟨(.seq (.region [
 D 4 (.box true (T 1)),
 D 6 (.mv (C (.slice none 0 0)))])
 (.seq (.seq (.region [
 Mv 7 2,
 D 8 (.bin .lss (T 7) (Ki 0)),
 Mv 9 8,
 Gd 10 9 false (.mv (T 2)),
 Gd 11 9 false (.bin .gtr (T 10) (Ki 1048576)),
 D 12 (.pick (T 9) (Kb true) (T 11))])
 (.cond (T 12)
 (.seq (.region [
 D 6 (.mv (C (.slice none 0 0)))])
 .ret)
 .skip))
 (.seq (.region [
 Mv 13 0,
 D 14 (.load (some 2) (T 4)),
 Mv 15 2,
 D 16 (.bin .shl (T 15) (C (.int .u64 2))),
 D 17 (.call 180 [(T 13),(T 14),(T 16),(Ki 4)]),
 Mv 6 17])
 .ret))),[.tmp 6]⟩
def vT:az:=(.seq (.region [
 D 3 (.bin .lss (T 2) (Ki 256))])
 (.seq (.cond (T 3)
 .skip
 (.exit 0))
 (.seq (.block 1 (.seq (.region [
 Mv 4 2,
 Mv 1 4])
 (.region [
 Mv 5 1,
 D 6 (.cz 1 256 (T 0) (T 5)),
 E (.store 1 (T 6) (Ki 1))])))
 (.region [
 D 7 (.bin .add (T 2) (Ki 1)),
 Mv 2 7]))))
def RG:AFn:=⟨(.seq (.region [
 D 0 (.alloc true (List.replicate 256 (.int .i64 0)))])
 (.seq (.seq (.region [
 D 2 (.mv (Ki 0))])
 (.block 0 (.loop [2,0] vT)))
 (.seq (.region [
 D 8 (.load (some 256) (T 0)),
 E (.store 256 (T 0) (T 8))])
 .ret))),[.cell 0 (some 256)]⟩
def FQ:AFn:=⟨(.seq (.region [
 D 1 (.box true (T 0)),
 D 2 (.mv (Kb false))])
 (.seq (.drawn [
 Fq 3 0 (.ay 259 (T 1)),
 ⟨(some 4),none,1,true,.load none (T 3)⟩,
 ⟨(some 5),none,3,true,.call 245 [(T 4),(Ki 0),(Ki 3)]⟩,
 Fq 6 7 (.mv (T 5)),
 Gq 7 6 true 15 (.ay 260 (T 1)),
 Gq 8 6 true 31 (.load none (T 7)),
 Gq 9 6 true 15 (.ay 259 (T 1)),
 Gq 10 6 true 79 (.load none (T 9)),
 Gq 11 6 true 207 (.bin .shl (Ki 1) (T 10)),
 Gq 12 6 true 463 (.bin .sub (T 11) (Ki 1)),
 ⟨(some 13),(some (6,true)),1023,true,.call 245 [(T 8),(Ki 0),(T 12)]⟩,
 Fq 14 2047 (.pick (T 6) (T 13) (Kb false)),
 Fq 15 4095 (.mv (T 14)),
 Gq 16 15 true 8191 (.load (some 262) (T 1)),
 Gq 17 15 true 8191 (.ay 259 (T 1)),
 Gq 18 15 true 24575 (.load none (T 17)),
 Gq 19 15 true 8191 (.ay 260 (T 1)),
 Gq 20 15 true 73727 (.load none (T 19)),
 Gq 21 15 true 253951 (.build (List.replicate 258 (.int .u8 0)++[(.int .i64 0),(.int .i64 0),(.int .i64 0),(.int .i64 0)]) [(259,1,(T 18)),(260,1,(T 20))]),
 Gq 22 15 true 524287 (.eqs false (.agg (List.replicate 262 .nu)) (T 16) (T 21)),
 Fq 23 1048575 (.pick (T 15) (T 22) (Kb false)),
 Fq 2 2097151 (.mv (T 23))])
 .ret)),[.tmp 2]⟩
def K0:AFn:=⟨(.seq (.region [
 D 6 (.mv (Kb false))])
 (.seq (.region [
 Mv 7 0,
 Mv 8 1,
 D 9 (.bin .geq (T 7) (T 8)),
 Mv 10 9,
 Gd 11 10 true (.mv (T 0)),
 Gd 12 10 true (.mv (T 2)),
 Gd 13 10 true (.bin .leq (T 11) (T 12)),
 D 14 (.pick (T 10) (T 13) (Kb false)),
 Mv 6 14])
 .ret)),[.tmp 6]⟩
def mO:az:=(.seq (.region [
 D 8 (.bin .lss (T 7) (Ki 258))])
 (.seq (.cond (T 8)
 .skip
 (.exit 0))
 (.seq (.block 1 (.seq (.region [
 Mv 9 7,
 D 10 (.idx 1 258 none (T 6) (T 7)),
 Mv 3 9,
 Mv 4 10])
 (.seq (.region [
 Mv 11 4,
 D 12 (.bin .gtr (T 11) (C (.int .u8 15))),
 Mv 13 12,
 Gd 14 13 false (.mv (T 3)),
 Gd 15 13 false (.ay 258 (T 1)),
 Gd 16 13 false (.load none (T 15)),
 Gd 17 13 false (.bin .geq (T 14) (T 16)),
 Gd 18 13 false (.mv (T 17)),
 Gd 19 18 true (.mv (T 4)),
 Gd 20 18 true (.bin .gtr (T 19) (C (.int .u8 0))),
 Gd 21 13 false (.pick (T 18) (T 20) (Kb false)),
 D 22 (.pick (T 13) (Kb true) (T 21))])
 (.cond (T 22)
 (.seq (.region [
 D 2 (.mv (Kb false))])
 .ret)
 .skip))))
 (.region [
 D 23 (.bin .add (T 7) (Ki 1)),
 Mv 7 23]))))
def K6:AFn:=⟨(.seq (.region [
 D 1 (.box true (T 0)),
 D 2 (.mv (Kb false))])
 (.seq (.seq (.region [
 D 5 (.ay 0 (T 1)),
 D 6 (.load (some 258) (T 5)),
 D 7 (.mv (Ki 0))])
 (.block 0 (.loop [1,6,7] mO)))
 (.seq (.region [
 D 2 (.mv (Kb true))])
 .ret))),[.tmp 2]⟩
def FR:AFn:=⟨(.seq (.region [
 D 6 (.mv (Kb false))])
 (.seq (.seq (.region [
 Mv 7 2])
 (.block 0 (.seq (.region [
 D 9 (.bin .eql (T 7) (Ki 0)),
 Mv 8 9])
 (.cond (T 8)
 (.seq (.region [
 Mv 10 0,
 Mv 11 1,
 D 12 (.bin .eql (T 10) (T 11)),
 Mv 6 12])
 .ret)
 (.seq (.region [
 D 14 (.bin .eql (T 7) (Ki 1)),
 Mv 13 14])
 (.cond (T 13)
 (.seq (.region [
 Mv 15 0,
 Mv 16 1,
 D 17 (.bin .lss (T 15) (T 16)),
 Mv 6 17])
 .ret)
 .skip))))))
 (.seq (.region [
 Mv 18 0,
 Mv 19 1,
 D 20 (.bin .gtr (T 18) (T 19)),
 Mv 6 20])
 .ret))),[.tmp 6]⟩
def RH:AFn:=⟨(.seq (.region [
 D 1 (.box true (T 0)),
 D 2 (.mv (Kb false))])
 (.seq (.region [
 D 3 (.load (some 258) (T 1)),
 D 4 (.call 266 [(T 3)]),
 D 5 (.bin .eql (T 4) (Ki 32768)),
 Mv 2 5])
 .ret)),[.tmp 2]⟩
def vU:az:=(.seq (.region [
 D 7 (.bin .lss (T 6) (Ki 258))])
 (.seq (.cond (T 7)
 .skip
 (.exit 0))
 (.seq (.block 1 (.seq (.region [
 D 8 (.idx 1 258 none (T 5) (T 6)),
 Mv 4 8])
 (.seq (.region [
 Mv 9 4,
 D 10 (.conv .i64 (T 9)),
 D 11 (.bin .lss (T 10) (Ki 16))])
 (.cond (T 11)
 (.region [
 Mv 12 4,
 D 13 (.cz 1 16 (T 2) (T 12)),
 D 14 (.load none (T 13)),
 D 15 (.bin .add (T 14) (Ki 1)),
 D 16 (.cz 1 16 (T 2) (T 12)),
 E (.store 1 (T 16) (T 15))])
 .skip))))
 (.region [
 D 17 (.bin .add (T 6) (Ki 1)),
 Mv 6 17]))))
def RI:AFn:=⟨(.seq (.region [
 D 1 (.box true (T 0)),
 D 2 (.alloc true (List.replicate 16 (.int .i64 0)))])
 (.seq (.seq (.region [
 D 5 (.load (some 258) (T 1)),
 D 6 (.mv (Ki 0))])
 (.block 0 (.loop [6,5,2] vU)))
 (.seq (.region [
 D 18 (.load (some 16) (T 2)),
 E (.store 16 (T 2) (T 18))])
 .ret))),[.cell 2 (some 16)]⟩
def vV:az:=(.seq (.seq (.region [
 Mv 56 18,
 Mv 57 5,
 D 58 (.bin .lss (T 56) (T 57))])
 (.cond (T 58)
 .skip
 (.exit 0)))
 (.seq (.block 1 (.seq (.seq (.region [
 Mv 62 0,
 D 63 (.load (some 2) (T 7)),
 Mv 64 18,
 D 65 (.call 125 [(T 62),(T 63),(T 64)]),
 Mv 61 65,
 D 66 (.ext (T 61) 0),
 D 67 (.ext (T 61) 1),
 Mv 19 66,
 Mv 20 67])
 (.seq (.region [
 Mv 68 19,
 Mv 69 4,
 D 70 (.bin .eql (T 68) (T 69))])
 (.cond (T 70)
 (.region [
 Mv 71 12,
 D 72 (.bin .add (T 71) (Ki 1)),
 Mv 12 72])
 .skip)))
 (.region [
 Mv 73 13,
 D 74 (.bin .add (T 73) (Ki 1)),
 Mv 13 74])))
 (.region [
 Mv 59 18,
 D 60 (.bin .add (T 59) (Ki 1)),
 Mv 18 60])))
def K7:AFn:=⟨(.seq (.region [
 D 7 (.box true (T 1)),
 D 8 (.box true (T 2)),
 D 12 (.mv (Ki 0)),
 D 13 (.mv (Ki 0)),
 D 14 (.mv (Kb false))])
 (.seq (.seq (.region [
 Mv 21 0,
 D 22 (.load (some 2) (T 7)),
 D 23 (.load (some 2) (T 8)),
 Mv 24 3,
 D 25 (.call 267 [(T 21),(T 22),(T 23),(T 24)]),
 D 26 (.un .not (T 25)),
 Mv 27 26,
 Gd 28 27 false (.mv (T 5)),
 Gd 29 27 false (.ay 1 (T 7)),
 Gd 30 27 false (.load none (T 29)),
 Gd 31 27 false (.call 268 [(T 28),(Ki 0),(T 30)]),
 Gd 32 27 false (.un .not (T 31)),
 D 33 (.pick (T 27) (Kb true) (T 32))])
 (.cond (T 33)
 (.seq (.region [
 D 12 (.mv (Ki 0)),
 D 13 (.mv (Ki 0)),
 D 14 (.mv (Kb false))])
 .ret)
 .skip))
 (.seq (.region [
 Mv 34 5,
 Mv 35 3,
 D 36 (.bin .quo (T 34) (T 35)),
 Mv 15 36])
 (.seq (.seq (.region [
 Mv 37 15,
 D 38 (.bin .gtr (T 37) (Ki 0))])
 (.cond (T 38)
 (.seq (.region [
 Mv 40 0,
 D 41 (.load (some 2) (T 8)),
 Mv 42 15,
 D 43 (.bin .sub (T 42) (Ki 1)),
 D 44 (.bin .mul (T 43) (Ki 256)),
 Mv 45 4,
 D 46 (.conv .i64 (T 45)),
 D 47 (.bin .add (T 44) (T 46)),
 D 48 (.call 179 [(T 40),(T 41),(T 47)]),
 Mv 39 48,
 D 49 (.ext (T 39) 0),
 D 50 (.ext (T 39) 1),
 Mv 16 49,
 Mv 17 50])
 (.region [
 Mv 51 16,
 D 52 (.conv .i64 (T 51)),
 Mv 12 52]))
 .skip))
 (.seq (.seq (.region [
 Mv 53 15,
 Mv 54 3,
 D 55 (.bin .mul (T 53) (T 54)),
 Mv 18 55])
 (.block 0 (.loop [12,13,18,5,0,7,4] vV)))
 (.seq (.region [
 Mv 75 12,
 Mv 76 13,
 Mv 12 75,
 Mv 13 76,
 D 14 (.mv (Kb true))])
 .ret)))))),[.tmp 12,.tmp 13,.tmp 14]⟩
def kC:az:=(.block 1 (.seq (.region [
 Mv 21 2,
 Mv 22 1,
 D 23 (.bin .sub (T 21) (T 22)),
 Mv 12 23])
 (.seq (.seq (.region [
 Mv 24 12,
 D 25 (.bin .leq (T 24) (Ki 12))])
 (.cond (T 25)
 (.seq (.region [
 Mv 26 0,
 Mv 27 1,
 Mv 28 2,
 Mv 29 4,
 D 30 (.call 269 [(T 26),(T 27),(T 28),(T 29)])])
 .ret)
 .skip))
 (.seq (.seq (.region [
 Mv 31 3,
 D 32 (.bin .eql (T 31) (Ki 0))])
 (.cond (T 32)
 (.seq (.region [
 Mv 33 0,
 Mv 34 1,
 Mv 35 2,
 Mv 36 4,
 D 37 (.call 270 [(T 33),(T 34),(T 35),(T 36)])])
 .ret)
 .skip))
 (.seq (.seq (.region [
 Mv 38 10,
 D 39 (.un .not (T 38))])
 (.cond (T 39)
 (.seq (.region [
 Mv 40 0,
 Mv 41 1,
 Mv 42 2,
 Mv 43 4,
 D 44 (.call 271 [(T 40),(T 41),(T 42),(T 43)])])
 (.region [
 Mv 45 3,
 D 46 (.bin .sub (T 45) (Ki 1)),
 Mv 3 46]))
 .skip))
 (.seq (.region [
 Mv 48 0,
 Mv 49 1,
 Mv 50 2,
 Mv 51 4,
 D 52 (.call 272 [(T 48),(T 49),(T 50),(T 51)]),
 Mv 47 52,
 D 53 (.ext (T 47) 0),
 D 54 (.ext (T 47) 1),
 Mv 13 53,
 Mv 14 54])
 (.seq (.seq (.region [
 Mv 55 14,
 D 56 (.bin .eql (T 55) (Ki 2))])
 (.cond (T 56)
 (.seq (.region [
 Mv 57 0,
 Mv 58 1,
 Mv 59 2,
 Mv 60 4,
 D 61 (.call 273 [(T 57),(T 58),(T 59),(T 60)])])
 (.seq (.region [
 Mv 62 2,
 D 63 (.bin .sub (T 62) (Ki 1)),
 Mv 64 13,
 Mv 65 1,
 D 66 (.bin .sub (T 64) (T 65)),
 D 67 (.bin .sub (T 63) (T 66)),
 Mv 13 67])
 (.region [
 D 14 (.mv (Ki 1))])))
 .skip))
 (.seq (.seq (.region [
 Mv 68 10,
 Mv 69 68,
 Gd 70 69 true (.mv (T 11)),
 D 71 (.pick (T 69) (T 70) (Kb false)),
 Mv 72 71,
 Gd 73 72 true (.mv (T 14)),
 Gd 74 72 true (.bin .eql (T 73) (Ki 1)),
 D 75 (.pick (T 72) (T 74) (Kb false))])
 (.cond (T 75)
 (.seq (.region [
 Mv 76 0,
 Mv 77 1,
 Mv 78 2,
 Mv 79 4,
 D 80 (.call 274 [(T 76),(T 77),(T 78),(T 79)])])
 (.cond (T 80)
 .ret
 .skip))
 .skip))
 (.seq (.seq (.drawn [
 Fq 81 0 (.mv (T 1)),
 Fq 82 1 (.bin .gtr (T 81) (Ki 0)),
 Fq 83 3 (.mv (T 82)),
 Gq 84 83 true 7 (.mv (T 4)),
 Gq 85 83 true 7 (.mv (T 0)),
 Gq 86 83 true 7 (.mv (T 1)),
 Gq 87 83 true 39 (.bin .sub (T 86) (Ki 1)),
 Gq 88 83 true 119 (.aD 2 (T 85) (T 87)),
 Gq 89 83 true 247 (.load (some 2) (T 88)),
 Gq 90 83 true 7 (.mv (T 0)),
 Gq 91 83 true 7 (.mv (T 13)),
 Gq 92 83 true 1543 (.aD 2 (T 90) (T 91)),
 Gq 93 83 true 3591 (.load (some 2) (T 92)),
 ⟨(some 94),(some (83,true)),8191,true,.dw (T 84) [(T 89),(T 93)]⟩,
 Gq 95 83 true 16383 (.bin .lss (T 94) (Ki 0)),
 Gq 96 83 true 32767 (.un .not (T 95)),
 Fq 97 65535 (.pick (T 83) (T 96) (Kb false))])
 (.cond (T 97)
 (.seq (.region [
 Mv 98 0,
 Mv 99 1,
 Mv 100 2,
 Mv 101 13,
 Mv 102 4,
 D 103 (.call 275 [(T 98),(T 99),(T 100),(T 101),(T 102)]),
 Mv 15 103])
 (.seq (.region [
 Mv 104 15,
 Mv 1 104])
 (.exit 1)))
 .skip))
 (.seq (.region [
 Mv 106 0,
 Mv 107 1,
 Mv 108 2,
 Mv 109 13,
 Mv 110 4,
 D 111 (.call 276 [(T 106),(T 107),(T 108),(T 109),(T 110)]),
 Mv 105 111,
 D 112 (.ext (T 105) 0),
 D 113 (.ext (T 105) 1),
 Mv 16 112,
 Mv 17 113])
 (.seq (.region [
 Mv 114 17,
 Mv 11 114])
 (.seq (.region [
 Mv 115 16,
 Mv 116 1,
 D 117 (.bin .sub (T 115) (T 116)),
 Mv 118 2,
 Mv 119 16,
 D 120 (.bin .sub (T 118) (T 119)),
 Mv 18 117,
 Mv 19 120])
 (.seq (.region [
 Mv 121 12,
 D 122 (.bin .quo (T 121) (Ki 8)),
 Mv 20 122])
 (.seq (.region [
 Mv 123 18,
 Mv 124 19,
 D 125 (.bin .lss (T 123) (T 124))])
 (.cond (T 125)
 (.seq (.region [
 Mv 126 18,
 Mv 127 20,
 D 128 (.bin .geq (T 126) (T 127)),
 Mv 10 128])
 (.seq (.region [
 Mv 129 0,
 Mv 130 1,
 Mv 131 16,
 Mv 132 3,
 Mv 133 4,
 D 134 (.call 255 [(T 129),(T 130),(T 131),(T 132),(T 133)])])
 (.region [
 Mv 135 16,
 D 136 (.bin .add (T 135) (Ki 1)),
 Mv 1 136])))
 (.seq (.region [
 Mv 137 19,
 Mv 138 20,
 D 139 (.bin .geq (T 137) (T 138)),
 Mv 10 139])
 (.seq (.region [
 Mv 140 0,
 Mv 141 16,
 D 142 (.bin .add (T 141) (Ki 1)),
 Mv 143 2,
 Mv 144 3,
 Mv 145 4,
 D 146 (.call 255 [(T 140),(T 142),(T 143),(T 144),(T 145)])])
 (.region [
 Mv 147 16,
 Mv 2 147]))))))))))))))))))
def RJ:AFn:=⟨(.seq (.region [
 D 10 (.mv (Kb true))])
 (.seq (.region [
 D 11 (.mv (Kb true))])
 (.block 0 (.loop [3,11,10,0,1,2,4] kC)))),[]⟩
def RK:AFn:=⟨(.seq (.region [
 D 2 (.mv (Ki 0))])
 (.seq (.cond (Kb false)
 (.seq (.region [
 Mv 3 0,
 D 4 (.conv .u32 (T 3)),
 D 5 (.call 277 [(T 4)]),
 Mv 2 5])
 .ret)
 .skip)
 (.seq (.region [
 Mv 6 0,
 D 7 (.call 278 [(T 6)]),
 Mv 2 7])
 .ret))),[.tmp 2]⟩
def vW:az:=(.seq (.region [
 D 7 (.bin .lss (T 6) (Ki 258))])
 (.seq (.cond (T 7)
 .skip
 (.exit 0))
 (.seq (.block 1 (.seq (.region [
 D 8 (.idx 1 258 none (T 5) (T 6)),
 Mv 4 8])
 (.region [
 Mv 9 2,
 Mv 10 4,
 D 11 (.call 283 [(T 10)]),
 D 12 (.bin .add (T 9) (T 11)),
 Mv 2 12])))
 (.region [
 D 13 (.bin .add (T 6) (Ki 1)),
 Mv 6 13]))))
def RL:AFn:=⟨(.seq (.region [
 D 1 (.box true (T 0)),
 D 2 (.mv (Ki 0))])
 (.seq (.seq (.region [
 D 5 (.load (some 258) (T 1)),
 D 6 (.mv (Ki 0))])
 (.block 0 (.loop [2,6,5] vW)))
 (.seq (.region [
 Mv 14 2,
 Mv 2 14])
 .ret))),[.tmp 2]⟩
def uN:AFn:=⟨(.seq (.region [
 D 5 (.box true (T 1)),
 D 6 (.box true (T 2)),
 D 8 (.mv (Kb false))])
 (.seq (.seq (.region [
 Mv 9 0,
 D 10 (.load (some 2) (T 5)),
 D 11 (.call 115 [(T 9),(T 10)]),
 D 12 (.un .not (T 11)),
 Mv 13 12,
 Gd 14 13 false (.mv (T 0)),
 Gd 15 13 false (.load (some 2) (T 6)),
 Gd 16 13 false (.call 115 [(T 14),(T 15)]),
 Gd 17 13 false (.un .not (T 16)),
 D 18 (.pick (T 13) (Kb true) (T 17)),
 Mv 19 18,
 Gd 20 19 false (.ay 1 (T 5)),
 Gd 21 19 false (.load none (T 20)),
 Gd 22 19 false (.call 268 [(T 21),(Ki 1),(Ki 65536)]),
 Gd 23 19 false (.un .not (T 22)),
 D 24 (.pick (T 19) (Kb true) (T 23)),
 Mv 25 24,
 Gd 26 25 false (.mv (T 3)),
 Gd 27 25 false (.call 268 [(T 26),(Ki 1),(Ki 65536)]),
 Gd 28 25 false (.un .not (T 27)),
 D 29 (.pick (T 25) (Kb true) (T 28))])
 (.cond (T 29)
 (.seq (.region [
 D 8 (.mv (Kb false))])
 .ret)
 .skip))
 (.seq (.drawn [
 Fq 30 0 (.load (some 2) (T 5)),
 Fq 31 0 (.load (some 2) (T 6)),
 ⟨(some 32),none,3,true,.call 284 [(T 30),(T 31)]⟩,
 Fq 33 7 (.mv (T 32)),
 Gq 34 33 true 15 (.ay 1 (T 6)),
 Gq 35 33 true 31 (.load none (T 34)),
 Gq 36 33 true 15 (.ay 1 (T 5)),
 Gq 37 33 true 79 (.load none (T 36)),
 Gq 38 33 true 15 (.mv (T 3)),
 Gq 39 33 true 463 (.call 285 [(T 37),(T 38)]),
 Gq 40 33 true 1023 (.bin .geq (T 35) (T 39)),
 Fq 41 2047 (.pick (T 33) (T 40) (Kb false)),
 Fq 8 4095 (.mv (T 41))])
 .ret))),[.tmp 8]⟩
def K8:AFn:=⟨(.seq (.region [
 D 6 (.mv (Kb false))])
 (.seq (.region [
 Mv 7 0,
 Mv 8 1,
 D 9 (.bin .geq (T 7) (T 8)),
 Mv 10 9,
 Gd 11 10 true (.mv (T 0)),
 Gd 12 10 true (.mv (T 2)),
 Gd 13 10 true (.bin .leq (T 11) (T 12)),
 D 14 (.pick (T 10) (T 13) (Kb false)),
 Mv 6 14])
 .ret)),[.tmp 6]⟩
def vX:az:=(.seq (.seq (.drawn [
 Fq 18 0 (.mv (T 9)),
 Fq 19 0 (.mv (T 1)),
 Fq 20 3 (.bin .gtr (T 18) (T 19)),
 Fq 21 7 (.mv (T 20)),
 Gq 22 21 true 15 (.mv (T 3)),
 Gq 23 21 true 15 (.mv (T 0)),
 Gq 24 21 true 15 (.mv (T 9)),
 Gq 25 21 true 111 (.aD 2 (T 23) (T 24)),
 Gq 26 21 true 239 (.load (some 2) (T 25)),
 Gq 27 21 true 15 (.mv (T 0)),
 Gq 28 21 true 15 (.mv (T 9)),
 Gq 29 21 true 1039 (.bin .sub (T 28) (Ki 1)),
 Gq 30 21 true 3599 (.aD 2 (T 27) (T 29)),
 Gq 31 21 true 7695 (.load (some 2) (T 30)),
 ⟨(some 32),(some (21,true)),16383,true,.dw (T 22) [(T 26),(T 31)]⟩,
 Gq 33 21 true 32767 (.bin .lss (T 32) (Ki 0)),
 Fq 34 65535 (.pick (T 21) (T 33) (Kb false))])
 (.cond (T 34)
 .skip
 (.exit 2)))
 (.seq (.block 3 (.drawn [
 Fq 37 0 (.mv (T 0)),
 Fq 38 0 (.mv (T 9)),
 Fq 39 0 (.mv (T 0)),
 Fq 40 0 (.mv (T 9)),
 Fq 41 8 (.bin .sub (T 40) (Ki 1)),
 Fq 42 0 (.mv (T 0)),
 Fq 43 0 (.mv (T 9)),
 Fq 44 64 (.bin .sub (T 43) (Ki 1)),
 Fq 45 224 (.aD 2 (T 42) (T 44)),
 Fq 46 480 (.load (some 2) (T 45)),
 Fq 47 0 (.mv (T 0)),
 Fq 48 0 (.mv (T 9)),
 Fq 49 3072 (.aD 2 (T 47) (T 48)),
 Fq 50 7168 (.load (some 2) (T 49)),
 Fq 51 16355 (.aD 2 (T 37) (T 38)),
 ⟨none,none,32739,true,.store 2 (T 51) (T 46)⟩,
 Fq 52 65535 (.aD 2 (T 39) (T 41)),
 ⟨none,none,131071,true,.store 2 (T 52) (T 50)⟩]))
 (.region [
 Mv 35 9,
 D 36 (.bin .sub (T 35) (Ki 1)),
 Mv 9 36])))
def vY:az:=(.seq (.seq (.region [
 Mv 12 8,
 Mv 13 2,
 D 14 (.bin .lss (T 12) (T 13))])
 (.cond (T 14)
 .skip
 (.exit 0)))
 (.seq (.block 1 (.seq (.region [
 Mv 17 8,
 Mv 9 17])
 (.block 2 (.loop [9,2,1,3,8,0] vX))))
 (.region [
 Mv 15 8,
 D 16 (.bin .add (T 15) (Ki 1)),
 Mv 8 16])))
def RM:AFn:=⟨(.seq (.region [
 Mv 10 1,
 D 11 (.bin .add (T 10) (Ki 1)),
 Mv 8 11])
 (.block 0 (.loop [3,1,2,8,0] vY))),[]⟩
def vZ:az:=(.seq (.seq (.region [
 Mv 32 12,
 D 33 (.bin .geq (T 32) (Ki 0))])
 (.cond (T 33)
 .skip
 (.exit 2)))
 (.seq (.block 3 (.seq (.drawn [
 Fq 36 0 (.mv (T 0)),
 Fq 37 0 (.mv (T 8)),
 Fq 38 0 (.mv (T 0)),
 Fq 39 0 (.mv (T 8)),
 Fq 40 0 (.mv (T 12)),
 Fq 41 24 (.bin .add (T 39) (T 40)),
 Fq 42 0 (.mv (T 0)),
 Fq 43 0 (.mv (T 8)),
 Fq 44 0 (.mv (T 12)),
 Fq 45 384 (.bin .add (T 43) (T 44)),
 Fq 46 960 (.aD 2 (T 42) (T 45)),
 Fq 47 1984 (.load (some 2) (T 46)),
 Fq 48 0 (.mv (T 0)),
 Fq 49 0 (.mv (T 8)),
 Fq 50 12288 (.aD 2 (T 48) (T 49)),
 Fq 51 28672 (.load (some 2) (T 50)),
 Fq 52 65475 (.aD 2 (T 36) (T 37)),
 ⟨none,none,131011,true,.store 2 (T 52) (T 47)⟩,
 Fq 53 262143 (.aD 2 (T 38) (T 41)),
 ⟨none,none,524287,true,.store 2 (T 53) (T 51)⟩])
 (.region [
 Mv 54 0,
 Mv 55 9,
 Mv 56 12,
 Mv 57 8,
 Mv 58 3,
 D 59 (.call 286 [(T 54),(T 55),(T 56),(T 57),(T 58)])])))
 (.region [
 Mv 34 12,
 D 35 (.bin .sub (T 34) (Ki 1)),
 Mv 12 35])))
def v8:az:=(.seq (.seq (.region [
 Mv 20 11,
 D 21 (.bin .geq (T 20) (Ki 0))])
 (.cond (T 21)
 .skip
 (.exit 0)))
 (.seq (.block 1 (.region [
 Mv 24 0,
 Mv 25 11,
 Mv 26 10,
 Mv 27 8,
 Mv 28 3,
 D 29 (.call 286 [(T 24),(T 25),(T 26),(T 27),(T 28)])]))
 (.region [
 Mv 22 11,
 D 23 (.bin .sub (T 22) (Ki 1)),
 Mv 11 23])))
def RN:AFn:=⟨(.seq (.region [
 Mv 13 1,
 Mv 8 13])
 (.seq (.region [
 D 9 (.mv (Ki 0))])
 (.seq (.region [
 Mv 14 2,
 Mv 15 1,
 D 16 (.bin .sub (T 14) (T 15)),
 Mv 10 16])
 (.seq (.seq (.region [
 Mv 17 10,
 D 18 (.bin .sub (T 17) (Ki 1)),
 D 19 (.bin .quo (T 18) (Ki 2)),
 Mv 11 19])
 (.block 0 (.loop [11,9,0,10,8,3] v8)))
 (.seq (.region [
 Mv 30 10,
 D 31 (.bin .sub (T 30) (Ki 1)),
 Mv 12 31])
 (.block 2 (.loop [12,0,9,8,3] vZ))))))),[]⟩
def mP:az:=(.seq (.seq (.region [
 Mv 28 11,
 Mv 29 1,
 Mv 30 8,
 D 31 (.bin .quo (T 30) (Ki 4)),
 D 32 (.bin .mul (T 31) (Ki 2)),
 D 33 (.bin .add (T 29) (T 32)),
 D 34 (.bin .add (T 33) (Ki 1)),
 D 35 (.bin .leq (T 28) (T 34))])
 (.cond (T 35)
 .skip
 (.exit 0)))
 (.seq (.block 1 (.seq (.region [
 D 38 (.call 288 [(T 9)]),
 Mv 39 10,
 D 40 (.bin .sub (T 39) (C (.int .u64 1))),
 D 41 (.bin .and (T 38) (T 40)),
 D 42 (.conv .i64 (T 41)),
 Mv 12 42])
 (.seq (.seq (.region [
 Mv 43 12,
 Mv 44 8,
 D 45 (.bin .geq (T 43) (T 44))])
 (.cond (T 45)
 (.region [
 Mv 46 12,
 Mv 47 8,
 D 48 (.bin .sub (T 46) (T 47)),
 Mv 12 48])
 .skip))
 (.drawn [
 Fq 49 0 (.mv (T 0)),
 Fq 50 0 (.mv (T 11)),
 Fq 51 0 (.mv (T 0)),
 Fq 52 0 (.mv (T 1)),
 Fq 53 0 (.mv (T 12)),
 Fq 54 24 (.bin .add (T 52) (T 53)),
 Fq 55 0 (.mv (T 0)),
 Fq 56 0 (.mv (T 1)),
 Fq 57 0 (.mv (T 12)),
 Fq 58 384 (.bin .add (T 56) (T 57)),
 Fq 59 960 (.aD 2 (T 55) (T 58)),
 Fq 60 1984 (.load (some 2) (T 59)),
 Fq 61 0 (.mv (T 0)),
 Fq 62 0 (.mv (T 11)),
 Fq 63 12288 (.aD 2 (T 61) (T 62)),
 Fq 64 28672 (.load (some 2) (T 63)),
 Fq 65 65475 (.aD 2 (T 49) (T 50)),
 ⟨none,none,131011,true,.store 2 (T 65) (T 60)⟩,
 Fq 66 262143 (.aD 2 (T 51) (T 54)),
 ⟨none,none,524287,true,.store 2 (T 66) (T 64)⟩]))))
 (.region [
 Mv 36 11,
 D 37 (.bin .add (T 36) (Ki 1)),
 Mv 11 37])))
def K9:AFn:=⟨(.seq (.region [
 Mv 13 2,
 Mv 14 1,
 D 15 (.bin .sub (T 13) (T 14)),
 Mv 8 15])
 (.seq (.region [
 Mv 16 8,
 D 17 (.bin .geq (T 16) (Ki 8))])
 (.cond (T 17)
 (.seq (.region [
 Mv 18 8,
 D 19 (.conv .u64 (T 18)),
 D 9 (.alloc true [(.int .u64 0)]),
 E (.store 1 (T 9) (T 19))])
 (.seq (.region [
 Mv 20 8,
 D 21 (.call 287 [(T 20)]),
 Mv 10 21])
 (.seq (.region [
 Mv 22 1,
 Mv 23 8,
 D 24 (.bin .quo (T 23) (Ki 4)),
 D 25 (.bin .mul (T 24) (Ki 2)),
 D 26 (.bin .add (T 22) (T 25)),
 D 27 (.bin .sub (T 26) (Ki 1)),
 Mv 11 27])
 (.block 0 (.loop [11,9,10,8,1,0] mP)))))
 .skip))),[]⟩
def uO:AFn:=⟨(.seq (.region [
 D 8 (.mv (Ki 0)),
 D 9 (.mv (Ki 0))])
 (.seq (.region [
 Mv 15 2,
 Mv 16 1,
 D 17 (.bin .sub (T 15) (T 16)),
 Mv 10 17])
 (.seq (.region [
 D 11 (.alloc true [(.int .i64 0)])])
 (.seq (.region [
 Mv 18 1,
 Mv 19 10,
 D 20 (.bin .quo (T 19) (Ki 4)),
 D 21 (.bin .mul (T 20) (Ki 1)),
 D 22 (.bin .add (T 18) (T 21)),
 Mv 12 22])
 (.seq (.region [
 Mv 23 1,
 Mv 24 10,
 D 25 (.bin .quo (T 24) (Ki 4)),
 D 26 (.bin .mul (T 25) (Ki 2)),
 D 27 (.bin .add (T 23) (T 26)),
 Mv 13 27])
 (.seq (.region [
 Mv 28 1,
 Mv 29 10,
 D 30 (.bin .quo (T 29) (Ki 4)),
 D 31 (.bin .mul (T 30) (Ki 3)),
 D 32 (.bin .add (T 28) (T 31)),
 Mv 14 32])
 (.seq (.seq (.region [
 Mv 33 10,
 D 34 (.bin .geq (T 33) (Ki 8))])
 (.cond (T 34)
 (.seq (.seq (.region [
 Mv 35 10,
 D 36 (.bin .geq (T 35) (Ki 50))])
 (.cond (T 36)
 (.seq (.region [
 Mv 37 0,
 Mv 38 12,
 Mv 39 3,
 D 40 (.call 289 [(T 37),(T 38),(T 11),(T 39)]),
 Mv 12 40])
 (.seq (.region [
 Mv 41 0,
 Mv 42 13,
 Mv 43 3,
 D 44 (.call 289 [(T 41),(T 42),(T 11),(T 43)]),
 Mv 13 44])
 (.region [
 Mv 45 0,
 Mv 46 14,
 Mv 47 3,
 D 48 (.call 289 [(T 45),(T 46),(T 11),(T 47)]),
 Mv 14 48])))
 .skip))
 (.region [
 Mv 49 0,
 Mv 50 12,
 Mv 51 13,
 Mv 52 14,
 Mv 53 3,
 D 54 (.call 290 [(T 49),(T 50),(T 51),(T 52),(T 11),(T 53)]),
 Mv 13 54]))
 .skip))
 (.seq (.region [
 D 55 (.load none (T 11))])
 (.block 0 (.seq (.region [
 D 58 (.bin .eql (T 55) (Ki 0)),
 Mv 57 58])
 (.cond (T 57)
 (.seq (.region [
 Mv 59 13,
 Mv 8 59,
 D 9 (.mv (Ki 1))])
 .ret)
 (.seq (.region [
 D 61 (.bin .eql (T 55) (Ki 12)),
 Mv 60 61])
 (.cond (T 60)
 (.seq (.region [
 Mv 62 13,
 Mv 8 62,
 D 9 (.mv (Ki 2))])
 .ret)
 (.seq (.region [
 Mv 56 13,
 Mv 8 56,
 D 9 (.mv (Ki 0))])
 .ret)))))))))))))),[.tmp 8,.tmp 9]⟩
def v9:az:=(.seq (.seq (.region [
 Mv 13 8,
 Mv 14 9,
 D 15 (.bin .lss (T 13) (T 14))])
 (.cond (T 15)
 .skip
 (.exit 0)))
 (.block 1 (.seq (.drawn [
 Fq 16 0 (.mv (T 0)),
 Fq 17 0 (.mv (T 8)),
 Fq 18 0 (.mv (T 0)),
 Fq 19 0 (.mv (T 9)),
 Fq 20 0 (.mv (T 0)),
 Fq 21 0 (.mv (T 9)),
 Fq 22 48 (.aD 2 (T 20) (T 21)),
 Fq 23 112 (.load (some 2) (T 22)),
 Fq 24 0 (.mv (T 0)),
 Fq 25 0 (.mv (T 8)),
 Fq 26 768 (.aD 2 (T 24) (T 25)),
 Fq 27 1792 (.load (some 2) (T 26)),
 Fq 28 4083 (.aD 2 (T 16) (T 17)),
 ⟨none,none,8179,true,.store 2 (T 28) (T 23)⟩,
 Fq 29 16383 (.aD 2 (T 18) (T 19)),
 ⟨none,none,32767,true,.store 2 (T 29) (T 27)⟩])
 (.seq (.region [
 Mv 30 8,
 D 31 (.bin .add (T 30) (Ki 1)),
 Mv 8 31])
 (.region [
 Mv 32 9,
 D 33 (.bin .sub (T 32) (Ki 1)),
 Mv 9 33])))))
def RO:AFn:=⟨(.seq (.region [
 Mv 10 1,
 Mv 8 10])
 (.seq (.region [
 Mv 11 2,
 D 12 (.bin .sub (T 11) (Ki 1)),
 Mv 9 12])
 (.block 0 (.loop [8,9,0] v9)))),[]⟩
def CU:az:=(.seq (.seq (.region [
 Mv 107 12,
 Mv 108 2,
 D 109 (.bin .lss (T 107) (T 108))])
 (.cond (T 109)
 .skip
 (.exit 6)))
 (.seq (.block 7 (.seq (.seq (.drawn [
 Fq 112 0 (.mv (T 3)),
 Fq 113 0 (.mv (T 0)),
 Fq 114 0 (.mv (T 12)),
 Fq 115 6 (.aD 2 (T 113) (T 114)),
 Fq 116 14 (.load (some 2) (T 115)),
 Fq 117 0 (.mv (T 0)),
 Fq 118 0 (.mv (T 12)),
 Fq 119 64 (.bin .sub (T 118) (Ki 1)),
 Fq 120 224 (.aD 2 (T 117) (T 119)),
 Fq 121 480 (.load (some 2) (T 120)),
 ⟨(some 122),none,1023,true,.dw (T 112) [(T 116),(T 121)]⟩,
 Fq 123 2047 (.bin .lss (T 122) (Ki 0)),
 Fq 124 4095 (.un .not (T 123))])
 (.cond (T 124)
 (.exit 6)
 .skip))
 (.drawn [
 Fq 125 0 (.mv (T 0)),
 Fq 126 0 (.mv (T 12)),
 Fq 127 0 (.mv (T 0)),
 Fq 128 0 (.mv (T 12)),
 Fq 129 8 (.bin .sub (T 128) (Ki 1)),
 Fq 130 0 (.mv (T 0)),
 Fq 131 0 (.mv (T 12)),
 Fq 132 64 (.bin .sub (T 131) (Ki 1)),
 Fq 133 224 (.aD 2 (T 130) (T 132)),
 Fq 134 480 (.load (some 2) (T 133)),
 Fq 135 0 (.mv (T 0)),
 Fq 136 0 (.mv (T 12)),
 Fq 137 3072 (.aD 2 (T 135) (T 136)),
 Fq 138 7168 (.load (some 2) (T 137)),
 Fq 139 16355 (.aD 2 (T 125) (T 126)),
 ⟨none,none,32739,true,.store 2 (T 139) (T 134)⟩,
 Fq 140 65535 (.aD 2 (T 127) (T 129)),
 ⟨none,none,131071,true,.store 2 (T 140) (T 138)⟩])))
 (.region [
 Mv 110 12,
 D 111 (.bin .add (T 110) (Ki 1)),
 Mv 12 111])))
def wg:az:=(.seq (.seq (.region [
 Mv 68 11,
 D 69 (.bin .geq (T 68) (Ki 1))])
 (.cond (T 69)
 .skip
 (.exit 4)))
 (.seq (.block 5 (.seq (.seq (.drawn [
 Fq 72 0 (.mv (T 3)),
 Fq 73 0 (.mv (T 0)),
 Fq 74 0 (.mv (T 11)),
 Fq 75 6 (.aD 2 (T 73) (T 74)),
 Fq 76 14 (.load (some 2) (T 75)),
 Fq 77 0 (.mv (T 0)),
 Fq 78 0 (.mv (T 11)),
 Fq 79 64 (.bin .sub (T 78) (Ki 1)),
 Fq 80 224 (.aD 2 (T 77) (T 79)),
 Fq 81 480 (.load (some 2) (T 80)),
 ⟨(some 82),none,1023,true,.dw (T 72) [(T 76),(T 81)]⟩,
 Fq 83 2047 (.bin .lss (T 82) (Ki 0)),
 Fq 84 4095 (.un .not (T 83))])
 (.cond (T 84)
 (.exit 4)
 .skip))
 (.drawn [
 Fq 85 0 (.mv (T 0)),
 Fq 86 0 (.mv (T 11)),
 Fq 87 0 (.mv (T 0)),
 Fq 88 0 (.mv (T 11)),
 Fq 89 8 (.bin .sub (T 88) (Ki 1)),
 Fq 90 0 (.mv (T 0)),
 Fq 91 0 (.mv (T 11)),
 Fq 92 64 (.bin .sub (T 91) (Ki 1)),
 Fq 93 224 (.aD 2 (T 90) (T 92)),
 Fq 94 480 (.load (some 2) (T 93)),
 Fq 95 0 (.mv (T 0)),
 Fq 96 0 (.mv (T 11)),
 Fq 97 3072 (.aD 2 (T 95) (T 96)),
 Fq 98 7168 (.load (some 2) (T 97)),
 Fq 99 16355 (.aD 2 (T 85) (T 86)),
 ⟨none,none,32739,true,.store 2 (T 99) (T 94)⟩,
 Fq 100 65535 (.aD 2 (T 87) (T 89)),
 ⟨none,none,131071,true,.store 2 (T 100) (T 98)⟩])))
 (.region [
 Mv 70 11,
 D 71 (.bin .sub (T 70) (Ki 1)),
 Mv 11 71])))
def CV:az:=(.seq (.seq (.drawn [
 Fq 19 0 (.mv (T 9)),
 Fq 20 0 (.mv (T 2)),
 Fq 21 3 (.bin .lss (T 19) (T 20)),
 Fq 22 7 (.mv (T 21)),
 Gq 23 22 true 15 (.mv (T 3)),
 Gq 24 22 true 15 (.mv (T 0)),
 Gq 25 22 true 15 (.mv (T 9)),
 Gq 26 22 true 111 (.aD 2 (T 24) (T 25)),
 Gq 27 22 true 239 (.load (some 2) (T 26)),
 Gq 28 22 true 15 (.mv (T 0)),
 Gq 29 22 true 15 (.mv (T 9)),
 Gq 30 22 true 1039 (.bin .sub (T 29) (Ki 1)),
 Gq 31 22 true 3599 (.aD 2 (T 28) (T 30)),
 Gq 32 22 true 7695 (.load (some 2) (T 31)),
 ⟨(some 33),(some (22,true)),16383,true,.dw (T 23) [(T 27),(T 32)]⟩,
 Gq 34 22 true 32767 (.bin .lss (T 33) (Ki 0)),
 Gq 35 22 true 65535 (.un .not (T 34)),
 Fq 36 131071 (.pick (T 22) (T 35) (Kb false))])
 (.cond (T 36)
 .skip
 (.exit 2)))
 (.block 3 (.region [
 Mv 37 9,
 D 38 (.bin .add (T 37) (Ki 1)),
 Mv 9 38])))
def wh:az:=(.seq (.seq (.region [
 Mv 15 10,
 D 16 (.bin .lss (T 15) (Ki 5))])
 (.cond (T 16)
 .skip
 (.exit 0)))
 (.seq (.block 1 (.seq (.block 2 (.loop [9,2,3,0,1,10] CV))
 (.seq (.seq (.region [
 Mv 39 9,
 Mv 40 2,
 D 41 (.bin .eql (T 39) (T 40))])
 (.cond (T 41)
 (.seq (.region [
 D 8 (.mv (Kb true))])
 .ret)
 .skip))
 (.seq (.seq (.region [
 Mv 42 2,
 Mv 43 1,
 D 44 (.bin .sub (T 42) (T 43)),
 D 45 (.bin .lss (T 44) (Ki 50))])
 (.cond (T 45)
 (.seq (.region [
 D 8 (.mv (Kb false))])
 .ret)
 .skip))
 (.seq (.drawn [
 Fq 46 0 (.mv (T 0)),
 Fq 47 0 (.mv (T 9)),
 Fq 48 0 (.mv (T 0)),
 Fq 49 0 (.mv (T 9)),
 Fq 50 8 (.bin .sub (T 49) (Ki 1)),
 Fq 51 0 (.mv (T 0)),
 Fq 52 0 (.mv (T 9)),
 Fq 53 64 (.bin .sub (T 52) (Ki 1)),
 Fq 54 224 (.aD 2 (T 51) (T 53)),
 Fq 55 480 (.load (some 2) (T 54)),
 Fq 56 0 (.mv (T 0)),
 Fq 57 0 (.mv (T 9)),
 Fq 58 3072 (.aD 2 (T 56) (T 57)),
 Fq 59 7168 (.load (some 2) (T 58)),
 Fq 60 16355 (.aD 2 (T 46) (T 47)),
 ⟨none,none,32739,true,.store 2 (T 60) (T 55)⟩,
 Fq 61 65535 (.aD 2 (T 48) (T 50)),
 ⟨none,none,131071,true,.store 2 (T 61) (T 59)⟩])
 (.seq (.seq (.region [
 Mv 62 9,
 Mv 63 1,
 D 64 (.bin .sub (T 62) (T 63)),
 D 65 (.bin .geq (T 64) (Ki 2))])
 (.cond (T 65)
 (.seq (.region [
 Mv 66 9,
 D 67 (.bin .sub (T 66) (Ki 1)),
 Mv 11 67])
 (.block 4 (.loop [11,10,9,1,0,3,2] wg)))
 .skip))
 (.seq (.region [
 Mv 101 2,
 Mv 102 9,
 D 103 (.bin .sub (T 101) (T 102)),
 D 104 (.bin .geq (T 103) (Ki 2))])
 (.cond (T 104)
 (.seq (.region [
 Mv 105 9,
 D 106 (.bin .add (T 105) (Ki 1)),
 Mv 12 106])
 (.block 6 (.loop [12,10,9,1,0,3,2] CU)))
 .skip))))))))
 (.region [
 Mv 17 10,
 D 18 (.bin .add (T 17) (Ki 1)),
 Mv 10 18])))
def La:AFn:=⟨(.seq (.region [
 D 8 (.mv (Kb false))])
 (.seq (.region [
 Mv 13 1,
 D 14 (.bin .add (T 13) (Ki 1)),
 Mv 9 14])
 (.seq (.seq (.region [
 D 10 (.mv (Ki 0))])
 (.block 0 (.loop [9,1,0,3,2,10] wh)))
 (.seq (.region [
 D 8 (.mv (Kb false))])
 .ret)))),[.tmp 8]⟩
def wj:az:=(.seq (.seq (.drawn [
 Fq 50 0 (.mv (T 11)),
 Fq 51 0 (.mv (T 12)),
 Fq 52 3 (.bin .leq (T 50) (T 51)),
 Fq 53 7 (.mv (T 52)),
 Gq 54 53 true 15 (.mv (T 4)),
 Gq 55 53 true 15 (.mv (T 0)),
 Gq 56 53 true 15 (.mv (T 1)),
 Gq 57 53 true 111 (.aD 2 (T 55) (T 56)),
 Gq 58 53 true 239 (.load (some 2) (T 57)),
 Gq 59 53 true 15 (.mv (T 0)),
 Gq 60 53 true 15 (.mv (T 12)),
 Gq 61 53 true 1551 (.aD 2 (T 59) (T 60)),
 Gq 62 53 true 3599 (.load (some 2) (T 61)),
 ⟨(some 63),(some (53,true)),8191,true,.dw (T 54) [(T 58),(T 62)]⟩,
 Gq 64 53 true 16383 (.bin .lss (T 63) (Ki 0)),
 Fq 65 32767 (.pick (T 53) (T 64) (Kb false))])
 (.cond (T 65)
 .skip
 (.exit 4)))
 (.block 5 (.region [
 Mv 66 12,
 D 67 (.bin .sub (T 66) (Ki 1)),
 Mv 12 67])))
def CW:az:=(.seq (.seq (.drawn [
 Fq 31 0 (.mv (T 11)),
 Fq 32 0 (.mv (T 12)),
 Fq 33 3 (.bin .leq (T 31) (T 32)),
 Fq 34 7 (.mv (T 33)),
 Gq 35 34 true 15 (.mv (T 4)),
 Gq 36 34 true 15 (.mv (T 0)),
 Gq 37 34 true 15 (.mv (T 1)),
 Gq 38 34 true 111 (.aD 2 (T 36) (T 37)),
 Gq 39 34 true 239 (.load (some 2) (T 38)),
 Gq 40 34 true 15 (.mv (T 0)),
 Gq 41 34 true 15 (.mv (T 11)),
 Gq 42 34 true 1551 (.aD 2 (T 40) (T 41)),
 Gq 43 34 true 3599 (.load (some 2) (T 42)),
 ⟨(some 44),(some (34,true)),8191,true,.dw (T 35) [(T 39),(T 43)]⟩,
 Gq 45 34 true 16383 (.bin .lss (T 44) (Ki 0)),
 Gq 46 34 true 32767 (.un .not (T 45)),
 Fq 47 65535 (.pick (T 34) (T 46) (Kb false))])
 (.cond (T 47)
 .skip
 (.exit 2)))
 (.block 3 (.region [
 Mv 48 11,
 D 49 (.bin .add (T 48) (Ki 1)),
 Mv 11 49])))
def wk:az:=(.block 1 (.seq (.block 2 (.loop [11,0,1,4,12] CW))
 (.seq (.block 4 (.loop [12,11,4,1,0] wj))
 (.seq (.seq (.region [
 Mv 68 11,
 Mv 69 12,
 D 70 (.bin .gtr (T 68) (T 69))])
 (.cond (T 70)
 (.exit 0)
 .skip))
 (.seq (.drawn [
 Fq 71 0 (.mv (T 0)),
 Fq 72 0 (.mv (T 11)),
 Fq 73 0 (.mv (T 0)),
 Fq 74 0 (.mv (T 12)),
 Fq 75 0 (.mv (T 0)),
 Fq 76 0 (.mv (T 12)),
 Fq 77 48 (.aD 2 (T 75) (T 76)),
 Fq 78 112 (.load (some 2) (T 77)),
 Fq 79 0 (.mv (T 0)),
 Fq 80 0 (.mv (T 11)),
 Fq 81 768 (.aD 2 (T 79) (T 80)),
 Fq 82 1792 (.load (some 2) (T 81)),
 Fq 83 4083 (.aD 2 (T 71) (T 72)),
 ⟨none,none,8179,true,.store 2 (T 83) (T 78)⟩,
 Fq 84 16383 (.aD 2 (T 73) (T 74)),
 ⟨none,none,32767,true,.store 2 (T 84) (T 82)⟩])
 (.seq (.region [
 Mv 85 11,
 D 86 (.bin .add (T 85) (Ki 1)),
 Mv 11 86])
 (.region [
 Mv 87 12,
 D 88 (.bin .sub (T 87) (Ki 1)),
 Mv 12 88])))))))
def RP:AFn:=⟨(.seq (.region [
 D 10 (.mv (Ki 0))])
 (.seq (.drawn [
 Fq 13 0 (.mv (T 0)),
 Fq 14 0 (.mv (T 1)),
 Fq 15 0 (.mv (T 0)),
 Fq 16 0 (.mv (T 3)),
 Fq 17 0 (.mv (T 0)),
 Fq 18 0 (.mv (T 3)),
 Fq 19 48 (.aD 2 (T 17) (T 18)),
 Fq 20 112 (.load (some 2) (T 19)),
 Fq 21 0 (.mv (T 0)),
 Fq 22 0 (.mv (T 1)),
 Fq 23 768 (.aD 2 (T 21) (T 22)),
 Fq 24 1792 (.load (some 2) (T 23)),
 Fq 25 4083 (.aD 2 (T 13) (T 14)),
 ⟨none,none,8179,true,.store 2 (T 25) (T 20)⟩,
 Fq 26 16383 (.aD 2 (T 15) (T 16)),
 ⟨none,none,32767,true,.store 2 (T 26) (T 24)⟩])
 (.seq (.region [
 Mv 27 1,
 D 28 (.bin .add (T 27) (Ki 1)),
 Mv 29 2,
 D 30 (.bin .sub (T 29) (Ki 1)),
 Mv 11 28,
 Mv 12 30])
 (.seq (.block 0 (.loop [11,4,1,0,12] wk))
 (.seq (.region [
 Mv 89 11,
 Mv 10 89])
 .ret))))),[.tmp 10]⟩
def wm:az:=(.seq (.seq (.drawn [
 Fq 123 0 (.mv (T 12)),
 Fq 124 0 (.mv (T 13)),
 Fq 125 3 (.bin .leq (T 123) (T 124)),
 Fq 126 7 (.mv (T 125)),
 Gq 127 126 true 15 (.mv (T 4)),
 Gq 128 126 true 15 (.mv (T 0)),
 Gq 129 126 true 15 (.mv (T 13)),
 Gq 130 126 true 111 (.aD 2 (T 128) (T 129)),
 Gq 131 126 true 239 (.load (some 2) (T 130)),
 Gq 132 126 true 15 (.mv (T 0)),
 Gq 133 126 true 15 (.mv (T 1)),
 Gq 134 126 true 1551 (.aD 2 (T 132) (T 133)),
 Gq 135 126 true 3599 (.load (some 2) (T 134)),
 ⟨(some 136),(some (126,true)),8191,true,.dw (T 127) [(T 131),(T 135)]⟩,
 Gq 137 126 true 16383 (.bin .lss (T 136) (Ki 0)),
 Gq 138 126 true 32767 (.un .not (T 137)),
 Fq 139 65535 (.pick (T 126) (T 138) (Kb false))])
 (.cond (T 139)
 .skip
 (.exit 8)))
 (.block 9 (.region [
 Mv 140 13,
 D 141 (.bin .sub (T 140) (Ki 1)),
 Mv 13 141])))
def CX:az:=(.seq (.seq (.drawn [
 Fq 105 0 (.mv (T 12)),
 Fq 106 0 (.mv (T 13)),
 Fq 107 3 (.bin .leq (T 105) (T 106)),
 Fq 108 7 (.mv (T 107)),
 Gq 109 108 true 15 (.mv (T 4)),
 Gq 110 108 true 15 (.mv (T 0)),
 Gq 111 108 true 15 (.mv (T 12)),
 Gq 112 108 true 111 (.aD 2 (T 110) (T 111)),
 Gq 113 108 true 239 (.load (some 2) (T 112)),
 Gq 114 108 true 15 (.mv (T 0)),
 Gq 115 108 true 15 (.mv (T 1)),
 Gq 116 108 true 1551 (.aD 2 (T 114) (T 115)),
 Gq 117 108 true 3599 (.load (some 2) (T 116)),
 ⟨(some 118),(some (108,true)),8191,true,.dw (T 109) [(T 113),(T 117)]⟩,
 Gq 119 108 true 16383 (.bin .lss (T 118) (Ki 0)),
 Fq 120 32767 (.pick (T 108) (T 119) (Kb false))])
 (.cond (T 120)
 .skip
 (.exit 6)))
 (.block 7 (.region [
 Mv 121 12,
 D 122 (.bin .add (T 121) (Ki 1)),
 Mv 12 122])))
def wo:az:=(.block 5 (.seq (.block 6 (.loop [12,4,1,0,13] CX))
 (.seq (.block 8 (.loop [13,0,1,12,4] wm))
 (.seq (.seq (.region [
 Mv 142 12,
 Mv 143 13,
 D 144 (.bin .gtr (T 142) (T 143))])
 (.cond (T 144)
 (.exit 4)
 .skip))
 (.seq (.drawn [
 Fq 145 0 (.mv (T 0)),
 Fq 146 0 (.mv (T 12)),
 Fq 147 0 (.mv (T 0)),
 Fq 148 0 (.mv (T 13)),
 Fq 149 0 (.mv (T 0)),
 Fq 150 0 (.mv (T 13)),
 Fq 151 48 (.aD 2 (T 149) (T 150)),
 Fq 152 112 (.load (some 2) (T 151)),
 Fq 153 0 (.mv (T 0)),
 Fq 154 0 (.mv (T 12)),
 Fq 155 768 (.aD 2 (T 153) (T 154)),
 Fq 156 1792 (.load (some 2) (T 155)),
 Fq 157 4083 (.aD 2 (T 145) (T 146)),
 ⟨none,none,8179,true,.store 2 (T 157) (T 152)⟩,
 Fq 158 16383 (.aD 2 (T 147) (T 148)),
 ⟨none,none,32767,true,.store 2 (T 158) (T 156)⟩])
 (.seq (.region [
 Mv 159 12,
 D 160 (.bin .add (T 159) (Ki 1)),
 Mv 12 160])
 (.region [
 Mv 161 13,
 D 162 (.bin .sub (T 161) (Ki 1)),
 Mv 13 162])))))))
def wq:az:=(.seq (.seq (.drawn [
 Fq 50 0 (.mv (T 12)),
 Fq 51 0 (.mv (T 13)),
 Fq 52 3 (.bin .leq (T 50) (T 51)),
 Fq 53 7 (.mv (T 52)),
 Gq 54 53 true 15 (.mv (T 4)),
 Gq 55 53 true 15 (.mv (T 0)),
 Gq 56 53 true 15 (.mv (T 13)),
 Gq 57 53 true 111 (.aD 2 (T 55) (T 56)),
 Gq 58 53 true 239 (.load (some 2) (T 57)),
 Gq 59 53 true 15 (.mv (T 0)),
 Gq 60 53 true 15 (.mv (T 1)),
 Gq 61 53 true 1551 (.aD 2 (T 59) (T 60)),
 Gq 62 53 true 3599 (.load (some 2) (T 61)),
 ⟨(some 63),(some (53,true)),8191,true,.dw (T 54) [(T 58),(T 62)]⟩,
 Gq 64 53 true 16383 (.bin .lss (T 63) (Ki 0)),
 Gq 65 53 true 32767 (.un .not (T 64)),
 Fq 66 65535 (.pick (T 53) (T 65) (Kb false))])
 (.cond (T 66)
 .skip
 (.exit 2)))
 (.block 3 (.region [
 Mv 67 13,
 D 68 (.bin .sub (T 67) (Ki 1)),
 Mv 13 68])))
def CY:az:=(.seq (.seq (.drawn [
 Fq 32 0 (.mv (T 12)),
 Fq 33 0 (.mv (T 13)),
 Fq 34 3 (.bin .leq (T 32) (T 33)),
 Fq 35 7 (.mv (T 34)),
 Gq 36 35 true 15 (.mv (T 4)),
 Gq 37 35 true 15 (.mv (T 0)),
 Gq 38 35 true 15 (.mv (T 12)),
 Gq 39 35 true 111 (.aD 2 (T 37) (T 38)),
 Gq 40 35 true 239 (.load (some 2) (T 39)),
 Gq 41 35 true 15 (.mv (T 0)),
 Gq 42 35 true 15 (.mv (T 1)),
 Gq 43 35 true 1551 (.aD 2 (T 41) (T 42)),
 Gq 44 35 true 3599 (.load (some 2) (T 43)),
 ⟨(some 45),(some (35,true)),8191,true,.dw (T 36) [(T 40),(T 44)]⟩,
 Gq 46 35 true 16383 (.bin .lss (T 45) (Ki 0)),
 Fq 47 32767 (.pick (T 35) (T 46) (Kb false))])
 (.cond (T 47)
 .skip
 (.exit 0)))
 (.block 1 (.region [
 Mv 48 12,
 D 49 (.bin .add (T 48) (Ki 1)),
 Mv 12 49])))
def Lb:AFn:=⟨(.seq (.region [
 D 10 (.mv (Ki 0)),
 D 11 (.mv (Kb false))])
 (.seq (.drawn [
 Fq 14 0 (.mv (T 0)),
 Fq 15 0 (.mv (T 1)),
 Fq 16 0 (.mv (T 0)),
 Fq 17 0 (.mv (T 3)),
 Fq 18 0 (.mv (T 0)),
 Fq 19 0 (.mv (T 3)),
 Fq 20 48 (.aD 2 (T 18) (T 19)),
 Fq 21 112 (.load (some 2) (T 20)),
 Fq 22 0 (.mv (T 0)),
 Fq 23 0 (.mv (T 1)),
 Fq 24 768 (.aD 2 (T 22) (T 23)),
 Fq 25 1792 (.load (some 2) (T 24)),
 Fq 26 4083 (.aD 2 (T 14) (T 15)),
 ⟨none,none,8179,true,.store 2 (T 26) (T 21)⟩,
 Fq 27 16383 (.aD 2 (T 16) (T 17)),
 ⟨none,none,32767,true,.store 2 (T 27) (T 25)⟩])
 (.seq (.region [
 Mv 28 1,
 D 29 (.bin .add (T 28) (Ki 1)),
 Mv 30 2,
 D 31 (.bin .sub (T 30) (Ki 1)),
 Mv 12 29,
 Mv 13 31])
 (.seq (.block 0 (.loop [12,4,1,0,13] CY))
 (.seq (.block 2 (.loop [13,0,1,12,4] wq))
 (.seq (.seq (.region [
 Mv 69 12,
 Mv 70 13,
 D 71 (.bin .gtr (T 69) (T 70))])
 (.cond (T 71)
 (.seq (.drawn [
 Fq 72 0 (.mv (T 0)),
 Fq 73 0 (.mv (T 13)),
 Fq 74 0 (.mv (T 0)),
 Fq 75 0 (.mv (T 1)),
 Fq 76 0 (.mv (T 0)),
 Fq 77 0 (.mv (T 1)),
 Fq 78 48 (.aD 2 (T 76) (T 77)),
 Fq 79 112 (.load (some 2) (T 78)),
 Fq 80 0 (.mv (T 0)),
 Fq 81 0 (.mv (T 13)),
 Fq 82 768 (.aD 2 (T 80) (T 81)),
 Fq 83 1792 (.load (some 2) (T 82)),
 Fq 84 4083 (.aD 2 (T 72) (T 73)),
 ⟨none,none,8179,true,.store 2 (T 84) (T 79)⟩,
 Fq 85 16383 (.aD 2 (T 74) (T 75)),
 ⟨none,none,32767,true,.store 2 (T 85) (T 83)⟩])
 (.seq (.region [
 Mv 86 13,
 Mv 10 86,
 D 11 (.mv (Kb true))])
 .ret))
 .skip))
 (.seq (.drawn [
 Fq 87 0 (.mv (T 0)),
 Fq 88 0 (.mv (T 12)),
 Fq 89 0 (.mv (T 0)),
 Fq 90 0 (.mv (T 13)),
 Fq 91 0 (.mv (T 0)),
 Fq 92 0 (.mv (T 13)),
 Fq 93 48 (.aD 2 (T 91) (T 92)),
 Fq 94 112 (.load (some 2) (T 93)),
 Fq 95 0 (.mv (T 0)),
 Fq 96 0 (.mv (T 12)),
 Fq 97 768 (.aD 2 (T 95) (T 96)),
 Fq 98 1792 (.load (some 2) (T 97)),
 Fq 99 4083 (.aD 2 (T 87) (T 88)),
 ⟨none,none,8179,true,.store 2 (T 99) (T 94)⟩,
 Fq 100 16383 (.aD 2 (T 89) (T 90)),
 ⟨none,none,32767,true,.store 2 (T 100) (T 98)⟩])
 (.seq (.region [
 Mv 101 12,
 D 102 (.bin .add (T 101) (Ki 1)),
 Mv 12 102])
 (.seq (.region [
 Mv 103 13,
 D 104 (.bin .sub (T 103) (Ki 1)),
 Mv 13 104])
 (.seq (.block 4 (.loop [12,4,1,0,13] wo))
 (.seq (.drawn [
 Fq 163 0 (.mv (T 0)),
 Fq 164 0 (.mv (T 13)),
 Fq 165 0 (.mv (T 0)),
 Fq 166 0 (.mv (T 1)),
 Fq 167 0 (.mv (T 0)),
 Fq 168 0 (.mv (T 1)),
 Fq 169 48 (.aD 2 (T 167) (T 168)),
 Fq 170 112 (.load (some 2) (T 169)),
 Fq 171 0 (.mv (T 0)),
 Fq 172 0 (.mv (T 13)),
 Fq 173 768 (.aD 2 (T 171) (T 172)),
 Fq 174 1792 (.load (some 2) (T 173)),
 Fq 175 4083 (.aD 2 (T 163) (T 164)),
 ⟨none,none,8179,true,.store 2 (T 175) (T 170)⟩,
 Fq 176 16383 (.aD 2 (T 165) (T 166)),
 ⟨none,none,32767,true,.store 2 (T 176) (T 174)⟩])
 (.seq (.region [
 Mv 177 13,
 Mv 10 177,
 D 11 (.mv (Kb false))])
 .ret)))))))))))),[.tmp 10,.tmp 11]⟩
def RQ:AFn:=⟨(.seq (.region [
 D 2 (.mv (Ki 0))])
 (.seq (.seq (.region [
 Mv 3 0,
 D 4 (.bin .geq (T 3) (C (.int .u64 4294967296)))])
 (.cond (T 4)
 (.seq (.region [
 Mv 5 0,
 D 6 (.bin .shr (T 5) (C (.int .u64 32))),
 Mv 0 6])
 (.region [
 D 2 (.mv (Ki 32))]))
 .skip))
 (.seq (.seq (.region [
 Mv 7 0,
 D 8 (.bin .geq (T 7) (C (.int .u64 65536)))])
 (.cond (T 8)
 (.seq (.region [
 Mv 9 0,
 D 10 (.bin .shr (T 9) (C (.int .u64 16))),
 Mv 0 10])
 (.region [
 Mv 11 2,
 D 12 (.bin .add (T 11) (Ki 16)),
 Mv 2 12]))
 .skip))
 (.seq (.seq (.region [
 Mv 13 0,
 D 14 (.bin .geq (T 13) (C (.int .u64 256)))])
 (.cond (T 14)
 (.seq (.region [
 Mv 15 0,
 D 16 (.bin .shr (T 15) (C (.int .u64 8))),
 Mv 0 16])
 (.region [
 Mv 17 2,
 D 18 (.bin .add (T 17) (Ki 8)),
 Mv 2 18]))
 .skip))
 (.seq (.region [
 Mv 19 2,
 Mv 20 0,
 D 21 (.conv .u8 (T 20)),
 D 22 (.idxs (C (.string ⟨#[0,1,2,2,3,3,3,3,4,4,4,4,4,4,4,4,5,5,5,5,5,5,5,5,5,5,5,5,5,5,5,5,6,6,6,6,6,6,6,6,6,6,6,6,6,6,6,6,6,6,6,6,6,6,6,6,6,6,6,6,6,6,6,6,7,7,7,7,7,7,7,7,7,7,7,7,7,7,7,7,7,7,7,7,7,7,7,7,7,7,7,7,7,7,7,7,7,7,7,7,7,7,7,7,7,7,7,7,7,7,7,7,7,7,7,7,7,7,7,7,7,7,7,7,7,7,7,7,8,8,8,8,8,8,8,8,8,8,8,8,8,8,8,8,8,8,8,8,8,8,8,8,8,8,8,8,8,8,8,8,8,8,8,8,8,8,8,8,8,8,8,8,8,8,8,8,8,8,8,8,8,8,8,8,8,8,8,8,8,8,8,8,8,8,8,8,8,8,8,8,8,8,8,8,8,8,8,8,8,8,8,8,8,8,8,8,8,8,8,8,8,8,8,8,8,8,8,8,8,8,8,8,8,8,8,8,8,8,8,8,8,8,8,8,8,8,8,8,8,8,8,8,8,8,8,8]⟩)) (T 21)),
 D 23 (.conv .i64 (T 22)),
 D 24 (.bin .add (T 19) (T 23)),
 Mv 2 24])
 .ret))))),[.tmp 2]⟩
def FT:AFn:=⟨(.seq (.region [
 D 2 (.mv (Ki 0))])
 (.seq (.block 0 (.seq (.region [
 Mv 4 0,
 D 5 (.bin .eql (T 4) (C (.int .u8 0))),
 Mv 3 5])
 (.cond (T 3)
 (.seq (.region [
 D 2 (.mv (Ki 0))])
 .ret)
 (.seq (.region [
 Mv 7 0,
 D 8 (.bin .gtr (T 7) (C (.int .u8 15))),
 Mv 6 8])
 (.cond (T 6)
 (.seq (.region [
 D 2 (.mv (Ki 32769))])
 .ret)
 .skip)))))
 (.seq (.region [
 Mv 9 0,
 D 10 (.bin .shr (Ki 32768) (T 9)),
 Mv 2 10])
 .ret))),[.tmp 2]⟩
def AT:AFn:=⟨(.seq (.region [
 D 2 (.box true (T 0)),
 D 3 (.box true (T 1)),
 D 4 (.mv (Kb false))])
 (.seq (.region [
 D 5 (.ay 1 (T 2)),
 D 6 (.load none (T 5)),
 D 7 (.bin .eql (T 6) (Ki 0)),
 Mv 8 7,
 Gd 9 8 false (.ay 1 (T 3)),
 Gd 10 8 false (.load none (T 9)),
 Gd 11 8 false (.bin .eql (T 10) (Ki 0)),
 D 12 (.pick (T 8) (Kb true) (T 11)),
 Mv 13 12,
 Gd 14 13 false (.ay 0 (T 2)),
 Gd 15 13 false (.load none (T 14)),
 Gd 16 13 false (.ay 1 (T 2)),
 Gd 17 13 false (.load none (T 16)),
 Gd 18 13 false (.bin .add (T 15) (T 17)),
 Gd 19 13 false (.ay 0 (T 3)),
 Gd 20 13 false (.load none (T 19)),
 Gd 21 13 false (.bin .leq (T 18) (T 20)),
 D 22 (.pick (T 13) (Kb true) (T 21)),
 Mv 23 22,
 Gd 24 23 false (.ay 0 (T 3)),
 Gd 25 23 false (.load none (T 24)),
 Gd 26 23 false (.ay 1 (T 3)),
 Gd 27 23 false (.load none (T 26)),
 Gd 28 23 false (.bin .add (T 25) (T 27)),
 Gd 29 23 false (.ay 0 (T 2)),
 Gd 30 23 false (.load none (T 29)),
 Gd 31 23 false (.bin .leq (T 28) (T 30)),
 D 32 (.pick (T 23) (Kb true) (T 31)),
 Mv 4 32])
 .ret)),[.tmp 4]⟩
def FU:AFn:=⟨(.seq (.region [
 D 4 (.mv (Ki 0))])
 (.seq (.seq (.region [
 Mv 5 0,
 D 6 (.call 268 [(T 5),(Ki 0),(Ki 65536)]),
 D 7 (.un .not (T 6)),
 Mv 8 7,
 Gd 9 8 false (.mv (T 1)),
 Gd 10 8 false (.call 268 [(T 9),(Ki 1),(Ki 65536)]),
 Gd 11 8 false (.un .not (T 10)),
 D 12 (.pick (T 8) (Kb true) (T 11))])
 (.cond (T 12)
 (.seq (.region [
 D 4 (.mv (Ki 0))])
 .ret)
 .skip))
 (.seq (.region [
 Mv 13 0,
 Mv 14 1,
 D 15 (.bin .quo (T 13) (T 14)),
 D 16 (.bin .mul (T 15) (Ki 1024)),
 Mv 4 16])
 .ret))),[.tmp 4]⟩
def CZ:az:=(.block 1 (.seq (.region [
 Mv 13 10,
 D 14 (.bin .mul (Ki 2) (T 13)),
 D 15 (.bin .add (T 14) (Ki 1)),
 Mv 11 15])
 (.seq (.seq (.region [
 Mv 16 11,
 Mv 17 2,
 D 18 (.bin .geq (T 16) (T 17))])
 (.cond (T 18)
 (.exit 0)
 .skip))
 (.seq (.seq (.drawn [
 Fq 19 0 (.mv (T 11)),
 Fq 20 1 (.bin .add (T 19) (Ki 1)),
 Fq 21 0 (.mv (T 2)),
 Fq 22 7 (.bin .lss (T 20) (T 21)),
 Fq 23 15 (.mv (T 22)),
 Gq 24 23 true 31 (.mv (T 4)),
 Gq 25 23 true 31 (.mv (T 0)),
 Gq 26 23 true 31 (.mv (T 3)),
 Gq 27 23 true 31 (.mv (T 11)),
 Gq 28 23 true 415 (.bin .add (T 26) (T 27)),
 Gq 29 23 true 991 (.aD 2 (T 25) (T 28)),
 Gq 30 23 true 2015 (.load (some 2) (T 29)),
 Gq 31 23 true 31 (.mv (T 0)),
 Gq 32 23 true 31 (.mv (T 3)),
 Gq 33 23 true 31 (.mv (T 11)),
 Gq 34 23 true 24607 (.bin .add (T 32) (T 33)),
 Gq 35 23 true 57375 (.bin .add (T 34) (Ki 1)),
 Gq 36 23 true 127007 (.aD 2 (T 31) (T 35)),
 Gq 37 23 true 258079 (.load (some 2) (T 36)),
 ⟨(some 38),(some (23,true)),524287,true,.dw (T 24) [(T 30),(T 37)]⟩,
 Gq 39 23 true 1048575 (.bin .lss (T 38) (Ki 0)),
 Fq 40 2097151 (.pick (T 23) (T 39) (Kb false))])
 (.cond (T 40)
 (.region [
 Mv 41 11,
 D 42 (.bin .add (T 41) (Ki 1)),
 Mv 11 42])
 .skip))
 (.seq (.seq (.drawn [
 Fq 43 0 (.mv (T 4)),
 Fq 44 0 (.mv (T 0)),
 Fq 45 0 (.mv (T 3)),
 Fq 46 0 (.mv (T 10)),
 Fq 47 12 (.bin .add (T 45) (T 46)),
 Fq 48 30 (.aD 2 (T 44) (T 47)),
 Fq 49 62 (.load (some 2) (T 48)),
 Fq 50 0 (.mv (T 0)),
 Fq 51 0 (.mv (T 3)),
 Fq 52 0 (.mv (T 11)),
 Fq 53 768 (.bin .add (T 51) (T 52)),
 Fq 54 1920 (.aD 2 (T 50) (T 53)),
 Fq 55 3968 (.load (some 2) (T 54)),
 ⟨(some 56),none,8191,true,.dw (T 43) [(T 49),(T 55)]⟩,
 Fq 57 16383 (.bin .lss (T 56) (Ki 0)),
 Fq 58 32767 (.un .not (T 57))])
 (.cond (T 58)
 .ret
 .skip))
 (.seq (.drawn [
 Fq 59 0 (.mv (T 0)),
 Fq 60 0 (.mv (T 3)),
 Fq 61 0 (.mv (T 10)),
 Fq 62 6 (.bin .add (T 60) (T 61)),
 Fq 63 0 (.mv (T 0)),
 Fq 64 0 (.mv (T 3)),
 Fq 65 0 (.mv (T 11)),
 Fq 66 96 (.bin .add (T 64) (T 65)),
 Fq 67 0 (.mv (T 0)),
 Fq 68 0 (.mv (T 3)),
 Fq 69 0 (.mv (T 11)),
 Fq 70 1536 (.bin .add (T 68) (T 69)),
 Fq 71 3840 (.aD 2 (T 67) (T 70)),
 Fq 72 7936 (.load (some 2) (T 71)),
 Fq 73 0 (.mv (T 0)),
 Fq 74 0 (.mv (T 3)),
 Fq 75 0 (.mv (T 10)),
 Fq 76 98304 (.bin .add (T 74) (T 75)),
 Fq 77 245760 (.aD 2 (T 73) (T 76)),
 Fq 78 507904 (.load (some 2) (T 77)),
 Fq 79 1048335 (.aD 2 (T 59) (T 62)),
 ⟨none,none,2096911,true,.store 2 (T 79) (T 72)⟩,
 Fq 80 4194303 (.aD 2 (T 63) (T 66)),
 ⟨none,none,8388607,true,.store 2 (T 80) (T 78)⟩])
 (.region [
 Mv 81 11,
 Mv 10 81])))))))
def Lc:AFn:=⟨(.seq (.region [
 Mv 12 1,
 Mv 10 12])
 (.block 0 (.loop [10,0,3,4,2] CZ))),[]⟩
def RR:AFn:=⟨(.seq (.region [
 D 2 (.mv (C (.int .u64 0)))])
 (.seq (.region [
 Mv 3 0,
 D 4 (.conv .u64 (T 3)),
 D 5 (.call 256 [(T 4)]),
 D 6 (.bin .shl (C (.int .u64 1)) (T 5)),
 Mv 2 6])
 .ret)),[.tmp 2]⟩
def RS:AFn:=⟨(.seq (.region [
 D 2 (.mv (C (.int .u64 0)))])
 (.seq (.drawn [
 Fq 3 0 (.mv (T 0)),
 Fq 4 1 (.br (T 3)),
 Fq 5 3 (.load none (T 4)),
 Fq 6 0 (.mv (T 0)),
 Fq 7 8 (.br (T 6)),
 Fq 8 24 (.load none (T 7)),
 Fq 9 56 (.bin .shl (T 8) (C (.int .u64 13))),
 Fq 10 127 (.bin .xor (T 5) (T 9)),
 Fq 11 255 (.br (T 3)),
 ⟨none,none,511,true,.store 1 (T 11) (T 10)⟩])
 (.seq (.drawn [
 Fq 12 0 (.mv (T 0)),
 Fq 13 1 (.br (T 12)),
 Fq 14 3 (.load none (T 13)),
 Fq 15 0 (.mv (T 0)),
 Fq 16 8 (.br (T 15)),
 Fq 17 24 (.load none (T 16)),
 Fq 18 56 (.bin .shr (T 17) (C (.int .u64 7))),
 Fq 19 127 (.bin .xor (T 14) (T 18)),
 Fq 20 255 (.br (T 12)),
 ⟨none,none,511,true,.store 1 (T 20) (T 19)⟩])
 (.seq (.drawn [
 Fq 21 0 (.mv (T 0)),
 Fq 22 1 (.br (T 21)),
 Fq 23 3 (.load none (T 22)),
 Fq 24 0 (.mv (T 0)),
 Fq 25 8 (.br (T 24)),
 Fq 26 24 (.load none (T 25)),
 Fq 27 56 (.bin .shl (T 26) (C (.int .u64 17))),
 Fq 28 127 (.bin .xor (T 23) (T 27)),
 Fq 29 255 (.br (T 21)),
 ⟨none,none,511,true,.store 1 (T 29) (T 28)⟩])
 (.seq (.region [
 Mv 30 0,
 D 31 (.br (T 30)),
 D 32 (.load none (T 31)),
 Mv 2 32])
 .ret))))),[.tmp 2]⟩
def RT:AFn:=⟨(.seq (.region [
 D 8 (.mv (Ki 0))])
 (.seq (.region [
 Mv 9 0,
 Mv 10 1,
 D 11 (.bin .sub (T 10) (Ki 1)),
 Mv 12 1,
 Mv 13 1,
 D 14 (.bin .add (T 13) (Ki 1)),
 Mv 15 2,
 Mv 16 3,
 D 17 (.call 290 [(T 9),(T 11),(T 12),(T 14),(T 15),(T 16)]),
 Mv 8 17])
 .ret)),[.tmp 8]⟩
def RU:AFn:=⟨(.seq (.region [
 D 12 (.mv (Ki 0))])
 (.seq (.region [
 Mv 14 0,
 Mv 15 1,
 Mv 16 2,
 Mv 17 4,
 Mv 18 5,
 D 19 (.call 291 [(T 14),(T 15),(T 16),(T 17),(T 18)]),
 Mv 13 19,
 D 20 (.ext (T 13) 0),
 D 21 (.ext (T 13) 1),
 Mv 1 20,
 Mv 2 21])
 (.seq (.region [
 Mv 23 0,
 Mv 24 2,
 Mv 25 3,
 Mv 26 4,
 Mv 27 5,
 D 28 (.call 291 [(T 23),(T 24),(T 25),(T 26),(T 27)]),
 Mv 22 28,
 D 29 (.ext (T 22) 0),
 D 30 (.ext (T 22) 1),
 Mv 2 29,
 Mv 3 30])
 (.seq (.region [
 Mv 32 0,
 Mv 33 1,
 Mv 34 2,
 Mv 35 4,
 Mv 36 5,
 D 37 (.call 291 [(T 32),(T 33),(T 34),(T 35),(T 36)]),
 Mv 31 37,
 D 38 (.ext (T 31) 0),
 D 39 (.ext (T 31) 1),
 Mv 1 38,
 Mv 2 39])
 (.seq (.region [
 Mv 40 2,
 Mv 12 40])
 .ret))))),[.tmp 12]⟩
def Ld:AFn:=⟨(.seq (.region [
 D 10 (.mv (Ki 0)),
 D 11 (.mv (Ki 0))])
 (.seq (.seq (.drawn [
 Fq 12 0 (.mv (T 4)),
 Fq 13 0 (.mv (T 0)),
 Fq 14 0 (.mv (T 2)),
 Fq 15 6 (.aD 2 (T 13) (T 14)),
 Fq 16 14 (.load (some 2) (T 15)),
 Fq 17 0 (.mv (T 0)),
 Fq 18 0 (.mv (T 1)),
 Fq 19 96 (.aD 2 (T 17) (T 18)),
 Fq 20 224 (.load (some 2) (T 19)),
 ⟨(some 21),none,511,true,.dw (T 12) [(T 16),(T 20)]⟩,
 Fq 22 1023 (.bin .lss (T 21) (Ki 0))])
 (.cond (T 22)
 (.seq (.region [
 Mv 23 3,
 D 24 (.br (T 23)),
 D 25 (.load none (T 24)),
 D 26 (.bin .add (T 25) (Ki 1)),
 D 27 (.br (T 23)),
 E (.store 1 (T 27) (T 26))])
 (.seq (.region [
 Mv 28 2,
 Mv 29 1,
 Mv 10 28,
 Mv 11 29])
 .ret))
 .skip))
 (.seq (.region [
 Mv 30 1,
 Mv 31 2,
 Mv 10 30,
 Mv 11 31])
 .ret))),[.tmp 10,.tmp 11]⟩
end aE
namespace aE
open Go AM
noncomputable def wkd:List (Nat×AFn):=[(13,Jf),(15,XO),(16,UP),(17,XP),(53,XQ),(54,XR),(55,NL),(56,Jg),(57,XS),(58,UQ),(59,XT),(60,XU),(114,FK),(115,KP),(116,Rt),(117,KQ),(118,Ru),(119,nC),(120,Rv),(121,KR),(122,Rx),(123,Rz),(124,RA),(125,FL),(126,FM),(127,KS),(128,AQ),(132,FN),(136,WS),(154,ym),(160,WT),(173,KT),(174,KU),(175,AR),(176,KV),(177,RB),(178,RC),(179,KW),(180,yp),(182,RD),(184,KX),(204,iW),(205,oh),(206,FO),(221,RE),(222,RF),(223,KY),(224,FP),(225,KZ),(226,AS),(229,RG),(244,FQ),(245,K0),(246,K6),(247,FR),(248,RH),(249,RI),(254,K7),(255,RJ),(256,RK),(266,RL),(267,uN),(268,K8),(269,RM),(270,RN),(271,K9),(272,uO),(273,RO),(274,La),(275,RP),(276,Lb),(278,RQ),(283,FT),(284,AT),(285,FU),(286,Lc),(287,RR),(288,RS),(289,RT),(290,RU),(291,Ld)]
noncomputable def uP:List (Nat×AFn):=wkd++[9,11,12,14,18,19,20,21,22,23,24,25,26,27,28,29,30,31,32,33,34,35,36,37,38,39,40,41,42,43,44,45,46,47,48,49,50,51,52,61,62,63,64,65,66,67,68,69,70,71,72,73,74,75,76,77,78,79,80,81,82,83,84,85,86,87,88,89,90,91,92,93,94,95,96,97,98,99,100,101,102,103,104,105,106,107,108,109,110,111,112,113,129,130,131,133,134,135,137,138,139,140,141,142,143,144,145,146,147,148,149,150,151,152,153,155,156,157,158,159,161,162,163,164,165,166,167,168,169,170,171,172,181,183,185,186,187,188,189,190,191,192,193,194,195,196,197,198,199,200,201,202,203,207,208,209,210,211,212,213,214,215,216,217,218,219,220,227,228,230,232,233,234,235,236,237,238,239,240,241,242,243,250,251,252,253,257,258,260,261,262,263,264,265,277,279,280,281,282,308,311,312,313,314,315,316,317,318,319,320,321,322].map fun i=>(i,cfn (pf i))
noncomputable def env:Env:=.base uP
set_option maxRecDepth 100000 in
theorem XV:lK Tryz.prog env:=ckw (ckc cgf (by kernel_rfl)) (by kernel_rfl) (by kernel_rfl)
theorem mixed:Tryz.prog.follows .mixedOrders=true:=by kernel_rfl
theorem jh:aJ Tryz.prog env:=aJ.of XV
theorem fk(i:Nat)(a:AFn)(h:env.fn i=some a:=by kernel_rfl):env.fn i=some a:=h
def acz:=fk 15 XO
def Z5:=fk 16 UP
def acA:=fk 17 XP
def acB:=fk 53 XQ
def acC:=fk 54 XR
def acD:=fk 55 NL
def acE:=fk 56 Jg
def acF:=fk 57 XS
def acG:=fk 58 UQ
def acH:=fk 59 XT
def acI:=fk 60 XU
def Z6:=fk 114 FK
def Z7:=fk 115 KP
def Z8:=fk 116 Rt
def Z9:=fk 117 KQ
def aaa:=fk 118 Ru
def aab:=fk 119 nC
def aac:=fk 120 Rv
def aad:=fk 121 KR
def aae:=fk 122 Rx
def aaf:=fk 123 Rz
def aag:=fk 124 RA
def aah:=fk 125 FL
def aai:=fk 126 FM
def aaj:=fk 127 KS
def aak:=fk 128 AQ
def aal:=fk 132 FN
def aam:=fk 136 WS
def aan:=fk 154 ym
def aao:=fk 160 WT
def aap:=fk 173 KT
def aaq:=fk 174 KU
def aar:=fk 175 AR
def aas:=fk 176 KV
def aat:=fk 177 RB
def aau:=fk 178 RC
def aav:=fk 179 KW
def aaw:=fk 180 yp
def aax:=fk 182 RD
def aay:=fk 184 KX
def aaz:=fk 204 iW
def FV:=fk 205 oh
def aaA:=fk 206 FO
def aaB:=fk 221 RE
def aaC:=fk 222 RF
def aaD:=fk 223 KY
def aaE:=fk 224 FP
def aaF:=fk 225 KZ
def aaG:=fk 226 AS
def WU:=fk 229 RG
def aaH:=fk 244 FQ
def aaI:=fk 245 K0
def aaJ:=fk 246 K6
def aaK:=fk 247 FR
def aaL:=fk 248 RH
def aaM:=fk 249 RI
def aaN:=fk 254 K7
def aaO:=fk 255 RJ
def aaP:=fk 256 RK
def aaQ:=fk 266 RL
def aaR:=fk 267 uN
def aaS:=fk 268 K8
def aaT:=fk 269 RM
def aaU:=fk 270 RN
def aaV:=fk 271 K9
def aaW:=fk 272 uO
def aaX:=fk 273 RO
def aaY:=fk 274 La
def aaZ:=fk 275 RP
def aa0:=fk 276 Lb
def aa1:=fk 278 RQ
def aa2:=fk 283 FT
def aa3:=fk 284 AT
def aa4:=fk 285 FU
def aa5:=fk 286 Lc
def aa6:=fk 287 RR
def aa7:=fk 288 RS
def aa8:=fk 289 RT
def aa9:=fk 290 RU
def aba:=fk 291 Ld
end aE
open Go
def k8(n:Nat):Nat:=if n=0 then 0 else if 15 < n then 32769 else 32768 / 2 ^ n
def lN(l:List Nat):Nat:=(l.map k8).sum
def lO(l:List Nat):Bool:=lN l==32768
def k9(l:List Nat):Bool:=lO l&&decide (0 < l.getD 257 0)
theorem NM(n:Nat):k8 n<=32769:=by
 unfold k8;split
 ·omega
 ·split
  ·omega
  ·have:=Nat.div_le_self 32768 (2 ^ n);omega
theorem UT(l:List Nat):lN l<=32769*l.length:=by
 induction l with
 | nil=>simp [lN]
 | cons a l ih=>
  have:=NM a;simp only [lN,List.map_cons,List.sum_cons,List.length_cons] at *;omega
theorem FW(l m:List Nat):lN (l++m)=lN l+lN m:=by simp [lN]
theorem RV(a:Nat):lN [a]=k8 a:=by simp [lN]
theorem NN{l:List Nat}{k:Nat}(h:k < l.length):lN (l.take (k+1))=lN (l.take k)+k8 l[k]:=by rw [List.take_succ_eq_append_getElem h,FW,RV]
theorem yq{l:List Nat}{k:Nat}(h:k < l.length)(j:Nat):(l.take (k+1)).count j=(l.take k).count j+(if l[k]=j then 1 else 0):=by rw [List.take_succ_eq_append_getElem h,List.count_append];congr 1;simp [List.count_cons]
namespace LtA
open Go Go.RowKit AM aE
theorem c9:∀ l:List Nat,(u8s l).all aW=true
 | []=>rfl
 | a::l=>by rw [show u8s (a::l)=.int .u8 (a:Int)::u8s l from rfl,List.all_cons,c9 l];rfl
theorem kD:∀ l:List Nat,(u8s l).all AM.sc=true
 | []=>rfl
 | a::l=>by rw [show u8s (a::l)=.int .u8 (a:Int)::u8s l from rfl,List.all_cons,kD l];rfl
theorem rP{l:List Nat}(h:l.length=258):(u8s l).take 258=u8s l:=List.take_of_length_le (by rw [aR];omega)
theorem FX{l:List Nat}(h:l.length=258):(258<=l.length)=True:=eq_true (by omega)
theorem tH{cs vs:List Value}(h:vs.length=cs.length):putAt cs 0 vs=vs:=by
 apply List.ext_getElem?;intro j;rw [gz _ _ _ _ (by omega)];split
 ·simp
 ·rename_i hj;rw [List.getElem?_eq_none (by omega),List.getElem?_eq_none (by omega)]
theorem AU{l:List Nat}{i:Nat}(h:i < l.length):(u8s l)[i]?=some (.int .u8 (l[i]:Int)):=by rw [j8,List.getElem?_eq_getElem h];rfl
section
variable{hp:List Blk}{L:Nat}{H d:List Nat}
theorem Jh{n:Nat}(hn:n < 256)(hF:Fit hp.length L H):aN env (.func 283) [.int .u8 n] ⟨hp,L,H,d⟩=some (.int .i64 (k8 n:Nat),⟨hp,L,H,d⟩):=by
 rw [av 283 _ _ aa2];unfold k8;by_cases h0:n=0
 ·subst h0;rw [if_pos rfl];simp (disch:=first|exact dis|fail) only [sy,simprocAttr,-List.reduceReplicate,hF.all,FT]
 rw [if_neg h0];have h0':¬ (n:Int)=0:=by omega
 by_cases h1:15 < n
 ·have h1':(n:Int) > 15:=by omega
  rw [if_pos h1];simp (disch:=first|exact dis|fail) only [sy,simprocAttr,-List.reduceReplicate,hF.all,FT,h0',h1']
 ·have h1':¬ (n:Int) > 15:=by omega
  rw [if_neg h1];have hs:Int.fdiv 32768 (2 ^ n)=((32768 / 2 ^ n:Nat):Int):=by rw [Int.fdiv_eq_ediv_of_nonneg _ (Int.le_of_lt (Int.pow_pos (by omega)))];simp
  have hng:¬ (n:Int) < 0:=by omega
  have hq:32768 / 2 ^ n<=32768:=Nat.div_le_self _ _;simp (disch:=first|exact dis|fail) only [sy,simprocAttr,-List.reduceReplicate,hF.all,FT,h0',h1',hs,hng]
theorem FY{l:List Nat}(hl:l.length=258)(h8:By l)(hF:Fit hp.length L H):∀ k i:Nat,i+k=258->∃ fr,aG env vW [2,6,5] hp.length [(2,.int .i64 (lN (l.take i):Nat)),(6,.int .i64 i),(5,.agg (u8s l).toArray)] ⟨hp,L,H,[]⟩ =
  some (.exit 0,fr,⟨hp,L,H,[]⟩)/\fr.get 2=some (.int .i64 (lN l:Nat))
 | 0,i,e=>by
  obtain rfl:i=258:=by omega
  rw [ak vW.eq_1,List.take_of_length_le (by omega)];simp (disch:=first|exact dis|fail) only [sy,simprocAttr,-List.reduceReplicate,hF.all];exact ⟨_,rfl,rfl⟩
 | k+1,i,e=>by
  have hil:i < l.length:=by omega
  obtain ⟨fr,e1,e2⟩:=FY hl h8 hF k (i+1) (by omega);have hb:l[i] < 256:=h8.get hil;have h1:(i:Int) < 258:=by omega
  have h2:0<=(i:Int)/\(i:Int) < 258:=by omega
  have hc:=AU hil;have Pm:((lN (l.take i):Nat):Int)+(k8 l[i]:Nat)=(lN (l.take (i+1)):Nat):=by rw [NN hil];omega
  have hle:=UT (l.take (i+1));have ade:(l.take (i+1)).length<=258:=by simp;omega
  rw [ak vW.eq_1];simp only [Int.natCast_add,Int.natCast_one] at e1;simp (disch:=first|exact dis|fail) only [sy,simprocAttr,-List.reduceReplicate,hF.all,h1,h2,hc,Jh hb,Pm,e1];exact ⟨fr,rfl,e2⟩
theorem FZ{l:List Nat}(hl:l.length=258)(h8:By l)(hF:Fit hp.length L H):aN env (.func 266) [.agg (u8s l).toArray] ⟨hp,L,H,d⟩=some (.int .i64 (lN l:Nat),⟨hp,L,H,d⟩):=by rw [av 266 _ _ aaQ];obtain ⟨fr,e1,e2⟩:=FY (hp:=hp++[.cells 0 true (u8s l)]) (L:=L) (H:=H) hl h8 (hF.mono (by simp)) 258 0 rfl;simp only [List.take_zero,show lN []=0 from rfl,Int.natCast_zero,List.length_append,List.length_cons,List.length_nil,Nat.zero_add] at e1;simp (disch:=first|exact dis|fail) only [sy,simprocAttr,-List.reduceReplicate,hF.all,RL,c9,kD,FX hl,rP hl,e1,e2]
theorem pV{l:List Nat}(hl:l.length=258)(h8:By l)(hF:Fit hp.length L H):aN env (.func 248) [.agg (u8s l).toArray] ⟨hp,L,H,d⟩=some (.bool (lO l),⟨hp,L,H,d⟩):=by
 rw [av 248 _ _ aaL];have hq:(((lN l:Nat):Int)==32768)=lO l:=by unfold lO;rw [Bool.eq_iff_iff];simp;omega
 simp (disch:=first|exact dis|fail) only [sy,simprocAttr,-List.reduceReplicate,hF.all,RH,c9,kD,FX hl,rP hl,FZ hl h8,hq]
theorem yu{l:List Nat}(hl:l.length=258)(h8:By l)(hF:Fit hp.length L H):aN env (.func 206) [.agg (u8s l).toArray] ⟨hp,L,H,d⟩=some (.bool (k9 l),⟨hp,L,H,d⟩):=by
 rw [av 206 _ _ aaA];have h1:=AU (l:=l) (i:=257) (by omega);have h2:l.getD 257 0=l[257]:=by rw [List.getD_eq_getElem?_getD,List.getElem?_eq_getElem];rfl
 unfold k9;rw [h2];cases hk:lO l with
 | false=>
  simp (disch:=first|exact dis|fail) only [sy,simprocAttr,-List.reduceReplicate,hF.all,FO,c9,kD,FX hl,rP hl,pV hl h8,hk,h1]
 | true=>
  have hq:decide ((l[257]:Int) > 0)=decide (0 < l[257]):=by rw [decide_eq_decide];omega
  simp (disch:=first|exact dis|fail) only [sy,simprocAttr,-List.reduceReplicate,hF.all,FO,c9,kD,FX hl,rP hl,pV hl h8,hk,h1,hq]
def kc(l:List Nat):List Value:=(List.range 16).map fun j=>.int .i64 (l.count j:Nat)
theorem om(l:List Nat):(kc l).length=16:=by simp [kc]
theorem F0(l:List Nat){j:Nat}(h:j < 16):(kc l)[j]?=some (.int .i64 (l.count j:Nat)):=by simp [kc,h]
theorem RW(l:List Nat):(kc l).all aW=true:=by simp [kc,AM.aW,AM.sc]
theorem XW(l:List Nat):(kc l).all AM.sc=true:=by simp [kc,AM.sc]
theorem UU(l:List Nat):(kc l).flatMap aI=[]:=by rw [List.flatMap_eq_nil_iff];intro v hv;simp only [kc,List.mem_map] at hv;obtain ⟨_,_,rfl⟩:=hv;rfl
theorem UW(l:List Nat):(kc l).take 16=kc l:=List.take_of_length_le (by rw [om];omega)
theorem XX:List.replicate 16 (Value.int .i64 0)=kc []:=rfl
theorem XY{l:List Nat}{i:Nat}(h:i < l.length)(h16:l[i] < 16):(kc (l.take i)).set l[i] (.int .i64 (((l.take i).count l[i]:Nat)+1))=kc (l.take (i+1)):=by
 apply List.ext_getElem?;intro j;by_cases hj:j < 16
 ·rw [F0 _ hj,List.getElem?_set,yq h];by_cases e:l[i]=j
  ·subst e;rw [if_pos rfl,if_pos (by rw [om];exact hj),if_pos rfl];congr 2
  ·rw [if_neg e,F0 _ hj,if_neg e];congr 2
 ·rw [List.getElem?_eq_none (by rw [List.length_set,om];omega),List.getElem?_eq_none (by rw [om];omega)]
theorem UX{l:List Nat}{i:Nat}(h:i < l.length)(h16:¬ l[i] < 16):kc (l.take i)=kc (l.take (i+1)):=by
 apply List.ext_getElem?;intro j;by_cases hj:j < 16
 ·rw [F0 _ hj,F0 _ hj,yq h,if_neg (by omega)];rfl
 ·rw [List.getElem?_eq_none (by rw [om];omega),List.getElem?_eq_none (by rw [om];omega)]
theorem uQ{l:List Nat}(hl:l.length=258)(h8:By l)(hF:Fit hp.length L H):∀ k i:Nat,i+k=258->∃ fr,
  aG env vU [6,5,2] (hp.length+1) [(6,.int .i64 i),(5,.agg (u8s l).toArray),(2,.pointer (some ⟨hp.length,0,some 0⟩))] ⟨hp++[.cells 0 true (kc (l.take i))],L,H,[]⟩ =
  some (.exit 0,fr,⟨hp++[.cells 0 true (kc l)],L,H,[]⟩)/\fr.get 2=some (.pointer (some ⟨hp.length,0,some 0⟩))
 | 0,i,e=>by
  obtain rfl:i=258:=by omega
  rw [ak vU.eq_1,List.take_of_length_le (by omega)];simp (disch:=first|exact dis|fail) only [sy,simprocAttr,-List.reduceReplicate,hF.all];exact ⟨_,rfl,rfl⟩
 | k+1,i,e=>by
  have hil:i < l.length:=by omega
  obtain ⟨fr,e1,e2⟩:=uQ hl h8 hF k (i+1) (by omega);have hb:l[i] < 256:=h8.get hil;have h1:(i:Int) < 258:=by omega
  have h2:0<=(i:Int)/\(i:Int) < 258:=by omega
  have hc:=AU hil;have hct:(l.take i).count l[i]<=258:=Nat.le_trans List.count_le_length (by simp;omega);rw [ak vU.eq_1];simp only [Int.natCast_add,Int.natCast_one] at e1;by_cases h16:l[i] < 16
  ·have h3:(l[i]:Int) < 16:=by omega
   have h4:0<=(l[i]:Int)/\(l[i]:Int) < 16:=by omega
   have h5:l[i]+1<=16:=by omega
   simp (disch:=first|exact dis|fail) only [sy,simprocAttr,-List.reduceReplicate,hF.all,h1,h2,hc,h3,h4,h5,F0 _ h16,om,XY hil h16,e1];exact ⟨fr,rfl,e2⟩
  ·have h3:¬ (l[i]:Int) < 16:=by omega
   rw [UX hil h16];simp (disch:=first|exact dis|fail) only [sy,simprocAttr,-List.reduceReplicate,hF.all,h1,h2,hc,h3,e1];exact ⟨fr,rfl,e2⟩
theorem F1{l:List Nat}(hl:l.length=258)(h8:By l)(hF:Fit hp.length L H):aN env (.func 249) [.agg (u8s l).toArray] ⟨hp,L,H,d⟩=some (.agg (kc l).toArray,⟨hp,L,H,d⟩):=by rw [av 249 _ _ aaM];obtain ⟨fr,e1,e2⟩:=uQ (hp:=hp++[.cells 0 true (u8s l)]) (L:=L) (H:=H) hl h8 (hF.mono (by simp)) 258 0 rfl;simp only [List.take_zero,Int.natCast_zero,List.length_append,List.length_cons,List.length_nil,Nat.zero_add,List.append_assoc,List.cons_append,List.nil_append] at e1 e2;simp (disch:=first|exact dis|fail) only [sy,simprocAttr,-List.reduceReplicate,hF.all,RI,c9,kD,FX hl,rP hl,XX,om,RW,XW,UW,UU,tH (rfl:(kc l).length=(kc l).length),e1,e2]
end
end LtA
namespace SyP
def abb:List Nat:=List.range 256
structure Dst where
 L:List Nat
 left:Nat
 run:Nat
 k:Nat
inductive Dre where
 | bad
 | more (o:Dst) (t:List Nat)
 | done (L:List Nat) (t:List Nat)
def Bl(L:List Nat):Prop:=L.Perm abb
inductive Run:Nat->Nat->List Nat->Prop where
 | nil:Run 0 0 []
 | snoc {r k:Nat} {d:List Nat} {s:Nat} : Run r k d->s < 2->Run (r+(1+s)*2 ^ k) (k+1) (d++[s])
end SyP
namespace TmM
open Go Go.RowKit AM aE LtA SyP
theorem yw{cs:List Value}{n:Nat}(h:cs.length=n):cs.take n=cs:=List.take_of_length_le (by omega)
theorem XZ{l:List Nat}{i:Nat}(h:i < l.length):(u8s l)[i]?=some (.int .u8 (l[i]:Int)):=by rw [j8,List.getElem?_eq_getElem h];rfl
theorem X7(l:List Nat):(u8s l).all aW=true:=AM.c9 l
theorem UY(l:List Nat):(u8s l).all AM.sc=true:=LtA.kD l
theorem AV(k:IntKind):∀ (xs ys:List Int) (n:Nat),xs.length=n->ys.length=n->bG (List.replicate n .nu) (xs.map (.int k)) (ys.map (.int k))=some (decide (xs=ys))
 | [],[],0,_,_=>by simp [bG]
 | [],[],n+1,h,_=>by simp at h
 | x::xs,[],n,h,h'=>by simp at h h';omega
 | [],y::ys,n,h,h'=>by simp at h h';omega
 | x::xs,y::ys,0,h,_=>by simp at h
 | x::xs,y::ys,n+1,h,h'=>by simp only [List.replicate_succ,List.map_cons,bG,jK,if_true,Option.bind_some];rw [AV k xs ys n (by simpa using h) (by simpa using h')];simp only [Option.map_some,Option.some.injEq,List.cons.injEq];rw [Bool.eq_iff_iff];simp
def inN(l:List Nat):List Int:=(List.range 256).map fun j=>if j∈l then 1 else 0
def inV(l:List Nat):List Value:=(inN l).map (.int .i64)
theorem rQ(l:List Nat):(inV l).length=256:=by simp [inV,inN]
theorem UZ:List.replicate 256 (Value.int .i64 0)=inV []:=by simp only [inV,inN,List.map_map];rw [List.map_congr_left (g:=fun _=>Value.int .i64 0) (fun j _=>by simp),List.map_const',List.length_range]
theorem NO(l:List Nat):(inV l).all aW=true:=by simp [inV,AM.aW,AM.sc]
theorem U0(l:List Nat):(inV l).all AM.sc=true:=by simp [inV,AM.sc]
theorem RX(l:List Nat):(inV l).flatMap aI=[]:=by rw [List.flatMap_eq_nil_iff];intro v hv;simp only [inV,List.mem_map] at hv;obtain ⟨_,_,rfl⟩:=hv;rfl
theorem RY(l:List Nat){j:Nat}(h:j < 256):(inV l)[j]?=some (.int .i64 (if j∈l then 1 else 0)):=by simp [inV,inN,h]
theorem U1{l:List Nat}{i:Nat}(h:i < l.length)(hb:l[i] < 256):(inV (l.take i)).set l[i] (.int .i64 1)=inV (l.take (i+1)):=by
 apply List.ext_getElem?;intro j;by_cases hj:j < 256
 ·rw [RY _ hj,List.getElem?_set];have hm:j∈l.take (i+1)↔j∈l.take i\/j=l[i]:=by rw [List.take_succ_eq_append_getElem h];simp only [List.mem_append,List.mem_singleton]
  by_cases e:l[i]=j
  ·rw [if_pos e,if_pos (by rw [rQ];omega),if_pos (hm.2 (.inr e.symm))]
  ·rw [if_neg e,RY _ hj];have:j∈l.take (i+1)↔j∈l.take i:=by rw [hm];exact ⟨fun h=>h.elim id fun h=>absurd h.symm e,.inl⟩
   simp only [this]
 ·rw [List.getElem?_eq_none (by rw [List.length_set,rQ];omega),List.getElem?_eq_none (by rw [rQ];omega)]
def yx(i:Nat):List Int:=List.replicate i 1++List.replicate (256 - i) 0
def gE(i:Nat):List Value:=(yx i).map (.int .i64)
theorem tI{i:Nat}(h:i<=256):(gE i).length=256:=by simp [gE,yx];omega
theorem Ji:List.replicate 256 (Value.int .i64 0)=gE 0:=by unfold gE yx;rw [List.replicate_zero,List.nil_append,List.map_replicate]
theorem NP{i:Nat}(h:i < 256):(gE i).set i (.int .i64 1)=gE (i+1):=by
 apply List.ext_getElem?;intro j;simp only [gE,yx,List.getElem?_set,List.length_map,List.length_append,List.length_replicate,List.getElem?_map];have g:∀ i,i<=256->∀ j,(List.replicate i (1:Int)++List.replicate (256 - i) 0)[j]?=if j < 256 then some (if j < i then 1 else 0) else none:=fun i hi j=>by
  rw [List.getElem?_append];simp only [List.length_replicate,List.getElem?_replicate];by_cases h1:j < i
  ·rw [if_pos h1,if_pos h1,if_pos (by omega),if_pos h1]
  ·rw [if_neg h1];by_cases h2:j < 256
   ·rw [if_pos (by omega),if_pos h2,if_neg h1]
   ·rw [if_neg (by omega),if_neg h2]
 rw [g i (by omega),g (i+1) (by omega)];by_cases e:i=j
 ·subst e;rw [if_pos rfl,if_pos (by omega),if_pos h,if_pos (by omega)];rfl
 ·rw [if_neg e];by_cases h2:j < 256
  ·rw [if_pos h2,if_pos h2];by_cases h3:j < i
   ·rw [if_pos h3,if_pos (by omega)]
   ·rw [if_neg h3,if_neg (by omega)]
  ·rw [if_neg h2,if_neg h2]
theorem F2(i:Nat):(gE i).all aW=true:=by simp [gE,AM.aW,AM.sc]
theorem NQ(i:Nat):(gE i).all AM.sc=true:=by simp [gE,AM.sc]
theorem Jj(i:Nat):(gE i).flatMap aI=[]:=by rw [List.flatMap_eq_nil_iff];intro v hv;simp only [gE,List.mem_map] at hv;obtain ⟨_,_,rfl⟩:=hv;rfl
theorem X9{l:List Nat} : inN l=yx 256↔∀ j,j < 256->j∈l:=by
 have h0:yx 256=(List.range 256).map fun _=>1:=by unfold yx;rw [List.map_const',List.length_range,Nat.sub_self,List.replicate_zero,List.append_nil]
 rw [h0];unfold inN;constructor
 ·intro h j hj;have:=List.map_inj_left.1 h j (by simpa using hj);by_cases hm:j∈l
  ·exact hm
  ·simp [hm] at this
 ·intro h;refine List.map_congr_left fun j hj=>?_;rw [if_pos (h j (by simpa using hj))]
def vb(l:List Nat):Bool:=(List.range 256).all fun j=>decide (j∈l)
theorem RZ{l:List Nat} : vb l=true↔∀ j,j < 256->j∈l:=by
 unfold vb;rw [List.all_eq_true];constructor
 ·intro h j hj;exact of_decide_eq_true (h j (List.mem_range.2 hj))
 ·intro h j hj;exact decide_eq_true (h j (List.mem_range.1 hj))
section
variable{hp:List Blk}{L:Nat}{H d:List Nat}
theorem AW(hF:Fit hp.length L H):∀ k i:Nat,i+k=256->∃ fr,
  aG env vT [2,0] (hp.length+1) [(2,.int .i64 i),(0,.pointer (some ⟨hp.length,0,some 0⟩))] ⟨hp++[.cells 0 true (gE i)],L,H,[]⟩ =
  some (.exit 0,fr,⟨hp++[.cells 0 true (gE 256)],L,H,[]⟩)/\fr.get 0=some (.pointer (some ⟨hp.length,0,some 0⟩))
 | 0,i,e=>by
  obtain rfl:i=256:=by omega
  rw [ak vT.eq_1];simp (disch:=first|exact dis|fail) only [sy,simprocAttr,-List.reduceReplicate,hF.all];exact ⟨_,rfl,rfl⟩
 | k+1,i,e=>by
  obtain ⟨fr,e1,e2⟩:=AW hF k (i+1) (by omega);have h1:(i:Int) < 256:=by omega
  have h2:0<=(i:Int)/\(i:Int) < 256:=by omega
  have h3:i+1<=256:=by omega
  rw [ak vT.eq_1];simp only [Int.natCast_add,Int.natCast_one] at e1;simp (disch:=first|exact dis|fail) only [sy,simprocAttr,-List.reduceReplicate,hF.all,h1,h2,h3,tI (show i<=256 by omega),NP (show i < 256 by omega),e1];exact ⟨fr,rfl,e2⟩
theorem NR(hF:Fit hp.length L H):aN env (.func 229) [] ⟨hp,L,H,d⟩=some (.agg (gE 256).toArray,⟨hp,L,H,d⟩):=by rw [av 229 _ _ WU];obtain ⟨fr,e1,e2⟩:=AW (hp:=hp) (L:=L) (H:=H) hF 256 0 rfl;simp only [Int.natCast_zero] at e1;have hl:=tI (Nat.le_refl 256);have hcv:=F2 256;have hsc:=NQ 256;have hrf:=Jj 256;generalize gE 256=o at *;simp (disch:=first|exact dis|fail) only [sy,simprocAttr,-List.reduceReplicate,hF.all,RG,Ji,hl,yw hl,hcv,hsc,hrf,tH (rfl:o.length=o.length),e1,e2]
theorem yy{l:List Nat}(hl:l.length=256)(h8:By l){b:Blk}(hF:Fit hp.length L H):∀ k i:Nat,i+k=256->∃ fr,
  aG env vS [7,6,3] (hp.length+2) [(7,.int .i64 i),(6,.agg (u8s l).toArray),(3,.pointer (some ⟨hp.length+1,0,some 0⟩))] ⟨hp++[b,.cells 0 true (inV (l.take i))],L,H,[]⟩ =
  some (.exit 0,fr,⟨hp++[b,.cells 0 true (inV l)],L,H,[]⟩)/\fr.get 3=some (.pointer (some ⟨hp.length+1,0,some 0⟩))
 | 0,i,e=>by
  obtain rfl:i=256:=by omega
  rw [ak vS.eq_1,List.take_of_length_le (by omega)];simp (disch:=first|exact dis|fail) only [sy,simprocAttr,-List.reduceReplicate,hF.all];exact ⟨_,rfl,rfl⟩
 | k+1,i,e=>by
  have hil:i < l.length:=by omega
  obtain ⟨fr,e1,e2⟩:=yy hl h8 (b:=b) hF k (i+1) (by omega);have hb:l[i] < 256:=h8.get hil;have h1:(i:Int) < 256:=by omega
  have h2:0<=(i:Int)/\(i:Int) < 256:=by omega
  have h4:0<=(l[i]:Int)/\(l[i]:Int) < 256:=by omega
  have h5:l[i]+1<=256:=by omega
  have hc:=XZ hil;rw [ak vS.eq_1];simp only [Int.natCast_add,Int.natCast_one] at e1;simp (disch:=first|exact dis|fail) only [sy,simprocAttr,-List.reduceReplicate,hF.all,h1,h2,hc,h4,h5,rQ,U1 hil hb,e1];exact ⟨fr,rfl,e2⟩
set_option maxRecDepth 100000 in
theorem F3{l:List Nat}(hl:l.length=256)(h8:By l)(hF:Fit hp.length L H):aN env (.func 184) [.agg (u8s l).toArray] ⟨hp,L,H,d⟩=some (.bool (vb l),⟨hp,L,H,d⟩):=by
 rw [av 184 _ _ aay];have hu:(u8s l).length=256:=by rw [aR,hl]
 obtain ⟨fr,e1,e2⟩:=yy (hp:=hp) (L:=L) (H:=H) hl h8 (b:=.cells 0 true (u8s l)) hF 256 0 rfl;simp only [List.take_zero,Int.natCast_zero] at e1;have hl2:=rQ l;have hcv:=NO l;have hrf:=RX l;have hsc:=U0 l;have heq:bG (List.replicate 256 Sh.nu) (inV l) (gE 256)=some (vb l):=by rw [inV,gE,AV .i64 _ _ 256 (by simp [inN]) (by rw [<- List.length_map (f:=Value.int .i64)];exact tI (Nat.le_refl 256))];congr 1;rw [Bool.eq_iff_iff,decide_eq_true_eq,X9,RZ]
 have h0:=UZ;generalize inV l=o at *;have how:=fun hp L H d hF=>NR (hp:=hp) (L:=L) (H:=H) (d:=d) hF;generalize gE 256=w at *;simp (disch:=first|exact dis|fail) only [sy,simprocAttr,-List.reduceReplicate,hF.all,KX,X7,UY,hu,yw hu,h0,hl2,yw hl2,hcv,hsc,hrf,how,heq,e1,e2]
end
end TmM
namespace AM
open Go Go.RowKit
end AM
namespace TsA
open Go Go.RowKit AM aE LtA SyP TmM
end TsA
end Go.Proofs.YtgdpefeomemllaaGreat
section
namespace Go.Proofs.YtgdpefeomemllaaGreat
namespace AM
open Go
def firsts:List Nat->List Nat->List Nat
 | [],acc=>acc
 | r::l,acc=>if acc.contains r then firsts l acc else firsts l (acc++[r])
theorem mQ:∀ (l acc:List Nat) (x:Nat),x∈firsts l acc↔x∈l\/x∈acc
 | [],acc,x=>by simp [firsts]
 | r::l,acc,x=>by
  unfold firsts;split
  ·next h=>
   rw [mQ l acc x];have:r∈acc:=by simpa using h
   constructor
   ·rintro (h1 | h1)
    ·simp [h1]
    ·exact .inr h1
   ·rintro (h1 | h1)
    ·rcases List.mem_cons.1 h1 with rfl | h2
     ·exact .inr this
     ·exact .inl h2
    ·exact .inr h1
  ·rw [mQ l _ x];simp only [List.mem_append,List.mem_cons,List.not_mem_nil,or_false];constructor
   ·rintro (h1 | h1 | h1)
    ·exact .inl (.inr h1)
    ·exact .inr h1
    ·exact .inl (.inl h1)
   ·rintro ((h1 | h1) | h1)
    ·exact .inr (.inr h1)
    ·exact .inl h1
    ·exact .inr (.inl h1)
theorem uR:∀ (l:List Nat) (r:Nat),dW l=true->l.contains r=false->dW (l++[r])=true
 | [],r,_,_=>rfl
 | x::l,r,h,hr=>by
  simp only [dW,Bool.and_eq_true,List.cons_append] at h ⊢;simp only [List.contains_cons,Bool.or_eq_false_iff] at hr;refine ⟨?_,uR l r h.2 hr.2⟩;have h1:=h.1;simp only [Bool.not_eq_true',List.contains_eq_mem,decide_eq_false_iff_not] at h1 ⊢;intro hx;rcases List.mem_append.1 hx with h2 | h2
  ·exact h1 h2
  ·simp at h2 hr;exact hr.1 h2.symm
theorem mR:∀ (l acc:List Nat),dW acc=true->dW (firsts l acc)=true
 | [],acc,h=>h
 | r::l,acc,h=>by
  unfold firsts;split
  ·exact mR l acc h
  ·next hc=>exact mR l _ (uR acc r h (by simpa using hc))
def Jk(b:Blk):Prop:=cU b=[]/\∀ f,gK f b=b
theorem Jk.plain(g:Nat)(cs:List Value):Jk (.cells g true cs):=⟨rfl,fun _=>rfl⟩
theorem oo{hp:List Blk}{base:Nat} : ∀ (ws acc:List Nat) (f:Nat),ws.length < f->(∀ x∈ws,base<=x/\∃ b,hp[x]?=some b/\Jk b)->reach hp base f ws acc=firsts ws acc
 | ws,acc,0,h,_=>by omega
 | [],acc,f+1,_,_=>by rw [reach,firsts]
 | r::ws,acc,f+1,hl,hx=>by
  obtain ⟨h1,b,h2,h3⟩:=hx r (by simp);rw [reach,firsts];have hb:(decide (r < base)||acc.contains r)=acc.contains r:=by rw [decide_eq_false (by omega),Bool.false_or]
  rw [hb];simp only [List.length_cons] at hl;have hr:aP hp r=[]:=by simp [aP,h2,h3.1]
  rw [hr,List.nil_append,oo ws acc f (by omega) (fun x h=>hx x (by simp [h])),oo ws (acc++[r]) f (by omega) (fun x h=>hx x (by simp [h]))]
theorem rR{f:Nat->Nat}{v:Value}(h:∀ r∈aI v,f r=r):dU f v=v:=by
 cases v with
 | pointer a=>cases a with
  | none=>rfl
  | some a=>simp only [dU];rw [h a.block (by simp [aI])]
 | slice a n e=>cases a with
  | none=>rfl
  | some a=>simp only [dU];rw [h a.block (by simp [aI])]
 | map r=>cases r with
  | none=>rfl
  | some r=>simp only [dU];rw [h r (by simp [aI])]
 | iface t v=>
  cases v<;>try rfl
  rename_i a;cases a with
  | none=>rfl
  | some a=>simp only [dU];rw [h a.block (by simp [aI])]
 | _=>rfl
theorem map_id'{α:Type}{f:α->α}{l:List α}(h:∀ a∈l,f a=a):l.map f=l:=by rw [List.map_congr_left (g:=id) h,List.map_id]
theorem C0{f:Nat->Nat}{v:Value}(h:∀ r∈bw v,f r=r):fN f v=v:=by
 cases v with
 | agg cs=>
  simp only [fN];rw [map_id' fun a ha=>rR fun r hr=>h r (List.mem_flatMap.2 ⟨a,ha,hr⟩)]
 | func k fi ca=>
  simp only [fN];rw [map_id' fun a ha=>rR fun r hr=>h r (List.mem_append.2 (.inl (List.mem_flatMap.2 ⟨a,ha,hr⟩))),map_id' fun a ha=>rR fun r hr=>h r (List.mem_append.2 (.inr (List.mem_flatMap.2 ⟨a,ha,hr⟩)))]
 | _=>simp only [fN];exact rR (by simpa only [bw] using h)
theorem R1{f:Nat->Nat}{v:Value}(h:∀ r∈refs v,f r=r):ren f v=v:=by
 cases v with
 | tuple vs=>
  simp only [ren];rw [map_id' fun a ha=>C0 fun r hr=>h r (List.mem_flatMap.2 ⟨a,ha,hr⟩)]
 | _=>simp only [ren];exact C0 (by simpa only [refs] using h)
def plc(base:Nat)(ks:List Nat)(id:Nat):Nat:=if id < base then id else base+ks.idxOf id
section
variable{h nw:List Blk}{L:Nat}{H d:List Nat}{vs:List Value}
theorem R2{R:List Nat}(hdn:dW d=true)(hdl:∀ t∈d,t < h.length)
  (KO:(vs.flatMap refs++d.flatMap (aP h)).filter (h.length<=·)=R) (hne:R≠[]) (hlen:R.length < 4096)
  (hp:∀ r∈R,∃ b,(h++nw)[r]?=some b/\Jk b) :
  gc h.length vs ⟨h++nw,L,H,d⟩=some (vs.map (ren (plc h.length (firsts R []))),⟨dV (plc h.length (firsts R [])) d h++(firsts R []).map fun r=>(h++nw).getD r default,L,H,d⟩):=by
 have abc:d.filter (· < h.length)=d:=List.filter_eq_self.2 fun t ht=>by simpa using hdl t ht
 have abd:∀ t∈d,aP (h++nw) t=aP h t:=fun t ht=>by unfold aP;rw [List.getElem?_append_left (hdl t ht)]
 have hfm:d.flatMap (aP (h++nw))=d.flatMap (aP h):=by rw [List.flatMap_def,List.flatMap_def,List.map_congr_left abd]
 have hR:∀ r∈R,h.length<=r/\r < (h++nw).length:=fun r hr=>by
  refine ⟨?_,?_⟩
  ·rw [<- KO] at hr;simpa using (List.mem_filter.1 hr).2
  ·obtain ⟨b,h1,_⟩:=hp r hr;exact (List.getElem?_eq_some_iff.1 h1).1
 have abe:¬ (h++nw).length<=h.length:=by
  cases R with
  | nil=>exact absurd rfl hne
  | cons r R=>have:=hR r (by simp);omega
 have hmem:∀ r,(r∈vs.flatMap refs\/r∈d.flatMap (aP h))->(decide (r < h.length)||(firsts R []).contains r)=true:=fun r hr=>by
  rcases Nat.lt_or_ge r h.length with h1 | h1
  ·simp [h1]
  ·have:r∈R:=by rw [<- KO];exact List.mem_filter.2 ⟨List.mem_append.2 hr,by simpa using h1⟩
   have:r∈firsts R []:=(mQ R [] r).2 (.inl this);simp [this]
 unfold gc;rw [if_neg abe];simp only [abc,hfm];rw [KO];cases hRR:R with
 | nil=>exact absurd hRR hne
 | cons r R'=>
  simp only [];rw [oo (r::R') [] 4096 (by rw [<- hRR];exact hlen) (fun x hx=>by rw [<- hRR] at hx;exact ⟨(hR x hx).1,hp x hx⟩),<- hRR];unfold lZ;simp only [abc];have hkm:∀ k∈firsts R [],k∈R:=fun k hk=>by
   rcases (mQ R [] k).1 hk with h1 | h1
   ·exact h1
   ·cases h1
  refine (if_pos ?_).trans ?_
  ·simp only [Bool.and_eq_true];refine ⟨⟨⟨⟨mR R [] rfl,hdn⟩,?_⟩,?_⟩,?_⟩
   ·rw [List.all_eq_true];intro v hv;rw [List.all_eq_true];intro r hr;exact hmem r (.inl (List.mem_flatMap.2 ⟨v,hv,hr⟩))
   ·rw [List.all_eq_true];intro t ht;rw [List.all_eq_true];intro r hr;rw [abd t ht] at hr;exact hmem r (.inr (List.mem_flatMap.2 ⟨t,ht,hr⟩))
   ·rw [List.all_eq_true];intro k hk;have hk':=hkm k hk;obtain ⟨b,hg,hs⟩:=hp k hk';have hr0:aP (h++nw) k=[]:=by simp [aP,hg,hs.1]
    rw [hr0];simp only [List.all_nil,Bool.and_true,Bool.and_eq_true,decide_eq_true_eq];exact hR k hk'
  ·simp only [List.take_left'];congr 4;refine List.map_congr_left fun k hk=>?_;obtain ⟨b,hg,hs⟩:=hp k (hkm k hk);rw [List.getD_eq_getElem?_getD,hg];exact hs.2 _
end
end AM
end Go.Proofs.YtgdpefeomemllaaGreat
end
namespace Go.Proofs.YtgdpefeomemllaaGreat
namespace AM
open Go Go.RowKit
end AM
namespace TsB
open Go Go.RowKit AM aE LtA SyP TmM TsA
theorem Ya{h nw:List Blk}{b:Blk}(k:Nat)(hk:nw[k]?=some b)(hb:Jk b)(s:Option Nat)(n e:Nat)(L:Nat)(H:List Nat) :
  gcY h nw (.slice (some ⟨h.length+k,0,s⟩) n e) L H false=some ([.slice (some ⟨h.length,0,s⟩) n e],⟨h++[b],L,H,[]⟩):=by
 have g0:(h++nw)[h.length+k]?=some b:=by rw [gj];exact hk
 unfold gcY;rw [R2 (R:=[h.length+k]) rfl (by simp) (by simp [refs,bw,aI]) (by simp) (by simp) (fun r hr=>by simp only [List.mem_cons,List.not_mem_nil,or_false] at hr;subst hr;exact ⟨_,g0,hb⟩)]
 have hf:firsts [h.length+k] []=[h.length+k]:=rfl;rw [hf];have p0:plc h.length [h.length+k] (h.length+k)=h.length:=by simp [plc];omega
 simp only [List.map_cons,List.map_nil,ren,fN,dU,p0,dV,List.getD_eq_getElem?_getD,g0,Option.getD_some]
theorem U2{h:List Blk}{b:Blk}(hb:Jk b)(s:Option Nat)(n e:Nat)(L:Nat)(H:List Nat) :
  gcY h [b] (.slice (some ⟨h.length,0,s⟩) n e) L H false=some ([.slice (some ⟨h.length,0,s⟩) n e],⟨h++[b],L,H,[]⟩):=Ya 0 rfl hb s n e L H
end TsB
end Go.Proofs.YtgdpefeomemllaaGreat
section
namespace Go.Proofs.YtgdpefeomemllaaGreat
namespace AM
open Go
def iE(l:List Nat):Prop:=∀ b∈l,b < 2
theorem iE.nil:iE []:=fun b h=>by cases h
theorem iE.append{l m:List Nat}(h:iE l)(k:iE m):iE (l++m):=fun x hx=>(List.mem_append.1 hx).elim (h x) (k x)
theorem iE.one{b:Nat}(h:b < 2):iE [b]:=fun x hx=>by simp at hx;omega
def g(l:List Nat)(p:Nat):Nat:=l.getD p 0
def byt(l:List Nat)(i:Nat):Nat:=128*g l (8*i)+64*g l (8*i+1)+32*g l (8*i+2)+16*g l (8*i+3)+8*g l (8*i+4)+4*g l (8*i+5)+2*g l (8*i+6)+g l (8*i+7)
def nb(l:List Nat):Nat:=(l.length+7) / 8
def abf(l:List Nat)(n:Nat):List Nat:=(List.range n).map (byt l)
def acJ(l:List Nat):List Nat:=abf l (nb l)
end AM
end Go.Proofs.YtgdpefeomemllaaGreat
end
section
namespace Go.Proofs.YtgdpefeomemllaaGreat
namespace Bt
open Go Go.RowKit AM aE
def Wr(k:Nat)(l:List Nat):Blk:=.cells 0 false [if l.length=0 then .slice none 0 0 else .slice (some ⟨k,0,some (nb l)⟩) (nb l) 1,.int .i64 l.length]
def Wb(l:List Nat):Blk:=.cells (nb l) true (u8s (acJ l))
structure Ws(hp:List Blk)(L:Nat)(H:List Nat)(a k:Nat)(l:List Nat):Prop where
 w:hp[a]?=some (Wr k l)
 b:l.length≠0->hp[k]?=some (Wb l)
 k0:l.length=0->k=hp.length
 aL:L<=a
 kL:L<=k
 aH:H.contains a=false
 kH:H.contains k=false
 ne:a≠k
 bits:iE l
end Bt
end Go.Proofs.YtgdpefeomemllaaGreat
end
section
namespace Go.Proofs.YtgdpefeomemllaaGreat
namespace Bt
open Go Go.RowKit AM aE
section
variable{hp:List Blk}{L:Nat}{H:List Nat}{a k:Nat}{l m:List Nat}
theorem Ws.lt(w:Ws hp L H a k l):a < hp.length:=(List.getElem?_eq_some_iff.1 w.w).1
end
end Bt
end Go.Proofs.YtgdpefeomemllaaGreat
end
section
namespace Go.Proofs.YtgdpefeomemllaaGreat
namespace Bt
open Go Go.RowKit AM aE
end Bt
end Go.Proofs.YtgdpefeomemllaaGreat
end
section
namespace Go.Proofs.YtgdpefeomemllaaGreat
namespace Bt
open Go Go.RowKit AM aE
variable{hp:List Blk}{L:Nat}{H:List Nat}{a k:Nat}{l m:List Nat}
end Bt
end Go.Proofs.YtgdpefeomemllaaGreat
end
section
namespace Go.Proofs.YtgdpefeomemllaaGreat
namespace Bt
open Go Go.RowKit AM aE
variable{hp:List Blk}{L:Nat}{H:List Nat}{a k:Nat}{l m:List Nat}
structure Wv(hp:List Blk)(H:List Nat)(a k:Nat)(l:List Nat):Prop where
 w:hp[a]?=some (Wr k l)
 b:l.length≠0->hp[k]?=some (Wb l)
 aH:H.contains a=false
 kH:l.length≠0->H.contains k=false
 bits:iE l
end Bt
end Go.Proofs.YtgdpefeomemllaaGreat
end
section
namespace Go.Proofs.YtgdpefeomemllaaGreat
namespace Bt
open Go Go.RowKit AM aE
variable{hp:List Blk}{L:Nat}{H:List Nat}{a k:Nat}{l m:List Nat}
def is(l:List Nat):List Value:=l.map fun n:Nat=>.int .i64 (n:Int)
theorem NS(l:List Nat):(is l).length=l.length:=by simp [is]
theorem WV(l:List Nat):(is l).all sc=true:=by simp [is,AM.sc]
theorem F4(l:List Nat):(is l).all aW=true:=by simp [is,aW,AM.sc]
def slI(k:Nat)(l:List Nat):Value:=if l.length=0 then .slice none 0 0 else .slice (some ⟨k,0,some l.length⟩) l.length 1
def NT(l:List Nat):List Blk:=if l.length=0 then [] else [.cells l.length true (is l)]
theorem Jl{L:Nat}{H d:List Nat}{m:List Nat}(h0:m.length≠0)(hs:m.length<=1048576):St.append ⟨hp,L,H,d⟩ true 1 (.slice none 0 0) m.length (is m)=some (.slice (some ⟨hp.length,0,some m.length⟩) m.length 1,⟨hp++[.cells m.length true (is m)],L,H,d⟩):=by
 have hsm:small m.length=true:=by simp [small,hs]
 simp [St.append,h0,hsm,WV,F4]
theorem NU{L:Nat}{H d:List Nat}{b:Nat}{l m:List Nat}(hb:hp[b]?=some (.cells l.length true (is l)))(hL:L<=b)(hh:H.contains b=false)(h0:m.length≠0)(hs:l.length+m.length<=1048576) :
  St.append ⟨hp,L,H,d⟩ true 1 (.slice (some ⟨b,0,some l.length⟩) l.length 1) m.length (is m)=some (.slice (some ⟨b,0,some (l.length+m.length)⟩) (l.length+m.length) 1,⟨hp.set b (.cells (l.length+m.length) true (is (l++m))),L,H,d⟩):=by
 have hsm:small (l.length+m.length)=true:=by simp [small,hs]
 have hbl:St.blk ⟨hp,L,H,d⟩ ⟨b,0,some l.length⟩=some (true,is l):=by unfold St.blk;rw [hh,hb];simp
 have hnl:¬ b < L:=by omega
 simp [St.append,h0,hsm,WV,F4,hbl,hnl,NS,bu];simp [is]
end Bt
end Go.Proofs.YtgdpefeomemllaaGreat
end
namespace Go.Proofs.YtgdpefeomemllaaGreat
namespace TsC
open Go Go.RowKit AM aE LtA SyP TmM TsA TsB Bt
section
variable{hp:List Blk}{L:Nat}{H d:List Nat}
theorem Lf(k:Nat):slI k []=.slice none 0 0:=rfl
theorem F5:NT []=[]:=rfl
end
end TsC
namespace TsD
open Go Go.RowKit AM aE LtA SyP TmM TsA TsB TsC Bt
end TsD
namespace TsE
open Go Go.RowKit AM aE LtA SyP TmM TsA TsB TsC TsD Bt
section
variable{hp:List Blk}{L:Nat}{H d:List Nat}
theorem R3{x:Nat} : St.append ⟨hp,L,H,d⟩ true 1 (.slice none 0 0) 1 [.int .i64 (x:Int)]=some (.slice (some ⟨hp.length,0,some 1⟩) 1 1,⟨hp++[.cells 1 true (is [x])],L,H,d⟩):=
 Jl (m:=[x]) (by simp) (by simp)
theorem U3{b n x:Nat}{l:List Nat}(hn:l.length=n)(hb:hp[b]?=some (.cells n true (is l)))(hL:L<=b)(hh:H.contains b=false)(hs:n+1<=1048576) :
  St.append ⟨hp,L,H,d⟩ true 1 (.slice (some ⟨b,0,some n⟩) n 1) 1 [.int .i64 (x:Int)]=some (.slice (some ⟨b,0,some (n+1)⟩) (n+1) 1,⟨hp.set b (.cells (n+1) true (is (l++[x]))),L,H,d⟩):=by subst hn;exact NU (m:=[x]) hb hL hh (by simp) hs
theorem Lg{k N:Nat}{W:List Nat}(h:W.length=N)(h0:N≠0):slI k W=.slice (some ⟨k,0,some N⟩) N 1:=by subst h;unfold slI;rw [if_neg h0]
theorem C1{N:Nat}{W:List Nat}(h:W.length=N)(h0:N≠0):NT W=[.cells N true (is W)]:=by subst h;unfold NT;rw [if_neg h0]
end
end TsE
namespace TsF
open Go Go.RowKit AM aE LtA SyP TmM TsA TsB TsC TsD TsE Bt
end TsF
namespace TsG
open Go Go.RowKit AM aE LtA SyP TmM TsA TsB TsC TsD TsE TsF Bt
section
variable{hp:List Blk}{L:Nat}{H d:List Nat}{l:List Nat}{m r k:Nat}{f:Bool}
structure DOk(l:List Nat)(m r k:Nat):Prop where
 bl:Bl l
 hm:m<=65536
 hr:r<=m
 hk:k<=16
 lo:2 ^ k - 1<=r
 hi:r<=2*(2 ^ k - 1)
end
end TsG
namespace TsH
open Go Go.RowKit AM aE LtA SyP TmM TsA TsB TsC TsD TsE TsF TsG Bt
end TsH
namespace TsI
open Go Go.RowKit AM aE LtA SyP TmM TsA TsB TsC TsD TsE TsF TsG TsH Bt
def sl8(k:Nat)(l:List Nat):Value:=if l.length=0 then .slice none 0 0 else .slice (some ⟨k,0,some l.length⟩) l.length 1
def R4(l:List Nat):List Blk:=if l.length=0 then [] else [.cells l.length true (u8s l)]
end TsI
namespace TsJ
open Go Go.RowKit AM aE LtA SyP TmM TsA TsB TsC TsD TsE TsF TsG TsH TsI Bt
theorem _root_.Go.Proofs.YtgdpefeomemllaaGreat.TsG.DOk.small{l:List Nat}{m r k s:Nat}(h:DOk l m r k)(hs:s < 2)(hq:r+(1+s)*2 ^ k<=m):DOk l m (r+(1+s)*2 ^ k) (k+1):=by
 obtain ⟨b1,b2,b3,b4,b5,b6⟩:=h;have hpos:1<=(2:Nat) ^ k:=Nat.one_le_two_pow;have hk:k+1<=16:=by
  rcases Nat.lt_or_ge k 16 with h | h
  ·exact h
  ·obtain rfl:k=16:=by omega
   have h16:(2:Nat) ^ 16=65536:=by decide
   rw [h16] at b5 hq;rcases (show s=0\/s=1 by omega) with rfl | rfl<;>omega
 have e:(2:Nat) ^ (k+1)=2*2 ^ k:=by rw [Nat.pow_succ];omega
 refine ⟨b1,b2,hq,hk,?_,?_⟩<;>rw [e]<;>generalize (2:Nat) ^ k=P at*<;> rcases (show s=0\/s=1 by omega) with rfl | rfl<;>omega
section
variable{hp:List Blk}{L:Nat}{H d:List Nat}{l:List Nat}{m r k:Nat}{f:Bool}
theorem F6{k N:Nat}{W:List Nat}(h:W.length=N)(h0:N≠0):sl8 k W=.slice (some ⟨k,0,some N⟩) N 1:=by subst h;unfold sl8;rw [if_neg h0]
theorem yz{N:Nat}{W:List Nat}(h:W.length=N)(h0:N≠0):R4 W=[.cells N true (u8s W)]:=by subst h;unfold R4;rw [if_neg h0]
theorem C2(k:Nat):sl8 k []=.slice none 0 0:=rfl
theorem yA:R4 []=[]:=rfl
theorem R5{n:Nat}{t:List Nat}(hn:t.length=n)(h0:n≠0)(hs:n<=1048576):St.append ⟨hp,L,H,d⟩ true 1 (.slice none 0 0) n (u8s t)=some (.slice (some ⟨hp.length,0,some n⟩) n 1,⟨hp++[.cells n true (u8s t)],L,H,d⟩):=by subst hn;exact FF (by intro h;rw [h] at h0;exact h0 rfl) hs
theorem U4{b n a:Nat}{t u:List Nat}(hn:t.length=n)(ha:u.length=a)(hb:hp[b]?=some (.cells a true (u8s u)))(hL:L<=b)(hh:H.contains b=false)(hs:a+n<=1048576) :
  St.append ⟨hp,L,H,d⟩ true 1 (.slice (some ⟨b,0,some a⟩) a 1) n (u8s t)=some (.slice (some ⟨b,0,some (a+n)⟩) (a+n) 1,⟨hp.set b (.cells (a+n) true (u8s (u++t))),L,H,d⟩):=by subst hn;subst ha;have:=FI (d:=d) (l:=t) hb hL hh hs;simp only [List.length_append] at this;exact this
end
end TsJ
namespace TsK
open Go Go.RowKit AM aE LtA SyP TmM TsA TsB TsC TsD TsE TsF TsG TsH TsI TsJ Bt
end TsK
namespace TsM
open Go Go.RowKit AM aE LtA SyP TmM TsA TsB TsC TsD TsE TsF TsG TsH TsI TsJ TsK Bt
end TsM
namespace TtA
open Go Go.RowKit AM aE LtA SyP TmM TsA TsB TsI Bt
end TtA
namespace TtB
open Go Go.RowKit AM aE LtA SyP TmM TsA TsB TsE TsI TsJ TtA Bt
def pW(x:List Nat):List Nat->Nat->List Nat->Nat->List Nat×Nat
 | [],_,acc,idx=>(acc,idx)
 | i::o,row,acc,idx=>if i=0 then pW x o (row+1) acc row else pW x o (row+1) (acc++[x.getD (i - 1) 0]) idx
section
variable{hp:List Blk}{L:Nat}{H d:List Nat}
theorem C3{k n:Nat}{cs:List Value}{c0:Blk}{nw:List Blk}{v:Value}{i1 i2 i3:Int}{m:Nat}(hk:nw[k]?=some (.cells n true cs))(hv:∀ r∈refs v,r < hp.length) :
  jo (hp.length+1) [(3,.int .i64 i1),(9,.int .i64 i2),(8,.int .i64 i3),(7,.slice (some ⟨hp.length,0,some 0⟩) m 1),(0,v),(2,.slice (some ⟨hp.length+1+k,0,some n⟩) n 1)] ⟨hp++c0::nw,L,H,[]⟩
   = some ([(3,.int .i64 i1),(9,.int .i64 i2),(8,.int .i64 i3),(7,.slice (some ⟨hp.length,0,some 0⟩) m 1),(0,v),(2,.slice (some ⟨hp.length+1,0,some n⟩) n 1)],⟨hp++[c0,.cells n true cs],L,H,[]⟩):=by
 unfold jo;have e:hp++c0::nw=(hp++[c0])++nw:=by simp
 have hl:(hp++[c0]).length=hp.length+1:=by simp
 have G:=CO (h:=hp++[c0]) (nw:=nw) (k:=k) (L:=L) (H:=H) (d:=[]) (vs:=List.map (·.2) [(3,.int .i64 i1),(9,.int .i64 i2),(8,.int .i64 i3),(7,.slice (some ⟨hp.length,0,some 0⟩) m 1),(0,v),(2,.slice (some ⟨hp.length+1+k,0,some n⟩) n 1)]) hk (by
  intro u hu r hr;rw [hl];simp only [List.map_cons,List.map_nil,List.mem_cons,List.not_mem_nil,or_false] at hu;rcases hu with rfl | rfl | rfl | rfl | rfl | rfl
  ·simp [refs,bw,aI] at hr
  ·simp [refs,bw,aI] at hr
  ·simp [refs,bw,aI] at hr
  ·simp [refs,bw,aI] at hr;omega
  ·have:=hv r hr;omega
  ·simp [refs,bw,aI] at hr;omega) ⟨.slice (some ⟨hp.length+1+k,0,some n⟩) n 1,by simp,by rw [hl];simp [refs,bw,aI]⟩ rfl
 rw [hl] at G;rw [e,G];have o0:AM.one (hp.length+1) (hp.length+1+k) hp.length=hp.length:=rM (by omega);have o2:AM.one (hp.length+1) (hp.length+1+k) (hp.length+1+k)=hp.length+1:=eU;have o3:ren (AM.one (hp.length+1) (hp.length+1+k)) v=v:=R1 fun r hr=>rM (by have:=hv r hr;omega);simp only [Option.map_some,List.map_cons,List.map_nil,List.zip_cons_cons,List.zip_nil_left,o3];simp only [ren,fN,dU,o0,o2,List.append_assoc,List.cons_append,List.nil_append]
theorem NV{x:Nat} : St.append ⟨hp,L,H,d⟩ true 1 (.slice none 0 0) 1 [.int .u8 (x:Int)]=some (.slice (some ⟨hp.length,0,some 1⟩) 1 1,⟨hp++[.cells 1 true (u8s [x])],L,H,d⟩):=R5 (t:=[x]) rfl (by decide) (by decide)
theorem R6{b a x:Nat}{u:List Nat}(ha:u.length=a)(hb:hp[b]?=some (.cells a true (u8s u)))(hL:L<=b)(hh:H.contains b=false)(hs:a+1<=1048576) :
  St.append ⟨hp,L,H,d⟩ true 1 (.slice (some ⟨b,0,some a⟩) a 1) 1 [.int .u8 (x:Int)]=some (.slice (some ⟨b,0,some (a+1)⟩) (a+1) 1,⟨hp.set b (.cells (a+1) true (u8s (u++[x]))),L,H,d⟩):=U4 (t:=[x]) rfl ha hb hL hh hs
def R7(hp:List Blk)(v:Value)(m:Nat)(idx row:Nat)(sl:Value):Fr:=[(3,.int .i64 idx),(9,.int .i64 row),(8,.int .i64 m),(7,.slice (some ⟨hp.length,0,some 0⟩) m 1),(0,v),(2,sl)]
theorem C4{x o:List Nat}{a:Option Addr}{e n:Nat}(hR:Rd ⟨hp,L,H,[]⟩ (.slice a n e) x)(hxs:x.length<=100000)(hos:o.length<=100001)(ho:∀ i∈o,i<=x.length)(hF:Fit hp.length L H):∀ (k row:Nat) (acc:List Nat) (idx:Nat),row+k=o.length->acc.length<=row->∃ fr,
  aG env yj [3,9,8,7,0,2] (hp.length+1) (R7 hp (.slice a n e) o.length idx row (sl8 (hp.length+1) acc)) ⟨hp++.cells 0 true (is o)::R4 acc,L,H,[]⟩
   = some (.exit 0,fr,⟨hp++.cells 0 true (is o)::R4 (pW x (o.drop row) row acc idx).1,L,H,[]⟩)/\fr.get 2=some (sl8 (hp.length+1) (pW x (o.drop row) row acc idx).1)/\fr.get 3=some (.int .i64 (pW x (o.drop row) row acc idx).2)
 | 0,row,acc,idx,e1,hacc=>by
  rw [List.drop_of_length_le (by omega)];have h1:¬ (row:Int) < o.length:=by omega
  unfold R7 pW;rw [ak yj.eq_1];simp (disch:=first|exact dis|fail) only [sy,simprocAttr,-List.reduceReplicate,hF.all,h1];exact ⟨_,rfl,rfl,rfl⟩
 | k+1,row,acc,idx,e1,hacc=>by
  have hi:row < o.length:=by omega
  rw [List.drop_eq_getElem_cons hi];have hoi:=ho _ (List.getElem_mem hi);have hv:∀ r∈refs (.slice a n e),r < hp.length:=hR.refs;have h1:(row:Int) < o.length:=by omega
  have h2:0<=(row:Int)/\(row:Int) < o.length:=by omega
  have hc:(is o)[row]?=some (.int .i64 (o[row]:Nat)):=by simp [is,hi]
  have hF2:=hF.1;unfold pW;by_cases h0:o[row]=0
  ·obtain ⟨fr,ih⟩:=C4 hR hxs hos ho hF k (row+1) acc row (by omega) (by omega);rw [if_pos h0];refine ⟨fr,?_⟩;refine ⟨Eq.trans ?_ ih.1,ih.2⟩;rw [h0] at hc;unfold R7;rw [ak yj.eq_1];simp only [Int.natCast_add,Int.natCast_one,Int.natCast_zero] at hc ⊢;by_cases ha0:acc=[]
   ·subst ha0;simp (disch:=first|exact dis|fail) only [sy,simprocAttr,-List.reduceReplicate,hF.all,C2,yA,h1,h2,hc]
   ·have hao:¬ acc.length=0:=by cases acc<;>simp at ha0 ⊢
    rw [F6 rfl hao,yz rfl hao];have hg:=fun c0 i1 i2=>C3 (hp:=hp) (L:=L) (H:=H) (k:=0) (n:=acc.length) (cs:=u8s acc) (c0:=c0) (nw:=[.cells acc.length true (u8s acc)]) (i1:=i1) (i2:=i2) (i3:=(o.length:Int)) (m:=o.length) rfl hv;simp only [Nat.add_zero] at hg;simp (disch:=first|exact dis|fail) only [sy,simprocAttr,-List.reduceReplicate,hF.all,h1,h2,hc,hg]
  ·obtain ⟨fr,ih⟩:=C4 hR hxs hos ho hF k (row+1) (acc++[x.getD (o[row] - 1) 0]) idx (by omega) (by simp;omega);rw [if_neg h0];refine ⟨fr,?_⟩;refine ⟨Eq.trans ?_ ih.1,ih.2⟩;obtain ⟨b,of,g,pl,cs,rfl,rfl,hh,hb,hcx⟩:=hR.at_ (show o[row] - 1 < x.length by omega);have hbl:=(List.getElem?_eq_some_iff.1 hb).1;have hgd:x[o[row] - 1]'(by omega)=x.getD (o[row] - 1) 0:=by rw [List.getD_eq_getElem?_getD,List.getElem?_eq_getElem (by omega)];rfl
   rw [hgd] at hcx;clear hgd;generalize hcc:x.getD (o[row] - 1) 0=cc at *;generalize hii:o[row]=i at *;have h3:¬ (i:Int)=0:=by omega
   have h4:(i:Int) - 1=((i - 1:Nat):Int):=by omega
   have h5:0<=((i - 1:Nat):Int)/\((i - 1:Nat):Int) < x.length:=by omega
   have hs1:small 1=true:=by decide
   unfold R7;rw [ak yj.eq_1];simp only [Int.natCast_add,Int.natCast_one];by_cases ha0:acc=[]
   ·subst ha0;have hN:([]++[cc]:List Nat).length=1:=rfl;rw [F6 hN (by decide),yz hN (by decide)];have ha:=fun nw=>NV (hp:=hp++nw) (L:=L) (H:=H) (d:=[]) (x:=cc);simp only [List.length_append] at ha;have hg:=fun c0 c1 i1 i2=>C3 (hp:=hp) (L:=L) (H:=H) (k:=1) (n:=1) (cs:=u8s [cc]) (c0:=c0) (nw:=[c1,.cells 1 true (u8s [cc])]) (i1:=i1) (i2:=i2) (i3:=(o.length:Int)) (m:=o.length) rfl hv;simp only [Nat.add_assoc,Nat.reduceAdd] at hg;simp (disch:=first|exact dis|fail) only [sy,simprocAttr,-List.reduceReplicate,hF.all,C2,yA,h1,h2,h3,h4,h5,hs1,hc,hb,hh,hcx,ha,hg]
   ·have hao:¬ acc.length=0:=by cases acc<;>simp at ha0 ⊢
    have hN:(acc++[cc]:List Nat).length=acc.length+1:=by simp
    rw [F6 rfl hao,yz rfl hao,F6 hN (by omega),yz hN (by omega)];have ha:=fun c0 nw=>R6 (hp:=hp++c0::.cells acc.length true (u8s acc)::nw) (L:=L) (H:=H) (d:=[]) (b:=hp.length+1) (x:=cc) rfl (by rw [gj];rfl) (by omega) (hF.nL 1) (by omega);have hg:=fun c0 c1 i1 i2=>C3 (hp:=hp) (L:=L) (H:=H) (k:=0) (n:=acc.length+1) (cs:=u8s (acc++[cc])) (c0:=c0) (nw:=[.cells (acc.length+1) true (u8s (acc++[cc])),c1]) (i1:=i1) (i2:=i2) (i3:=(o.length:Int)) (m:=o.length) rfl hv;simp only [Nat.add_zero] at hg;simp (disch:=first|exact dis|fail) only [sy,simprocAttr,-List.reduceReplicate,hF.all,h1,h2,h3,h4,h5,hs1,hc,hb,hh,hcx,ha,hg]
end
end TtB
namespace TtC
open Go Go.RowKit AM aE LtA SyP TmM TsA TsB TsE TsI TsJ TtA TtB Bt
def zZ(a b:Int):Int:=if a < b then -1 else if b < a then 1 else 0
def eX(p q:Int×Int):Int:=if zZ p.1 q.1≠0 then zZ p.1 q.1 else zZ p.2 q.2
section
variable{hp:List Blk}{L:Nat}{H d:List Nat}
theorem R8(a:Int)(hF:Fit hp.length L H):aN env (.func 182) [.int .i64 a] ⟨hp,L,H,d⟩=some (.bool false,⟨hp,L,H,d⟩):=by rw [av 182 _ _ aax];simp (disch:=first|exact dis|fail) only [sy,simprocAttr,-List.reduceReplicate,hF.all,RD]
theorem R9(a b:Int)(hF:Fit hp.length L H):aN env (.func 132) [.int .i64 a,.int .i64 b] ⟨hp,L,H,d⟩=some (.int .i64 (zZ a b),⟨hp,L,H,d⟩):=by
 rw [av 132 _ _ aal];have hn:=fun a d=>R8 (hp:=hp) (L:=L) (H:=H) (d:=d) a hF;unfold zZ;by_cases h1:a < b
 ·rw [if_pos h1];simp (disch:=first|exact dis|fail) only [sy,simprocAttr,-List.reduceReplicate,hF.all,FN,hn,h1]
 ·rw [if_neg h1];by_cases h2:b < a
  ·rw [if_pos h2];have h2':a > b:=h2;simp (disch:=first|exact dis|fail) only [sy,simprocAttr,-List.reduceReplicate,hF.all,FN,hn,h1,h2']
  ·rw [if_neg h2];have h2':¬ a > b:=h2;simp (disch:=first|exact dis|fail) only [sy,simprocAttr,-List.reduceReplicate,hF.all,FN,hn,h1,h2']
theorem U5{a b:Int}{k e:Nat}(hb:hp[k]?=some (.cells 0 true [.int .i64 a,.int .i64 b]))(hh:H.contains k=false)(hF:Fit hp.length L H) :
  aN env (.func 224) [.slice (some ⟨k,0,some 0⟩) 2 e] ⟨hp,L,H,d⟩=some (.int .i64 (if a≠0 then a else b),⟨hp,L,H,d⟩):=by
 rw [av 224 _ _ aaE];by_cases h1:a=0
 ·subst h1;rw [if_neg (by simp)];by_cases h2:b=0
  ·subst h2;simp (disch:=first|exact dis|fail) only [sy,simprocAttr,-List.reduceReplicate,hF.all,FP];rw [ak mL.eq_1];simp (disch:=first|exact dis|fail) only [sy,simprocAttr,-List.reduceReplicate,hF.all,hb,hh];rw [ak mL.eq_1];simp (disch:=first|exact dis|fail) only [sy,simprocAttr,-List.reduceReplicate,hF.all,hb,hh];rw [ak mL.eq_1];simp (disch:=first|exact dis|fail) only [sy,simprocAttr,-List.reduceReplicate,hF.all,hb,hh]
  ·simp (disch:=first|exact dis|fail) only [sy,simprocAttr,-List.reduceReplicate,hF.all,FP];rw [ak mL.eq_1];simp (disch:=first|exact dis|fail) only [sy,simprocAttr,-List.reduceReplicate,hF.all,hb,hh];rw [ak mL.eq_1];simp (disch:=first|exact dis|fail) only [sy,simprocAttr,-List.reduceReplicate,hF.all,hb,hh,h2]
 ·rw [if_pos h1];simp (disch:=first|exact dis|fail) only [sy,simprocAttr,-List.reduceReplicate,hF.all,FP];rw [ak mL.eq_1];simp (disch:=first|exact dis|fail) only [sy,simprocAttr,-List.reduceReplicate,hF.all,hb,hh,h1]
theorem dc(p q:Int×Int)(hF:Fit hp.length L H):aN env (.func 223) [.agg #[.int .i64 p.1,.int .i64 p.2],.agg #[.int .i64 q.1,.int .i64 q.2]] ⟨hp,L,H,d⟩=some (.int .i64 (eX p q),⟨hp,L,H,d⟩):=by
 rw [av 223 _ _ aaD];have hc:=fun a b hp L H d hF=>R9 (hp:=hp) (L:=L) (H:=H) (d:=d) a b hF;have ho:=fun a b c0 c1 L' d hF'=>U5 (hp:=hp++[c0,c1,.cells 0 true [.int .i64 a,.int .i64 b]]) (L:=L') (H:=H) (d:=d) (k:=hp.length+2) (e:=1) (a:=a) (b:=b) (by rw [gj];rfl) (hF.nL 2) hF';have hs:small 2=true:=by decide
 unfold eX;simp (disch:=first|exact dis|fail) only [sy,simprocAttr,-List.reduceReplicate,hF.all,KY,hc,ho,hs]
end
end TtC
namespace TtD
open Go Go.RowKit AM aE LtA SyP TmM TsA TsB TsE TsI TsJ TtA TtB TtC Bt
abbrev Pr:=Int×Int
def ltP(p q:Pr):Bool:=decide (eX p q < 0)
def prL:List Pr->List Value
 | []=>[]
 | p::l=>.int .i64 p.1::.int .i64 p.2::prL l
def prs(d:Array Pr):List Value:=prL d.toList
theorem mS:∀ (l:List Pr),(prL l).length=2*l.length
 | []=>rfl
 | p::l=>by rw [prL];simp only [List.length_cons,mS l];omega
theorem dL(d:Array Pr):(prs d).length=2*d.size:=by rw [prs,mS,Array.length_toList]
theorem Sa:∀ (l:List Pr) (i:Nat) (h:i < l.length),((prL l).drop (2*i)).take 2=[.int .i64 l[i].1,.int .i64 l[i].2]
 | p::l,0,h=>rfl
 | p::l,i+1,h=>by rw [prL,show 2*(i+1)=2*i+1+1 by omega,List.drop_succ_cons,List.drop_succ_cons];exact Sa l i (by simpa using h)
theorem cm(d:Array Pr){i:Nat}(h:i < d.size):((prs d).drop (2*i)).take 2=[.int .i64 d[i]!.1,.int .i64 d[i]!.2]:=by rw [prs,Sa _ i (by simpa using h)];simp [h]
theorem Lh:∀ (l:List Pr) (i:Nat) (p:Pr),i < l.length->putAt (prL l) (2*i) [.int .i64 p.1,.int .i64 p.2]=prL (l.set i p)
 | q::l,0,p,_=>rfl
 | q::l,i+1,p,h=>by
  have ih:=Lh l i p (by simpa using h);apply List.ext_getElem?;intro j;rw [gz _ _ _ _ (by rw [mS];simp only [List.length_cons,List.length_nil] at *;omega)];rw [List.set_cons_succ,prL,prL,<- ih];rcases j with _ | _ | j
  ·rw [if_neg (by omega)];rfl
  ·rw [if_neg (by omega)];rfl
  ·simp only [List.getElem?_cons_succ];rw [gz _ _ _ _ (by rw [mS];simp only [List.length_cons,List.length_nil] at *;omega)];by_cases hj:2*i<=j/\j < 2*i+[Value.int .i64 p.1,Value.int .i64 p.2].length
   ·rw [if_pos hj,if_pos (by omega)];congr 1;omega
   ·rw [if_neg hj,if_neg (by omega)]
theorem Li(d:Array Pr){i:Nat}(p:Pr)(h:i < d.size):putAt (prs d) (2*i) [.int .i64 p.1,.int .i64 p.2]=prs (d.setIfInBounds i p):=by rw [prs,prs,Lh _ _ _ (by simpa using h)];simp
theorem Sb:∀ (l:List Pr),(prL l).all AM.sc=true
 | []=>rfl
 | p::l=>by rw [prL];simp only [List.all_cons,AM.sc,Sb l];rfl
theorem o7(d:Array Pr){i j:Nat}(hi:i < d.size)(hj:j < d.size):putAt (putAt (prs d) (2*i) [.int .i64 d[j]!.1,.int .i64 d[j]!.2]) (2*j) [.int .i64 d[i]!.1,.int .i64 d[i]!.2]=prs (Go.Sort.swp d i j):=by rw [Li d _ hi,Li _ _ (by simpa using hj)];rfl
end TtD
namespace TtE
open Go Go.RowKit AM aE LtA SyP TmM TsA TsB TsE TsI TsJ TtA TtB TtC TtD Bt
def aB:Value:=.func (.func 223) #[] #[]
section
variable{hp:List Blk}{L:Nat}{H d:List Nat}
theorem swp_size(d:Array Pr)(i j:Nat):(Go.Sort.swp d i j).size=d.size:=by simp [Go.Sort.swp]
theorem AX{b g e a i n:Nat}(hb:b < hp.length)(hL:L<=b)(hh:H.contains b=false)(he:e=0\/e=2)(hn:n<=100000)(be:Nat)(hF:Fit hp.length L H):∀ (j:Nat) (W:Array Pr),W.size=n->j < n->∃ fr,
  aG env vX [9,2,1,3,8,0] hp.length [(9,.int .i64 j),(2,.int .i64 be),(1,.int .i64 a),(3,aB),(8,.int .i64 i),(0,.slice (some ⟨b,0,some g⟩) n e)] ⟨hp.set b (.cells g true (prs W)),L,H,[]⟩
   = some (.exit 2,fr,⟨hp.set b (.cells g true (prs (Go.Sort.insInner ltP a j W))),L,H,[]⟩)
   /\ fr.get 2=some (.int .i64 be)/\fr.get 1=some (.int .i64 a)/\fr.get 3=some aB/\fr.get 8=some (.int .i64 i)/\fr.get 0=some (.slice (some ⟨b,0,some g⟩) n e)
 | 0,W,hD,hj=>by
  have h1:¬ (0:Int) > (a:Int):=by omega
  unfold Go.Sort.insInner;rw [ak vX.eq_1];simp only [Int.natCast_zero];simp (disch:=first|exact dis|fail) only [sy,simprocAttr,-List.reduceReplicate,hF.all,h1];exact ⟨_,rfl,rfl,rfl,rfl,rfl,rfl⟩
 | j+1,W,hD,hj=>by
  unfold Go.Sort.insInner;rw [ak vX.eq_1];have hl:=fun p q hp L H d hF=>dc (hp:=hp) (L:=L) (H:=H) (d:=d) p q hF;have hlen:(prs W).length=2*n:=by rw [dL,hD]
  have r1:=cm W (i:=j+1) (by omega);have r0:=cm W (i:=j) (by omega);have h2:0<=((j+1:Nat):Int)/\((j+1:Nat):Int) < (n:Int):=by omega
  have h3:0<=(j:Int)/\(j:Int) < (n:Int):=by omega
  have e1:((j+1:Nat):Int) - 1=(j:Int):=by omega
  have hg1:∀ B:Blk,(hp.set b B)[b]?=some B:=fun B=>List.getElem?_set_self hb;have hss:∀ A B:Blk,(hp.set b A).set b B=hp.set b B:=fun A B=>List.set_set ..;have s1:(j+1)*2+2<=2*n:=by omega
  have s0:j*2+2<=2*n:=by omega
  rw [Nat.mul_comm] at r1 r0;have hnl:¬ b < L:=by omega
  by_cases ha:j+1 > a
  ·have h1:((j+1:Nat):Int) > (a:Int):=by omega
   by_cases hlt:ltP W[j+1]! W[j]! = true
   ·have hc:eX W[j+1]! W[j]! < 0:=of_decide_eq_true hlt;have hsw:=o7 W (i:=j+1) (j:=j) (by omega) (by omega);rw [Nat.mul_comm 2 (j+1),Nat.mul_comm 2 j] at hsw;simp only [putAt] at hsw;obtain ⟨fr,ih,ih2⟩:=AX (b:=b) (g:=g) (e:=e) (a:=a) (i:=i) hb hL hh he hn be hF j (Go.Sort.swp W (j+1) j) (by rw [swp_size,hD]) (by omega);have pT:(decide (j+1 > a)&&ltP W[j+1]! W[j]!)=true:=by rw [hlt];simpa using ha
    rw [if_pos pT];refine ⟨fr,?_,ih2⟩;simp (disch:=first|exact dis|fail) only [sy,simprocAttr,-List.reduceReplicate,hF.all,aB,h1,h2,h3,e1,hg1,hss,hh,hlen,r1,r0,s1,s0,hnl,hl,hc,hsw];simp only [aB] at ih;exact ih
   ·have hc:¬ eX W[j+1]! W[j]! < 0:=fun h=>hlt (decide_eq_true h);have pT:¬ (decide (j+1 > a)&&ltP W[j+1]! W[j]!)=true:=by intro h;rw [Bool.and_eq_true] at h;exact hlt h.2
    rw [if_neg pT];simp (disch:=first|exact dis|fail) only [sy,simprocAttr,-List.reduceReplicate,hF.all,aB,h1,h2,h3,e1,hg1,hss,hh,hlen,r1,r0,s1,s0,hl,hc];exact ⟨_,rfl,rfl,rfl,rfl,rfl,rfl⟩
  ·have h1:¬ ((j+1:Nat):Int) > (a:Int):=by omega
   have pT:¬ (decide (j+1 > a)&&ltP W[j+1]! W[j]!)=true:=by intro h;rw [Bool.and_eq_true] at h;exact ha (of_decide_eq_true h.1)
   rw [if_neg pT];simp (disch:=first|exact dis|fail) only [sy,simprocAttr,-List.reduceReplicate,hF.all,aB,h1,h2,h3,e1,hg1,hss,hh,hlen];exact ⟨_,rfl,rfl,rfl,rfl,rfl,rfl⟩
theorem pX(a:Nat):∀ (j:Nat) (W:Array Pr),(Go.Sort.insInner ltP a j W).size=W.size
 | 0,W=>rfl
 | j+1,W=>by
  unfold Go.Sort.insInner;split
  ·rw [pX a j,swp_size]
  ·rfl
theorem AY{b g e a n be:Nat}(hb:b < hp.length)(hL:L<=b)(hh:H.contains b=false)(he:e=0\/e=2)(hn:n<=100000)(hbe:be<=n)(hF:Fit hp.length L H):∀ (k i:Nat) (W:Array Pr),W.size=n->be - i=k->i<=200000->∃ fr,
  aG env vY [3,1,2,8,0] hp.length [(3,aB),(1,.int .i64 a),(2,.int .i64 be),(8,.int .i64 i),(0,.slice (some ⟨b,0,some g⟩) n e)] ⟨hp.set b (.cells g true (prs W)),L,H,[]⟩
   = some (.exit 0,fr,⟨hp.set b (.cells g true (prs (Go.Sort.insOuter ltP a be i W))),L,H,[]⟩)
 | 0,i,W,hD,hk,hi=>by
  have h1:¬ (i:Int) < (be:Int):=by omega
  unfold Go.Sort.insOuter;rw [if_neg (by omega)];rw [ak vY.eq_1];simp (disch:=first|exact dis|fail) only [sy,simprocAttr,-List.reduceReplicate,hF.all,h1];exact ⟨_,rfl⟩
 | k+1,i,W,hD,hk,hi=>by
  have h1:(i:Int) < (be:Int):=by omega
  obtain ⟨fr1,e1,e2,e3,e4,e5,e6⟩:=AX (g:=g) (e:=e) (a:=a) (i:=i) hb hL hh he hn be hF i W hD (by omega);obtain ⟨fr,ih⟩:=AY (g:=g) (e:=e) (a:=a) hb hL hh he hn hbe hF k (i+1) (Go.Sort.insInner ltP a i W) (by rw [pX,hD]) (by omega) (by omega);unfold Go.Sort.insOuter;rw [if_pos (by omega)];rw [ak vY.eq_1];simp only [aB,Int.natCast_add,Int.natCast_one] at e1 e4 ih ⊢;simp (disch:=first|exact dis|fail) only [sy,simprocAttr,-List.reduceReplicate,hF.all,h1,e1,e2,e3,e4,e5,e6,ih];exact ⟨_,rfl⟩
theorem F7{b g e a n be:Nat}{W:Array Pr}(hb:hp[b]?=some (.cells g true (prs W)))(hD:W.size=n)(hL:L<=b)(hh:H.contains b=false)(he:e=0\/e=2)(hn:n<=100000)(hbe:be<=n)(ha:a<=100000)(hF:Fit hp.length L H) :
  aN env (.func 269) [.slice (some ⟨b,0,some g⟩) n e,.int .i64 a,.int .i64 be,aB] ⟨hp,L,H,d⟩=some (.tuple #[],⟨hp.set b (.cells g true (prs (Go.Sort.insertionSort ltP W a be))),L,H,d⟩):=by rw [av 269 _ _ aaT];have hbl:=(List.getElem?_eq_some_iff.1 hb).1;obtain ⟨fr,h⟩:=AY (hp:=hp) (L:=L) (H:=H) (g:=g) (e:=e) (a:=a) hbl hL hh he hn hbe hF (be - (a+1)) (a+1) W hD rfl (by omega);rw [dY hb] at h;simp only [aB,Int.natCast_add,Int.natCast_one] at h ⊢;unfold Go.Sort.insertionSort;simp (disch:=first|exact dis|fail) only [sy,simprocAttr,-List.reduceReplicate,hF.all,RM,h]
end
end TtE
namespace TtF
open Go Go.RowKit AM aE LtA SyP TmM TsA TsB TsE TsI TsJ TtA TtB TtC TtD TtE Bt
section
variable{hp:List Blk}{L:Nat}{H d:List Nat}
theorem oq{b g e n x y q s:Nat}{W:Array Pr}(hb:hp[b]?=some (.cells g true (prs W)))(hD:W.size=n)(hh:H.contains b=false)(he:e=0\/e=2)(hn:n<=100000)(hx:x < n)(hy:y < n)
  (hq:hp[q]?=some (.cells 0 true [.int .i64 s])) (hqL:L<=q) (hqh:H.contains q=false) (hs:s<=100000) (hF:Fit hp.length L H) :
  aN env (.func 291) [.slice (some ⟨b,0,some g⟩) n e,.int .i64 x,.int .i64 y,.pointer (some ⟨q,0,some 0⟩),aB] ⟨hp,L,H,d⟩=some (.tuple #[.int .i64 (Go.Sort.order2 ltP W x y s).1,.int .i64 (Go.Sort.order2 ltP W x y s).2.1],⟨hp.set q (.cells 0 true [.int .i64 (Go.Sort.order2 ltP W x y s).2.2]),L,H,d⟩):=by
 rw [av 291 _ _ aba];have hbl:=(List.getElem?_eq_some_iff.1 hb).1;have hql:=(List.getElem?_eq_some_iff.1 hq).1;have hl:=fun p q hp L H d hF=>dc (hp:=hp) (L:=L) (H:=H) (d:=d) p q hF;have hlen:(prs W).length=2*n:=by rw [dL,hD]
 have r1:=cm W (i:=x) (by omega);have r0:=cm W (i:=y) (by omega);rw [Nat.mul_comm] at r1 r0;have h2:0<=(x:Int)/\(x:Int) < (n:Int):=by omega
 have h3:0<=(y:Int)/\(y:Int) < (n:Int):=by omega
 have s1:x*2+2<=2*n:=by omega
 have s0:y*2+2<=2*n:=by omega
 have hnl:¬ q < L:=by omega
 unfold Go.Sort.order2;by_cases hlt:ltP W[y]! W[x]! = true
 ·have hc:eX W[y]! W[x]! < 0:=of_decide_eq_true hlt;simp only [if_pos hlt,Int.natCast_add,Int.natCast_one];simp (disch:=first|exact dis|fail) only [sy,simprocAttr,-List.reduceReplicate,hF.all,Ld,aB,hb,hh,hq,hqh,h2,h3,hlen,r1,r0,s1,s0,hnl,hl,hc]
 ·have hc:¬ eX W[y]! W[x]! < 0:=fun h=>hlt (decide_eq_true h);simp only [if_neg hlt];rw [dY hq];simp (disch:=first|exact dis|fail) only [sy,simprocAttr,-List.reduceReplicate,hF.all,Ld,aB,hb,hh,hq,hqh,h2,h3,hlen,r1,r0,s1,s0,hnl,hl,hc]
theorem AZ{b g e n:Nat}(hb:b < hp.length)(hL:L<=b)(hh:H.contains b=false)(he:e=0\/e=2)(hn:n<=100000)(hF:Fit hp.length L H):∀ (k i j:Nat) (W:Array Pr),W.size=n->j - i<=k->j < n->i<=200000->∃ fr,
  aG env v9 [8,9,0] hp.length [(8,.int .i64 i),(9,.int .i64 j),(0,.slice (some ⟨b,0,some g⟩) n e)] ⟨hp.set b (.cells g true (prs W)),L,H,[]⟩
   = some (.exit 0,fr,⟨hp.set b (.cells g true (prs (Go.Sort.reverseLoop i j W))),L,H,[]⟩)
 | k,i,j,W,hD,hk,hj,hi=>by
  by_cases hij:i < j
  ·cases k with
   | zero=>omega
   | succ k=>
    obtain ⟨fr,ih⟩:=AZ (g:=g) (e:=e) hb hL hh he hn hF k (i+1) (j - 1) (Go.Sort.swp W i j) (by rw [swp_size,hD]) (by omega) (by omega) (by omega);have hlen:(prs W).length=2*n:=by rw [dL,hD]
    have r1:=cm W (i:=i) (by omega);have r0:=cm W (i:=j) (by omega);rw [Nat.mul_comm] at r1 r0;have h1:(i:Int) < (j:Int):=by omega
    have h2:0<=(i:Int)/\(i:Int) < (n:Int):=by omega
    have h3:0<=(j:Int)/\(j:Int) < (n:Int):=by omega
    have s1:i*2+2<=2*n:=by omega
    have s0:j*2+2<=2*n:=by omega
    have hnl:¬ b < L:=by omega
    have hg1:∀ B:Blk,(hp.set b B)[b]?=some B:=fun B=>List.getElem?_set_self hb;have hss:∀ A B:Blk,(hp.set b A).set b B=hp.set b B:=fun A B=>List.set_set ..;have hsw:=o7 W (i:=i) (j:=j) (by omega) (by omega);rw [Nat.mul_comm 2 i,Nat.mul_comm 2 j] at hsw;simp only [putAt] at hsw;have e1:(j:Int) - 1=((j - 1:Nat):Int):=by omega
    rw [Go.Sort.reverseLoop,if_pos hij];rw [ak v9.eq_1];simp only [Int.natCast_add,Int.natCast_one] at ih;simp (disch:=first|exact dis|fail) only [sy,simprocAttr,-List.reduceReplicate,hF.all,h1,h2,h3,hg1,hss,hh,hlen,r1,r0,s1,s0,hnl,hsw,e1,ih];exact ⟨_,rfl⟩
  ·have h1:¬ (i:Int) < (j:Int):=by omega
   rw [Go.Sort.reverseLoop,if_neg hij];rw [ak v9.eq_1];simp (disch:=first|exact dis|fail) only [sy,simprocAttr,-List.reduceReplicate,hF.all,h1];exact ⟨_,rfl⟩
theorem z6{b g e a n be:Nat}{W:Array Pr}(hb:hp[b]?=some (.cells g true (prs W)))(hD:W.size=n)(hL:L<=b)(hh:H.contains b=false)(he:e=0\/e=2)(hn:n<=100000)(hbe:be<=n)(adf:1<=be)(ha:a<=100000)(hF:Fit hp.length L H) :
  aN env (.func 273) [.slice (some ⟨b,0,some g⟩) n e,.int .i64 a,.int .i64 be,aB] ⟨hp,L,H,d⟩=some (.tuple #[],⟨hp.set b (.cells g true (prs (Go.Sort.reverseRange W a be))),L,H,d⟩):=by
 rw [av 273 _ _ aaX];have hbl:=(List.getElem?_eq_some_iff.1 hb).1;obtain ⟨fr,h⟩:=AZ (hp:=hp) (L:=L) (H:=H) (g:=g) (e:=e) hbl hL hh he hn hF n a (be - 1) W hD (by omega) (by omega) (by omega);rw [dY hb] at h;have e1:(be:Int) - 1=((be - 1:Nat):Int):=by omega
 unfold Go.Sort.reverseRange;simp (disch:=first|exact dis|fail) only [sy,simprocAttr,-List.reduceReplicate,hF.all,RO,aB,e1,h]
theorem ot{W:Array Pr}{x y s:Nat} : (Go.Sort.order2 ltP W x y s).2.2<=s+1:=by unfold Go.Sort.order2;split<;>simp
theorem A6{W:Array Pr}{x y s n:Nat}(hx:x < n)(hy:y < n):(Go.Sort.order2 ltP W x y s).1 < n/\(Go.Sort.order2 ltP W x y s).2.1 < n:=by unfold Go.Sort.order2;split<;>exact ⟨by assumption,by assumption⟩
theorem uS{b g e n x y z q s:Nat}{W:Array Pr}(hb:hp[b]?=some (.cells g true (prs W)))(hD:W.size=n)(hh:H.contains b=false)(he:e=0\/e=2)(hn:n<=100000)(hx:x < n)(hy:y < n)(hz:z < n)
  (hq:hp[q]?=some (.cells 0 true [.int .i64 s])) (hqL:L<=q) (hqh:H.contains q=false) (hbq:b≠q) (hs:s<=90000) (hF:Fit hp.length L H) :
  aN env (.func 290) [.slice (some ⟨b,0,some g⟩) n e,.int .i64 x,.int .i64 y,.int .i64 z,.pointer (some ⟨q,0,some 0⟩),aB] ⟨hp,L,H,d⟩=some (.int .i64 (Go.Sort.median ltP W x y z s).1,⟨hp.set q (.cells 0 true [.int .i64 (Go.Sort.median ltP W x y z s).2]),L,H,d⟩):=by
 rw [av 290 _ _ aa9];have hql:=(List.getElem?_eq_some_iff.1 hq).1;unfold Go.Sort.median;simp only;have k1:=fun d=>oq (d:=d) hb hD hh he hn hx hy hq hqL hqh (by omega) hF;have t1:=ot (W:=W) (x:=x) (y:=y) (s:=s);have l1:=A6 (W:=W) (s:=s) hx hy;generalize Go.Sort.order2 ltP W x y s=A at *;obtain ⟨a1,a2,a3⟩:=A;simp only at t1 l1 k1 ⊢;have hb1:(hp.set q (.cells 0 true [.int .i64 a3]))[b]?=some (.cells g true (prs W)):=by rw [List.getElem?_set_ne (Ne.symm hbq)];exact hb
 have k2:=fun d=>oq (hp:=hp.set q (.cells 0 true [.int .i64 a3])) (d:=d) hb1 hD hh he hn l1.2 hz (List.getElem?_set_self hql) hqL hqh (by omega) (by rw [List.length_set];exact hF);have t2:=ot (W:=W) (x:=a2) (y:=z) (s:=a3);have l2:=A6 (W:=W) (s:=a3) l1.2 hz;generalize Go.Sort.order2 ltP W a2 z a3=B at *;obtain ⟨b1,b2,b3⟩:=B;simp only [List.set_set] at t2 l2 k2 ⊢;have hb2:(hp.set q (.cells 0 true [.int .i64 b3]))[b]?=some (.cells g true (prs W)):=by rw [List.getElem?_set_ne (Ne.symm hbq)];exact hb
 have k3:=fun d=>oq (hp:=hp.set q (.cells 0 true [.int .i64 b3])) (d:=d) hb2 hD hh he hn l1.1 l2.1 (List.getElem?_set_self hql) hqL hqh (by omega) (by rw [List.length_set];exact hF);generalize Go.Sort.order2 ltP W a1 b1 b3=C at *;obtain ⟨c1,c2,c3⟩:=C;simp only [List.set_set] at k3 ⊢;simp only [aB] at k1 k2 k3 ⊢;simp (disch:=first|exact dis|fail) only [sy,simprocAttr,-List.reduceReplicate,hF.all,RU,k1,k2,k3]
end
end TtF
namespace TtG
open Go Go.RowKit AM aE LtA SyP TmM TsA TsB TsE TsI TsJ TtA TtB TtC TtD TtE TtF Bt
section
variable{hp:List Blk}{L:Nat}{H d:List Nat}
theorem o8{b g e n hi first:Nat}(hb:b < hp.length)(hL:L<=b)(hh:H.contains b=false)(he:e=0\/e=2)(hn:n<=100000)(hfh:first+hi<=n)(hF:Fit hp.length L H):∀ (k root:Nat) (W:Array Pr),W.size=n->hi - root<=k->root<=200000->∃ fr ex,(ex=Ex.exit 0\/ex=Ex.ret) /\
  aG env CZ [10,0,3,4,2] hp.length [(10,.int .i64 root),(0,.slice (some ⟨b,0,some g⟩) n e),(3,.int .i64 first),(4,aB),(2,.int .i64 hi)] ⟨hp.set b (.cells g true (prs W)),L,H,[]⟩
   = some (ex,fr,⟨hp.set b (.cells g true (prs (Go.Sort.siftDown ltP hi first root W))),L,H,[]⟩)
 | k,root,W,hD,hk,hr=>by
  have hl:=fun p q hp L H d hF=>dc (hp:=hp) (L:=L) (H:=H) (d:=d) p q hF;have hlen:(prs W).length=2*n:=by rw [dL,hD]
  have hg1:∀ B:Blk,(hp.set b B)[b]?=some B:=fun B=>List.getElem?_set_self hb;have hss:∀ A B:Blk,(hp.set b A).set b B=hp.set b B:=fun A B=>List.set_set ..;have hnl:¬ b < L:=by omega
  have e1:(2:Int)*(root:Int)+1=((2*root+1:Nat):Int):=by omega
  have e2:((2*root+1:Nat):Int)+1=((2*root+2:Nat):Int):=by omega
  rw [Go.Sort.siftDown];rw [ak CZ.eq_1];by_cases h1:2*root+1>=hi
  ·rw [dif_pos h1];have g1:((2*root+1:Nat):Int)>=(hi:Int):=by omega
   simp (disch:=first|exact dis|fail) only [sy,simprocAttr,-List.reduceReplicate,hF.all,aB,e1,g1];exact ⟨_,_,.inl rfl,rfl⟩
  ·rw [dif_neg h1];cases k with
   | zero=>omega
   | succ k=>
    have g1:¬ ((2*root+1:Nat):Int)>=(hi:Int):=by omega
    have q1:=cm W (i:=first+root) (by omega);have q2:=cm W (i:=first+(2*root+1)) (by omega);rw [Nat.mul_comm] at q1 q2;have f1:(first:Int)+(root:Int)=((first+root:Nat):Int):=by omega
    have f2:(first:Int)+((2*root+1:Nat):Int)=((first+(2*root+1):Nat):Int):=by omega
    have f3:(first:Int)+((2*root+2:Nat):Int)=((first+(2*root+2):Nat):Int):=by omega
    have f4:((first+(2*root+1):Nat):Int)+1=((first+(2*root+2):Nat):Int):=by omega
    have b1:0<=((first+root:Nat):Int)/\((first+root:Nat):Int) < (n:Int):=by omega
    have b2:0<=((first+(2*root+1):Nat):Int)/\((first+(2*root+1):Nat):Int) < (n:Int):=by omega
    have s1:(first+root)*2+2<=2*n:=by omega
    have s2:(first+(2*root+1))*2+2<=2*n:=by omega
    have sw1:=o7 W (i:=first+root) (j:=first+(2*root+1)) (by omega) (by omega);rw [Nat.mul_comm 2 (first+root),Nat.mul_comm 2 (first+(2*root+1))] at sw1;simp only [putAt] at sw1;by_cases h2:2*root+1+1 < hi
    ·have g2:((2*root+2:Nat):Int) < (hi:Int):=by omega
     have q3:=cm W (i:=first+(2*root+2)) (by omega);rw [Nat.mul_comm] at q3;have b3:0<=((first+(2*root+2):Nat):Int)/\((first+(2*root+2):Nat):Int) < (n:Int):=by omega
     have s3:(first+(2*root+2))*2+2<=2*n:=by omega
     have ee:first+(2*root+1)+1=first+(2*root+2):=by omega
     rw [ee];by_cases h3:ltP W[first+(2*root+1)]! W[first+(2*root+2)]! = true
     ·have c3:eX W[first+(2*root+1)]! W[first+(2*root+2)]! < 0:=of_decide_eq_true h3;rw [if_pos (by rw [h3];simpa using h2)];by_cases h4:ltP W[first+root]! W[first+(2*root+2)]! = true
      ·have c4:eX W[first+root]! W[first+(2*root+2)]! < 0:=of_decide_eq_true h4;rw [if_neg (by rw [h4];simp),dif_pos (by omega)];have sw2:=o7 W (i:=first+root) (j:=first+(2*root+2)) (by omega) (by omega);rw [Nat.mul_comm 2 (first+root),Nat.mul_comm 2 (first+(2*root+2))] at sw2;simp only [putAt] at sw2;obtain ⟨fr,ex,hx,ih⟩:=o8 (g:=g) (e:=e) hb hL hh he hn hfh hF k (2*root+2) (Go.Sort.swp W (first+root) (first+(2*root+2))) (by rw [swp_size,hD]) (by omega) (by omega);simp only [aB] at ih;refine ⟨fr,ex,hx,?_⟩;simp (disch:=first|exact dis|fail) only [sy,simprocAttr,-List.reduceReplicate,hF.all,aB,e1,e2,g1,g2,f1,f2,f3,f4,b1,b2,b3,s1,s2,s3,q1,q2,q3,hg1,hss,hh,hlen,hnl,hl,c3,c4,sw2,ih]
      ·have c4:¬ eX W[first+root]! W[first+(2*root+2)]! < 0:=fun h=>h4 (decide_eq_true h);rw [if_pos (by simpa using h4)];simp (disch:=first|exact dis|fail) only [sy,simprocAttr,-List.reduceReplicate,hF.all,aB,e1,e2,g1,g2,f1,f2,f3,f4,b1,b2,b3,s1,s2,s3,q1,q2,q3,hg1,hss,hh,hlen,hnl,hl,c3,c4];exact ⟨_,_,.inr rfl,rfl⟩
     ·have c3:¬ eX W[first+(2*root+1)]! W[first+(2*root+2)]! < 0:=fun h=>h3 (decide_eq_true h);rw [if_neg (by intro h;rw [Bool.and_eq_true] at h;exact h3 h.2)];by_cases h4:ltP W[first+root]! W[first+(2*root+1)]! = true
      ·have c4:eX W[first+root]! W[first+(2*root+1)]! < 0:=of_decide_eq_true h4;rw [if_neg (by rw [h4];simp)];obtain ⟨fr,ex,hx,ih⟩:=o8 (g:=g) (e:=e) hb hL hh he hn hfh hF k (2*root+1) (Go.Sort.swp W (first+root) (first+(2*root+1))) (by rw [swp_size,hD]) (by omega) (by omega);simp only [aB] at ih;refine ⟨fr,ex,hx,?_⟩;simp (disch:=first|exact dis|fail) only [sy,simprocAttr,-List.reduceReplicate,hF.all,aB,e1,e2,g1,g2,f1,f2,f3,f4,b1,b2,b3,s1,s2,s3,q1,q2,q3,hg1,hss,hh,hlen,hnl,hl,c3,c4,sw1,ih]
      ·have c4:¬ eX W[first+root]! W[first+(2*root+1)]! < 0:=fun h=>h4 (decide_eq_true h);rw [if_pos (by simpa using h4)];simp (disch:=first|exact dis|fail) only [sy,simprocAttr,-List.reduceReplicate,hF.all,aB,e1,e2,g1,g2,f1,f2,f3,f4,b1,b2,b3,s1,s2,s3,q1,q2,q3,hg1,hss,hh,hlen,hnl,hl,c3,c4];exact ⟨_,_,.inr rfl,rfl⟩
    ·have g2:¬ ((2*root+2:Nat):Int) < (hi:Int):=by omega
     rw [if_neg (by intro h;rw [Bool.and_eq_true] at h;exact h2 (of_decide_eq_true h.1))];by_cases h4:ltP W[first+root]! W[first+(2*root+1)]! = true
     ·have c4:eX W[first+root]! W[first+(2*root+1)]! < 0:=of_decide_eq_true h4;rw [if_neg (by rw [h4];simp)];obtain ⟨fr,ex,hx,ih⟩:=o8 (g:=g) (e:=e) hb hL hh he hn hfh hF k (2*root+1) (Go.Sort.swp W (first+root) (first+(2*root+1))) (by rw [swp_size,hD]) (by omega) (by omega);simp only [aB] at ih;refine ⟨fr,ex,hx,?_⟩;simp (disch:=first|exact dis|fail) only [sy,simprocAttr,-List.reduceReplicate,hF.all,aB,e1,e2,g1,g2,f1,f2,f3,f4,b1,b2,s1,s2,q1,q2,hg1,hss,hh,hlen,hnl,hl,c4,sw1,ih]
     ·have c4:¬ eX W[first+root]! W[first+(2*root+1)]! < 0:=fun h=>h4 (decide_eq_true h);rw [if_pos (by simpa using h4)];simp (disch:=first|exact dis|fail) only [sy,simprocAttr,-List.reduceReplicate,hF.all,aB,e1,e2,g1,g2,f1,f2,f3,f4,b1,b2,s1,s2,q1,q2,hg1,hss,hh,hlen,hnl,hl,c4];exact ⟨_,_,.inr rfl,rfl⟩
theorem A7{b g e n hi first root:Nat}{W:Array Pr}(hb:hp[b]?=some (.cells g true (prs W)))(hD:W.size=n)(hL:L<=b)(hh:H.contains b=false)(he:e=0\/e=2)(hn:n<=100000)(hfh:first+hi<=n)(hr:root<=100000)(hF:Fit hp.length L H) :
  aN env (.func 286) [.slice (some ⟨b,0,some g⟩) n e,.int .i64 root,.int .i64 hi,.int .i64 first,aB] ⟨hp,L,H,d⟩=some (.tuple #[],⟨hp.set b (.cells g true (prs (Go.Sort.siftDown ltP hi first root W))),L,H,d⟩):=by
 rw [av 286 _ _ aa5];have hbl:=(List.getElem?_eq_some_iff.1 hb).1;obtain ⟨fr,ex,hx,h⟩:=o8 (hp:=hp) (L:=L) (H:=H) (g:=g) (e:=e) (first:=first) hbl hL hh he hn hfh hF hi root W hD (by omega) (by omega);rw [dY hb] at h;simp only [aB] at h ⊢;rcases hx with rfl | rfl
 ·simp (disch:=first|exact dis|fail) only [sy,simprocAttr,-List.reduceReplicate,hF.all,Lc,h]
 ·simp (disch:=first|exact dis|fail) only [sy,simprocAttr,-List.reduceReplicate,hF.all,Lc,h]
theorem lP(hi first:Nat):∀ (k root:Nat) (W:Array Pr),hi - root<=k->(Go.Sort.siftDown ltP hi first root W).size=W.size
 | 0,root,W,h=>by rw [Go.Sort.siftDown,dif_pos (by omega)]
 | k+1,root,W,h=>by
  rw [Go.Sort.siftDown];split
  ·rfl
  ·split
   ·split
    ·rfl
    ·split
     ·rw [lP hi first k _ _ (by omega),swp_size]
     ·rfl
   ·split
    ·rfl
    ·rw [lP hi first k _ _ (by omega),swp_size]
theorem yB{b g e n hi first:Nat}(hb:b < hp.length)(hL:L<=b)(hh:H.contains b=false)(he:e=0\/e=2)(hn:n<=100000)(hfh:first+hi<=n)(hF:Fit hp.length L H):∀ (k:Nat) (W:Array Pr),W.size=n->k<=100000->∃ fr,
  aG env v8 [11,9,0,10,8,3] hp.length [(11,.int .i64 ((k:Int) - 1)),(9,.int .i64 0),(0,.slice (some ⟨b,0,some g⟩) n e),(10,.int .i64 hi),(8,.int .i64 first),(3,aB)] ⟨hp.set b (.cells g true (prs W)),L,H,[]⟩
   = some (.exit 0,fr,⟨hp.set b (.cells g true (prs (Go.Sort.heapBuild ltP hi first k W))),L,H,[]⟩)/\fr.get 9=some (.int .i64 0)/\fr.get 0=some (.slice (some ⟨b,0,some g⟩) n e)/\fr.get 10=some (.int .i64 hi)/\fr.get 8=some (.int .i64 first)/\fr.get 3=some aB
 | 0,W,hD,hk=>by
  rw [Go.Sort.heapBuild];rw [ak v8.eq_1];have e0:((0:Nat):Int) - 1 = -1:=rfl;rw [e0];have h1:¬ (-1:Int)>=0:=by decide
  simp (disch:=first|exact dis|fail) only [sy,simprocAttr,-List.reduceReplicate,hF.all,h1];exact ⟨_,rfl,rfl,rfl,rfl,rfl,rfl⟩
 | k+1,W,hD,hk=>by
  obtain ⟨fr,ih,ih2⟩:=yB (g:=g) (e:=e) (first:=first) hb hL hh he hn hfh hF k (Go.Sort.siftDown ltP hi first k W) (by rw [lP hi first hi k W (by omega),hD]) (by omega);have hs:=fun d=>A7 (hp:=hp.set b (.cells g true (prs W))) (L:=L) (H:=H) (d:=d) (g:=g) (e:=e) (root:=k) (List.getElem?_set_self hb) hD hL hh he hn hfh (by omega) (by rw [List.length_set];exact hF);rw [Go.Sort.heapBuild];have e1:((k+1:Nat):Int) - 1=(k:Int):=by omega
  have h1:(k:Int)>=0:=by omega
  simp only [List.set_set,aB] at hs ih ih2 ⊢;rw [ak v8.eq_1,e1];refine ⟨fr,?_,ih2⟩;simp (disch:=first|exact dis|fail) only [sy,simprocAttr,-List.reduceReplicate,hF.all,h1,hs,ih]
theorem F8{b g e n first:Nat}(hb:b < hp.length)(hL:L<=b)(hh:H.contains b=false)(he:e=0\/e=2)(hn:n<=100000)(hF:Fit hp.length L H):∀ (k:Nat) (W:Array Pr),W.size=n->first+k<=n->∃ fr,
  aG env vZ [12,0,9,8,3] hp.length [(12,.int .i64 ((k:Int) - 1)),(0,.slice (some ⟨b,0,some g⟩) n e),(9,.int .i64 0),(8,.int .i64 first),(3,aB)] ⟨hp.set b (.cells g true (prs W)),L,H,[]⟩
   = some (.exit 2,fr,⟨hp.set b (.cells g true (prs (Go.Sort.heapPop ltP first k W))),L,H,[]⟩)
 | 0,W,hD,hk=>by
  rw [Go.Sort.heapPop];rw [ak vZ.eq_1];have e0:((0:Nat):Int) - 1 = -1:=rfl;rw [e0];have h1:¬ (-1:Int)>=0:=by decide
  simp (disch:=first|exact dis|fail) only [sy,simprocAttr,-List.reduceReplicate,hF.all,h1];exact ⟨_,rfl⟩
 | k+1,W,hD,hk=>by
  have hsz:(Go.Sort.swp W first (first+k)).size=n:=by rw [swp_size,hD]
  obtain ⟨fr,ih⟩:=F8 (g:=g) (e:=e) (first:=first) hb hL hh he hn hF k (Go.Sort.siftDown ltP k first 0 (Go.Sort.swp W first (first+k))) (by rw [lP k first k 0 _ (by omega),hsz]) (by omega);have hs:=fun d=>A7 (hp:=hp.set b (.cells g true (prs (Go.Sort.swp W first (first+k))))) (L:=L) (H:=H) (d:=d) (g:=g) (e:=e) (hi:=k) (first:=first) (root:=0) (List.getElem?_set_self hb) hsz hL hh he hn (by omega) (by omega) (by rw [List.length_set];exact hF);rw [Go.Sort.heapPop];have e1:((k+1:Nat):Int) - 1=(k:Int):=by omega
  have h1:(k:Int)>=0:=by omega
  have hlen:(prs W).length=2*n:=by rw [dL,hD]
  have hg1:∀ B:Blk,(hp.set b B)[b]?=some B:=fun B=>List.getElem?_set_self hb;have hss:∀ A B:Blk,(hp.set b A).set b B=hp.set b B:=fun A B=>List.set_set ..;have hnl:¬ b < L:=by omega
  have q1:=cm W (i:=first) (by omega);have q2:=cm W (i:=first+k) (by omega);rw [Nat.mul_comm] at q1 q2;have f1:(first:Int)+(k:Int)=((first+k:Nat):Int):=by omega
  have b1:0<=(first:Int)/\(first:Int) < (n:Int):=by omega
  have b2:0<=((first+k:Nat):Int)/\((first+k:Nat):Int) < (n:Int):=by omega
  have s1:first*2+2<=2*n:=by omega
  have s2:(first+k)*2+2<=2*n:=by omega
  have sw1:=o7 W (i:=first) (j:=first+k) (by omega) (by omega);rw [Nat.mul_comm 2 first,Nat.mul_comm 2 (first+k)] at sw1;simp only [putAt] at sw1;simp only [List.set_set,aB,Int.natCast_zero] at hs ih ⊢;rw [ak vZ.eq_1,e1];refine ⟨fr,?_⟩;simp (disch:=first|exact dis|fail) only [sy,simprocAttr,-List.reduceReplicate,hF.all,h1,f1,b1,b2,s1,s2,q1,q2,hg1,hss,hh,hlen,hnl,sw1,hs,ih]
theorem ou(hi first:Nat):∀ (k:Nat) (W:Array Pr),(Go.Sort.heapBuild ltP hi first k W).size=W.size
 | 0,W=>rfl
 | k+1,W=>by rw [Go.Sort.heapBuild,ou hi first k,lP hi first hi k W (by omega)]
theorem NW{b g e n a be:Nat}{W:Array Pr}(hb:hp[b]?=some (.cells g true (prs W)))(hD:W.size=n)(hL:L<=b)(hh:H.contains b=false)(he:e=0\/e=2)(hn:n<=100000)(hab:a < be)(hbe:be<=n)(hF:Fit hp.length L H) :
  aN env (.func 270) [.slice (some ⟨b,0,some g⟩) n e,.int .i64 a,.int .i64 be,aB] ⟨hp,L,H,d⟩=some (.tuple #[],⟨hp.set b (.cells g true (prs (Go.Sort.heapSort ltP W a be))),L,H,d⟩):=by
 rw [av 270 _ _ aaU];have hbl:=(List.getElem?_eq_some_iff.1 hb).1;obtain ⟨fr,h,h9,h0,h10,h8,h3⟩:=yB (hp:=hp) (L:=L) (H:=H) (g:=g) (e:=e) (hi:=be - a) (first:=a) hbl hL hh he hn (by omega) hF ((be - a - 1) / 2+1) W hD (by omega);obtain ⟨fr2,hq⟩:=F8 (hp:=hp) (L:=L) (H:=H) (g:=g) (e:=e) (first:=a) hbl hL hh he hn hF (be - a) (Go.Sort.heapBuild ltP (be - a) a ((be - a - 1) / 2+1) W) (by rw [ou,hD]) (by omega);rw [dY hb] at h;have e1:(be:Int) - (a:Int)=((be - a:Nat):Int):=by omega
 have e2:((be - a:Nat):Int) - 1=((be - a - 1:Nat):Int):=by omega
 have e3:Int.tdiv ((be - a - 1:Nat):Int) 2=(((be - a - 1) / 2:Nat):Int):=by rw [Int.tdiv_eq_ediv_of_nonneg (by omega)];omega
 have e4:(((be - a - 1) / 2+1:Nat):Int) - 1=(((be - a - 1) / 2:Nat):Int):=by omega
 rw [e4] at h;rw [e2] at hq;unfold Go.Sort.heapSort;simp only [aB] at h h3 hq ⊢;simp (disch:=first|exact dis|fail) only [sy,simprocAttr,-List.reduceReplicate,hF.all,RN,e1,e2,e3,h,h9,h0,h10,h8,h3,hq]
end
end TtG
namespace TtH
open Go Go.RowKit AM aE LtA SyP TmM TsA TsB TsE TsI TsJ TtA TtB TtC TtD TtE TtF TtG Bt
section
variable{hp:List Blk}{L:Nat}{H d:List Nat}
theorem F9{b g e n x q s:Nat}{W:Array Pr}(hb:hp[b]?=some (.cells g true (prs W)))(hD:W.size=n)(hh:H.contains b=false)(he:e=0\/e=2)(hn:n<=100000)(hx:1<=x)(hx2:x+1 < n)
  (hq:hp[q]?=some (.cells 0 true [.int .i64 s])) (hqL:L<=q) (hqh:H.contains q=false) (hbq:b≠q) (hs:s<=90000) (hF:Fit hp.length L H) :
  aN env (.func 289) [.slice (some ⟨b,0,some g⟩) n e,.int .i64 x,.pointer (some ⟨q,0,some 0⟩),aB] ⟨hp,L,H,d⟩=some (.int .i64 (Go.Sort.medianAdjacent ltP W x s).1,⟨hp.set q (.cells 0 true [.int .i64 (Go.Sort.medianAdjacent ltP W x s).2]),L,H,d⟩):=by
 rw [av 289 _ _ aa8];have k:=fun d=>uS (d:=d) (x:=x - 1) (y:=x) (z:=x+1) hb hD hh he hn (by omega) (by omega) hx2 hq hqL hqh hbq hs hF;have e1:(x:Int) - 1=((x - 1:Nat):Int):=by omega
 unfold Go.Sort.medianAdjacent;simp only [aB,Int.natCast_add,Int.natCast_one] at k ⊢;simp (disch:=first|exact dis|fail) only [sy,simprocAttr,-List.reduceReplicate,hF.all,RT,e1,k]
end
end TtH
namespace TtI
open Go Go.RowKit AM aE LtA SyP TmM TsA TsB TsE TsI TsJ TtA TtB TtC TtD TtE TtF TtG TtH Bt
theorem Ga{a b:Int} : zZ a b < 0↔a < b:=by
 unfold zZ;split
 ·simp only [*];simp
 ·split<;>simp<;>omega
theorem A9{a b:Int} : zZ a b=0↔a=b:=by
 unfold zZ;split
 ·simp;omega
 ·split<;>simp<;>omega
theorem C5{p q:Pr} : ltP p q=true↔p.1 < q.1\/p.1=q.1/\p.2 < q.2:=by
 unfold ltP eX;rw [decide_eq_true_eq];by_cases h:zZ p.1 q.1=0
 ·rw [if_neg (by simpa using h),Ga];have:=A9.1 h;omega
 ·rw [if_pos h,Ga];have:p.1≠q.1:=fun e=>h (A9.2 e);omega
theorem Lj{p q:Pr} : ltP p q=false↔¬ (p.1 < q.1\/p.1=q.1/\p.2 < q.2):=by rw [<- C5];simp
theorem mT:Go.Sort.SWO ltP where
 irrefl x:=by rw [Lj];omega
 trans x y z h1 h2:=by rw [C5] at *;omega
 ntrans x y z h1 h2:=by rw [Lj] at *;omega
theorem ow:∀ (j:Nat) (W:Array Pr),(Go.Sort.shiftDown ltP j W).size=W.size
 | 0,W=>rfl
 | j+1,W=>by
  rw [Go.Sort.shiftDown];split
  ·rfl
  ·rw [ow j,swp_size]
theorem mU(b:Nat):∀ (k j:Nat) (W:Array Pr),b - j<=k->(Go.Sort.shiftUp ltP b j W).size=W.size
 | 0,j,W,h=>by rw [Go.Sort.shiftUp,if_neg (by omega)]
 | k+1,j,W,h=>by
  rw [Go.Sort.shiftUp];split
  ·split
   ·rfl
   ·rw [mU b k _ _ (by omega),swp_size]
  ·rfl
theorem pY(b:Nat)(W:Array Pr):∀ (k i:Nat),b - i<=k->i<=b->i<=Go.Sort.scanSorted ltP W b i/\Go.Sort.scanSorted ltP W b i<=b
 | 0,i,h,h2=>by
  rw [Go.Sort.scanSorted,if_neg (by simp;omega)];omega
 | k+1,i,h,h2=>by
  rw [Go.Sort.scanSorted];split
  ·rename_i hc;simp only [Bool.and_eq_true,decide_eq_true_eq] at hc;have:=pY b W k (i+1) (by omega) (by omega);omega
  ·omega
theorem pZ(a:Nat):∀ (k i j:Nat) (W:Array Pr),j+1 - i<=k->(Go.Sort.partLoop ltP a i j W).2.size=W.size
 | k,i,j,W,h=>by
  rw [Go.Sort.partLoop_eq];split
  ·rfl
  ·rename_i hc;have g:=Go.Sort.partLoop_guard ltP a i j W hc;cases k with
   | zero=>omega
   | succ k=>rw [pZ a k _ _ _ (by omega),swp_size]
end TtI
end Go.Proofs.YtgdpefeomemllaaGreat
