/- Conditions: none. -/
import Derived.Test.YtgdpefeomemllaaGreatF2
set_option linter.all false
set_option maxRecDepth 100000
namespace Go.Proofs.YtgdpefeomemllaaGreat
namespace AM
open Go Go.RowKit
section
variable{P:Program}{w0:World}
def Iq(P:Program)(i:Nat)(fn:AFn):Prop:=∀ (w0:World) (aa:ay) (m:Nat) (args:List Value) (σ σ':St) (v:Value) (X:Emb) (w:World) (rargs:Array Value),
 ct P w0 lF aa->body aa m fn args σ=some (v,σ')->Sim w0 X σ w->(∀ t∈σ.hid,t < σ.heap.length)->σ.lock<=σ.heap.length->br (aK X) args rargs.toList ->
  Calls P i rargs w fun e w'=>∃ u X',e=.returned u/\aK X' v u/\Sim w0 X' σ' w'/\Stp X σ w X' w'
def aO (P : Program) (env : Env) : Prop := ∃ l, env = .base l /\ ∀ i fn, cE l i = some fn -> ∃ f, P.funcs[i]? = some f /\ f.name ≠ "runtime.NumGoroutine" /\ f.body.isSome = true /\ (aE P f = some fn \/ Iq P i fn)
theorem aO.of{env:Env}(h:nS P env):aO P env:=by
 obtain ⟨l,rfl,h⟩:=h
 refine ⟨l,rfl,fun i fn hi=>?_⟩
 obtain ⟨f,h1,h2,h3⟩:=h i fn hi
 exact ⟨f,h1,h3,uC h2,.inl h2⟩
theorem aO.cons {l : List (Nat × AFn)} {i : Nat} {fn : AFn} {f : Func} (h1 : P.funcs[i]? = some f) (h2 : f.name ≠ "runtime.NumGoroutine") (h3 : f.body.isSome = true) (h4 : Iq P i fn) (h : aO P (.base l)) : aO P (.base ((i, fn) :: l)) := ⟨_, rfl, fun k g hk => by
 obtain ⟨l',e,h⟩:=h
 cases e
 simp only [cE] at hk
 split at hk
 ·rename_i e;subst e;cases hk;exact ⟨f,h1,h2,h3,.inr h4⟩
 ·exact h k g hk⟩
theorem je {l : List (Nat × AFn)} (he : ∀ i fn, cE l i = some fn -> ∃ f, P.funcs[i]? = some f /\ f.name ≠ "runtime.NumGoroutine" /\ f.body.isSome = true /\ (aE P f = some fn \/ Iq P i fn)) (hm : P.follows .mixedOrders = true) : ∀ n, ct P w0 lF (fy l n)
 | 0=>⟨wR l 0,kD,fun g args σ v σ' h=>by simp [fy] at h⟩
 | n+1=>⟨wR l (n+1),kD,fun g args σ v σ' h=>by
  cases g with
  | func f=>
   simp only [fy,Option.bind_eq_some_iff] at h
   obtain ⟨fn,hfn,h⟩:=h
   obtain ⟨f',h1,h3,hb,h2⟩:=he f fn hfn
   refine .inl ⟨f,rfl,⟨f',h1,h3,hb⟩,fun X w rargs S hh hl hr=>?_⟩
   rcases h2 with h2 | h2
   ·exact Io (je he hm n) hm h1 h2 h S hh hl hr
   ·exact h2 w0 (fy l n) n args σ σ' v X w rargs (je he hm n) h S hh hl hr
  | _=>simp [fy] at h⟩
theorem xT{env:Env}(he:aO P env)(hm:P.follows .mixedOrders=true)(n:Nat):ct P w0 lF (run env n):=by
 obtain ⟨l,rfl,h⟩:=he
 exact je h hm n
theorem Sim.below{X:Emb}{σ:St}{w w':World}(S:Sim w0 X σ w)(hb:Below w.heap.size w w'):Sim w0 X σ w' where
 bel:=pZ S.bel hb|>fun h=>h
 dom:=S.dom
 place:=fun id bx h=>⟨Nat.lt_of_lt_of_le (S.place id bx h).1 hb.size,(S.place id bx h).2⟩
 cell:=fun id bx g pl cs h1 h2 h3=>by
  obtain ⟨a1,a2,a3,a4,a5,a6⟩:=S.cell id bx g pl cs h1 h2 h3
  have hlt:=(S.place id bx h1).1
  refine ⟨a1,a2,a3,a4,fun j v hj=>?_,fun ho=>?_⟩
  ·obtain ⟨u,hu,hr⟩:=a5 j v hj
   exact ⟨u,by rw [hb.cell hlt];exact hu,hr⟩
  ·obtain ⟨b1,rs,ty,lo,hi,b2,b3⟩:=a6 ho
   exact ⟨b1,rs,ty,lo,hi,by rw [hb.block _ hlt];exact b2,b3⟩
 inj:=S.inj
 lock:=S.lock
 zero:=S.zero
 eN:=fun id bx es h1 h2 h3=>by
  obtain ⟨a1,a2,res,ck,a3,a4⟩:=S.eN id bx es h1 h2 h3
  exact ⟨a1,a2,res,ck,by rw [hb.block _ (S.place id bx h1).1];exact a3,a4⟩
theorem uH{aa:ay}(hcf:ct P w0 lF aa)(hm:P.follows .mixedOrders=true){m:Nat}{fid:FuncId}{f:Func}{fn:AFn}(hf:P.funcs[fid]?=some f)(hc:aE P f=some fn){σ σ':St}{v:Value}(h:body aa m fn [] σ=some (v,σ'))
  {X:Emb} {w:World} {rargs:Array Value} (S:Sim w0 X σ w) (hh:∀ t∈σ.hid,t < σ.heap.length) (hl:σ.lock<=σ.heap.length) :
  Calls P fid rargs w fun e w'=>∃ u X',e=.returned u/\aK X' v u/\Sim w0 X' σ' w'/\Stp X σ w X' w':=
 uB hcf hm hf hc h S hh hl fun t q ht=>by simp [cj,Fr.get] at ht
theorem EJ{env:Env}(he:aO P env)(hm:P.follows .mixedOrders=true){n f:Nat}{f':Func}{fn:AFn}(h1:P.funcs[f]?=some f')(h2:aE P f'=some fn)(h3:env.fn f=some fn)(h:isTrue (run env n (.func f) [] ⟨[],0,[],[]⟩)=true)(w:World)(rargs:Array Value) :
  Calls P f rargs w fun e w'=>e=.returned (.bool true)/\Below w.heap.size w w':=by
 obtain ⟨σ',h⟩:=M3 h
 obtain ⟨l,rfl,he'⟩:=he
 have h3':cE l f=some fn:=h3
 cases n with
 | zero=>simp [run,fy] at h
 | succ n=>
  simp only [run,fy,h3',Option.bind_some] at h
  have S:Sim w ⟨fun _=>none,0⟩ ⟨[],0,[],[]⟩ w:=⟨Below.refl _ _,fun id bx h=>by (cases h),fun id bx h=>by (cases h),fun id bx g pl cs h=>by (cases h),fun i j bi bj h=>by (cases h),fun id bx h=>by (cases h),fun id bx h=>by (cases h),fun id bx es h=>by (cases h)⟩
  refine (uH (je (w0:=w) he' hm n) hm h1 h2 h S (by simp) (by simp)).mono fun e w' ⟨u,X',h1,h2,h3,h4⟩=>?_
  rw [fk h2] at h1
  exact ⟨h1,h3.bel⟩
def gW(v:Value):AFn:=⟨.seq (.region [⟨some 0,none,0,true,.mv (.const v)⟩]) .ret,[.tmp 0]⟩
theorem xU{aa:ay}{m:Nat}{u v:Value}{args:List Value}{σ σ':St}(h:body aa m (gW u) args σ=some (v,σ')):v=u/\σ'=σ:=by
 obtain ⟨hp,L,H,d⟩:=σ
 simp [body,gW,exec,fW,want,aop,bG,ev,Fr.put,eV,sE,Fr.get,fZ,gc,aR] at h
 exact ⟨h.1.symm,h.2.symm⟩
theorem zQ{env:Env}(he:aO P env)(hm:P.follows .mixedOrders=true){n i:Nat}{f':Func}{fn:AFn}(h1:P.funcs[i]?=some f')(h2:aE P f'=some fn)(h3:env.fn i=some fn)(h:isTrue (run env n (.func i) [] ⟨[],0,[],[]⟩)=true):Iq P i (gW (.bool true)):=fun w0 aa m args σ σ' v X w rargs _ hb S _ _ _=>by
 obtain ⟨rfl,rfl⟩:=xU hb
 refine (EJ he hm h1 h2 h3 h w rargs).mono fun e w' ⟨he,hw⟩=>⟨_,X,he,(bw rfl).2 rfl,S.below hw,?_⟩
 exact ⟨hw.size,hw.os,hw.tape,hw.output,fun k hk _=>hw.block k hk,Evo.refl X,fun id bx bx' h1 h2=>by rw [h1] at h2;cases h2;exact .inl rfl,fun id bx' h1=>.inl ⟨bx',h1,rfl,.inl rfl⟩⟩
def natFn(k:Fr->St->Option Value):AFn:=⟨.seq (.region [⟨some 1,none,0,true,.native k⟩]) .ret,[.tmp 1]⟩
theorem Stp.below{X:Emb}{σ:St}{w w':World}(hw:Below w.heap.size w w'):Stp X σ w X w':=
 ⟨hw.size,hw.os,hw.tape,hw.output,fun k hk _=>hw.block k hk,Evo.refl X,fun id bx bx' h1 h2=>by rw [h1] at h2;cases h2;exact .inl rfl,fun id bx' h1=>.inl ⟨bx',h1,rfl,.inl rfl⟩⟩
end
end AM
end Go.Proofs.YtgdpefeomemllaaGreat
section
namespace Go.Proofs.YtgdpefeomemllaaGreat
namespace AM
open Go Go.RowKit
section
variable{k k':IntKind}{a b:Int}
theorem EK:bZ .add (.int k a) (.int k b)=some (.int k (k.wrap (a+b))):=by simp [bZ,binOp,Op.intArith,dx,pure]
theorem EL:bZ .sub (.int k a) (.int k b)=some (.int k (k.wrap (a - b))):=by simp [bZ,binOp,Op.intArith,dx,pure]
theorem EM:bZ .mul (.int k a) (.int k b)=some (.int k (k.wrap (a*b))):=by simp [bZ,binOp,Op.intArith,dx,pure]
theorem EN:bZ .eql (.int k a) (.int k b)=some (.bool (a==b)):=by simp [bZ,binOp,Op.intCmp,dx,pure]
theorem EO:bZ .neq (.int k a) (.int k b)=some (.bool (a != b)):=by simp [bZ,binOp,Op.intCmp,dx,pure]
theorem EP:bZ .lss (.int k a) (.int k b)=some (.bool (a < b)):=by simp [bZ,binOp,Op.intCmp,dx,pure]
theorem ER:bZ .leq (.int k a) (.int k b)=some (.bool (a<=b)):=by simp [bZ,binOp,Op.intCmp,dx,pure]
theorem ES:bZ .gtr (.int k a) (.int k b)=some (.bool (a > b)):=by simp [bZ,binOp,Op.intCmp,dx,pure]
theorem ET:bZ .geq (.int k a) (.int k b)=some (.bool (a>=b)):=by simp [bZ,binOp,Op.intCmp,dx,pure]
theorem xV:bZ .shl (.int k a) (.int k' b)=if b < 0 then none else some (.int k (k.wrap (a*2 ^ (min b.toNat k.bits)))):=by
 simp only [bZ,binOp,Op.shift];split
 ·rfl
 ·simp [dx,pure]
theorem xW:bZ .shr (.int k a) (.int k' b)=if b < 0 then none else some (.int k (a.fdiv (2 ^ (min b.toNat k.bits)))):=by
 simp only [bZ,binOp,Op.shift];split
 ·rfl
 ·simp [dx,pure]
theorem EU:bZ .quo (.int k a) (.int k b)=if b=0 then none else some (.int k (k.wrap (a.tdiv b))):=by
 simp only [bZ,binOp,Op.intDiv];simp only [ne_eq,not_true_eq_false,if_false];split
 ·rfl
 ·simp [dx,pure]
theorem EV:bZ .rem (.int k a) (.int k b)=if b=0 then none else some (.int k (a.tmod b)):=by
 simp only [bZ,binOp,Op.intDiv];simp only [ne_eq,not_true_eq_false,if_false];split
 ·rfl
 ·simp [dx,pure]
theorem EW:bZ .and (.int k a) (.int k b)=some (.int k (k.wrap ((BitVec.ofInt k.bits a&&&BitVec.ofInt k.bits b).toNat))):=by simp [bZ,binOp,Op.intBits,dx,pure]
theorem KG:bZ .or (.int k a) (.int k b)=some (.int k (k.wrap ((BitVec.ofInt k.bits a|||BitVec.ofInt k.bits b).toNat))):=by simp [bZ,binOp,Op.intBits,dx,pure]
theorem EX:bZ .xor (.int k a) (.int k b)=some (.int k (k.wrap ((BitVec.ofInt k.bits a ^^^ BitVec.ofInt k.bits b).toNat))):=by simp [bZ,binOp,Op.intBits,dx,pure]
end
theorem Vi{b:Bool} : aun .not (.bool b)=some (.bool !b):=by simp [aun,Op.unary,dx,pure]
theorem zR(a:List Nat):aR a []=a:=rfl
section
variable{env:Env}{aa:ay}
noncomputable def KH(env:Env)(b:aC):Option (Ex×Fr×St)->Option (Ex×Fr×St)
 | some (.normal,fr,σ)=>bh env b fr σ
 | some (e,fr,σ)=>some (e,fr,σ)
 | none=>none
def k9(id:Nat):Option (Ex×Fr×St)->Option (Ex×Fr×St)
 | some (.exit i,fr,σ)=>if i=id then some (.normal,fr,σ) else some (.exit i,fr,σ)
 | r=>r
def EY:Option (Fr×St)->Option (Ex×Fr×St)
 | some (fr,σ)=>some (.normal,fr,σ)
 | none=>none
noncomputable def X9(env:Env)(a b:aC)(fr:Fr)(σ:St):Option Value->Option (Ex×Fr×St)
 | some (.bool true)=>bh env a fr σ
 | some (.bool false)=>bh env b fr σ
 | _=>none
def YZ(rs:List iy)(σ:St):Option (Ex×Fr×St)->Option (Value×St)
 | some r=>fin rs σ r
 | none=>none
def opX(aa:ay)(d:Option Nat)(l:List au)(fr:Fr):Option (Value×St)->Option (Fr×St)
 | some (v,σ)=>fW aa l (fr.put d v) σ
 | none=>none
def KI(aa:ay)(o:au)(l:List au)(fr:Fr)(σ:St):Option Bool->Option (Fr×St)
 | some true=>opX aa o.dst l fr (aop aa o.op fr σ)
 | some false=>fW aa l (fr.put o.dst bE) σ
 | none=>none
theorem aA(f:Nat)(args:List Value)(σ:St){fn:AFn}(h:env.fn f=some fn):aN env (.func f) args σ=YZ fn.results σ (bh env fn.code (cj 0 args) { σ with ak:=[] }):=by
 rw [Cs h]
 cases bh env fn.code (cj 0 args) { σ with ak:=[] }<;>rfl
theorem Vj(a b:aC)(fr:Fr)(σ:St):bh env (.seq a b) fr σ=KH env b (bh env a fr σ):=by
 rw [AB]
 cases bh env a fr σ with
 | none=>rfl
 | some r=>obtain ⟨e,fr',σ'⟩:=r;cases e<;>rfl
theorem Ir(ops:List au)(fr:Fr)(σ:St):bh env (.region ops) fr σ=EY (fW (aN env) ops fr σ):=by
 rw [rC]
 cases fW (aN env) ops fr σ<;>rfl
theorem M8(ops:List au)(fr:Fr)(σ:St):bh env (.drawn ops) fr σ=EY (fY (bI (aN env)) [] 0 ops fr σ):=by
 rw [uE]
 cases fY (bI (aN env)) [] 0 ops fr σ<;>rfl
theorem Ct(c:ay)(f:FuncId)(vs:List Value)(σ:St):bI c (.func f) vs σ=c (.func f) vs σ:=rfl
def EZ(fr:Fr)(σ:St):Option (List Value×St)->Option (Ex×Fr×St)
 | some (_,τ)=>some (.normal,fr,⟨τ.heap,τ.lock,τ.hid,aR σ.ak τ.ak⟩)
 | none=>none
def xX(fr:Fr)(σ:St):Option (Ex×Fr×St)->Option (Ex×Fr×St)
 | some (.normal,_,τ)=>EZ fr σ (gc σ.heap.length [] τ)
 | some (.ret,_,τ)=>EZ fr σ (gc σ.heap.length [] τ)
 | _=>none
noncomputable def KJ(env:Env)(g:Nat)(gk:aC)(ps:List Nat)(ba b:aC)(fr:Fr)(σ:St):Option Value->Option (Ex×Fr×St)
 | some (.func (.func h) fi ca)=>if h==g&&fi.isEmpty then xX fr σ (bh (.yl env ps ba b fr) gk (cj 0 (.func (.yield 0) #[] #[]::ca.toList)) { σ with ak:=[] }) else none
 | _=>none
theorem P6(x:Operand)(g:Nat)(gk:aC)(ps:List Nat)(ba b:aC)(fr:Fr)(σ:St):bh env (.each x g gk ps ba b) fr σ=KJ env g gk ps ba b fr σ (ev fr x):=by
 have key:∀ r:Option (Ex×Fr×St),r.bind (iQ fr σ)=xX fr σ r:=fun r=>by
  cases r with
  | none=>rfl
  | some r=>
   obtain ⟨e,fr',τ⟩:=r
   cases e with
   | exit id=>rfl
   | normal=>
    simp only [Option.bind_some,iQ,xX]
    cases gc σ.heap.length [] τ<;>rfl
   | ret=>
    simp only [Option.bind_some,iQ,xX]
    cases gc σ.heap.length [] τ<;>rfl
 rw [xS]
 generalize ev fr x=q
 cases q with
 | none=>rfl
 | some v=>
  cases v<;>first
   | rfl
   | skip
  rename_i h fi ca
  cases h<;>first
   | rfl
   | skip
  rename_i h
  simp only [KJ]
  rw [key]
  rfl
theorem Is(g:Nat)(gk:aC)(ps:List Nat)(ba b:aC)(fr:Fr)(hp:List Blk)(L:Nat)(H d:List Nat)(ca:Array Value) :
  KJ env g gk ps ba b fr ⟨hp,L,H,d⟩ (some (.func (.func g) #[] ca))=xX fr ⟨hp,L,H,d⟩ (bh (.yl env ps ba b fr) gk (cj 0 (.func (.yield 0) #[] #[]::ca.toList)) ⟨hp,L,H,[]⟩):=by simp [KJ]
theorem Cu(fr fr':Fr)(σ τ:St):xX fr σ (some (.normal,fr',τ))=EZ fr σ (gc σ.heap.length [] τ):=rfl
theorem M9(fr fr':Fr)(σ τ:St):xX fr σ (some (.ret,fr',τ))=EZ fr σ (gc σ.heap.length [] τ):=rfl
theorem It(fr:Fr)(σ τ:St)(vs:List Value):EZ fr σ (some (vs,τ))=some (.normal,fr,⟨τ.heap,τ.lock,τ.hid,aR σ.ak τ.ak⟩):=rfl
def Cv(σ:St):Option (List Value×St)->Option (Value×St)
 | some (_,τ)=>some (.bool true,⟨τ.heap,τ.lock,τ.hid,aR σ.ak τ.ak⟩)
 | none=>none
def Cw(σ:St):Option (Ex×Fr×St)->Option (Value×St)
 | some (.normal,_,τ)=>Cv σ (gc σ.heap.length [] τ)
 | _=>none
noncomputable def Iu(env:Env)(b:aC)(σ:St):Option (Ex×Fr×St)->Option (Value×St)
 | some (.normal,fr,τ)=>Cw σ (bh env b fr τ)
 | _=>none
theorem AD(ps:List Nat)(ba b:aC)(fr:Fr)(k:Nat)(args:List Value)(σ:St)(h:(args.length=ps.length)/\args.all jP=true) :
  aN (.yl env ps ba b fr) (.yield k) args σ=Iu env b σ (bh env ba (ps.zip args++fr) { σ with ak:=[] }):=by
 rw [pK]
 unfold dX
 rw [if_pos (by simp [h.1,h.2])]
 cases bh env ba (ps.zip args++fr) { σ with ak:=[] } with
 | none=>rfl
 | some r=>
  obtain ⟨e,fr',τ⟩:=r
  cases e with
  | normal=>
   simp only [Option.bind_some,Iu]
   cases bh env b fr' τ with
   | none=>rfl
   | some r=>
    obtain ⟨e,fr2,τ2⟩:=r
    cases e with
    | normal=>
     simp only [Option.bind_some,Cw]
     cases gc σ.heap.length [] τ2<;>rfl
    | _=>rfl
  | _=>rfl
theorem zS(b:aC)(σ τ:St)(fr:Fr):Iu env b σ (some (.normal,fr,τ))=Cw σ (bh env b fr τ):=rfl
theorem zT(σ τ:St)(fr:Fr):Cw σ (some (.normal,fr,τ))=Cv σ (gc σ.heap.length [] τ):=rfl
theorem E0(σ τ:St)(vs:List Value):Cv σ (some (vs,τ))=some (.bool true,⟨τ.heap,τ.lock,τ.hid,aR σ.ak τ.ak⟩):=rfl
def Iv(aa:ay)(m:Bool)(ops:List au)(fr:Fr)(σ:St):Option (List Nat)->Option (Ex×Fr×St)
 | some B=>EY (eM aa m B [] ops fr σ)
 | none=>none
theorem Na(xs:List Nat)(m:Bool)(ops:List au)(fr:Fr)(σ:St):bh env (.lq xs m ops) fr σ=Iv (bI (aN env)) m ops fr σ (boxes fr xs):=by
 rw [uF]
 cases boxes fr xs with
 | none=>rfl
 | some B=>
  simp only [Option.bind_some,Iv]
  cases eM (bI (aN env)) m B [] ops fr σ<;>rfl
theorem E1(aa:ay)(m:Bool)(ops:List au)(fr:Fr)(σ:St)(B:List Nat):Iv aa m ops fr σ (some B)=EY (eM aa m B [] ops fr σ):=rfl
def Y1:Option Value->Option (List Nat)->Option (List Nat)
 | some (.pointer (some a)),some B=>some (a.block::B)
 | some (.slice (some a) _ _),some B=>some (a.block::B)
 | _,_=>none
theorem Nb(fr:Fr):boxes fr []=some []:=rfl
theorem Iw(fr:Fr)(x:Nat)(l:List Nat):boxes fr (x::l)=Y1 (fr.get x) (boxes fr l):=by
 simp only [boxes]
 generalize fr.get x=q
 cases q with
 | none=>rfl
 | some v=>cases v<;>first
  | rfl
  | (rename_i p;cases p<;>first | rfl | (cases boxes fr l<;>rfl))
  | (rename_i p _ _;cases p<;>first | rfl | (cases boxes fr l<;>rfl))
theorem Vk(a:Addr)(n e:Nat)(B:List Nat):Y1 (some (.slice (some a) n e)) (some B)=some (a.block::B):=rfl
theorem Nc(a:Addr)(B:List Nat):Y1 (some (.pointer (some a))) (some B)=some (a.block::B):=rfl
def moF(aa:ay)(m:Bool)(B:List Nat)(seen:List (Bool×Nat))(d:Option Nat)(l:List au)(fr:Fr):Option (Value×St)->Option (List (Bool×Nat))->Option (Fr×St)
 | some (v,σ),some tg=>if apart tg seen&&(!m||tg.all fun p=>B.contains p.2) then eM aa m B (tg++seen) l (fr.put d v) σ else none
 | _,_=>none
def moM(aa:ay)(B:List Nat)(seen:List (Bool×Nat))(d:Option Nat)(l:List au)(fr:Fr)(H:List Nat):Option (Value×St)->Option (Fr×St)
 | some (v,σ)=>eM aa true B seen l (fr.put d v) ⟨σ.heap,σ.lock,H,σ.ak⟩
 | none=>none
def Iy(aa:ay)(m:Bool)(B:List Nat)(seen:List (Bool×Nat))(o:au)(l:List au)(fr:Fr)(σ:St):Option (Fr×St):=
 if o.wr then (if m then moM aa B seen o.dst l fr σ.hid (aop aa o.op fr ⟨σ.heap,σ.lock,B++σ.hid,σ.ak⟩) else none) else moF aa m B seen o.dst l fr (aop cO o.op fr σ) (tgt fr o.op)
def Cx(aa:ay)(m:Bool)(B:List Nat)(seen:List (Bool×Nat))(o:au)(l:List au)(fr:Fr)(σ:St):Option Bool->Option (Fr×St)
 | some true=>Iy aa m B seen o l fr σ
 | some false=>eM aa m B seen l (fr.put o.dst bE) σ
 | none=>none
theorem P7(aa:ay)(m:Bool)(B:List Nat)(seen:List (Bool×Nat))(o:au)(l:List au)(fr:Fr)(σ:St):eM aa m B seen (o::l) fr σ=Cx aa m B seen o l fr σ (want o fr):=by
 simp only [eM]
 cases want o fr with
 | none=>rfl
 | some b=>
  simp only [Option.bind_some]
  cases b with
  | false=>rfl
  | true=>
   simp only [if_true,Cx,Iy]
   split
   ·split
    ·rename_i hm
     subst hm
     cases aop aa o.op fr { σ with hid:=B++σ.hid }<;>rfl
    ·rfl
   ·cases tgt fr o.op with
    | none=>cases aop cO o.op fr σ<;>rfl
    | some tg=>
     simp only [Option.bind_some]
     cases aop cO o.op fr σ with
     | none=>simp only [Option.bind_none,moF,ite_self]
     | some r=>rfl
theorem E2(aa:ay)(m:Bool)(B:List Nat)(seen:List (Bool×Nat))(o:au)(l:List au)(fr:Fr)(σ:St):Cx aa m B seen o l fr σ (some true)=Iy aa m B seen o l fr σ:=rfl
theorem Nd(aa:ay)(m:Bool)(B:List Nat)(seen:List (Bool×Nat))(d:Option Nat)(g:Option (Nat×Bool))(b:Nat)(op:AOp)(l:List au)(fr:Fr)(σ:St):Iy aa m B seen ⟨d,g,b,false,op⟩ l fr σ=moF aa m B seen d l fr (aop cO op fr σ) (tgt fr op):=rfl
theorem Iz(aa:ay)(B:List Nat)(seen:List (Bool×Nat))(d:Option Nat)(g:Option (Nat×Bool))(b:Nat)(op:AOp)(l:List au)(fr:Fr)(σ:St):Iy aa true B seen ⟨d,g,b,true,op⟩ l fr σ=moM aa B seen d l fr σ.hid (aop aa op fr ⟨σ.heap,σ.lock,B++σ.hid,σ.ak⟩):=rfl
theorem P8(aa:ay)(B:List Nat)(seen:List (Bool×Nat))(d:Option Nat)(l:List au)(fr:Fr)(H:List Nat)(v:Value)(σ:St):moM aa B seen d l fr H (some (v,σ))=eM aa true B seen l (fr.put d v) ⟨σ.heap,σ.lock,H,σ.ak⟩:=rfl
def tgL(q:Bool):Option Value->Option (List (Bool×Nat))
 | some (.pointer (some a))=>some [(q,a.block)]
 | _=>none
theorem P9(fr:Fr)(n:Option Nat)(x:Operand):tgt fr (.load n x)=tgL false (ev fr x):=by
 simp only [tgt]
 generalize ev fr x=q
 cases q with
 | none=>rfl
 | some v=>cases v<;>first | rfl | (rename_i p;cases p<;>rfl)
theorem Nf(fr:Fr)(n:Nat)(x y:Operand):tgt fr (.store n x y)=tgL true (ev fr x):=by
 simp only [tgt]
 generalize ev fr x=q
 cases q with
 | none=>rfl
 | some v=>cases v<;>first | rfl | (rename_i p;cases p<;>rfl)
theorem Qa(q:Bool)(a:Addr):tgL q (some (.pointer (some a)))=some [(q,a.block)]:=rfl
theorem Y2(fr:Fr)(x:Operand):tgt fr (.mv x)=some []:=rfl
theorem Qb(fr:Fr)(x y z:Operand):tgt fr (.pick x y z)=some []:=rfl
theorem Ng(fr:Fr)(zs:List Value)(ps:List (Nat×Nat×Operand)):tgt fr (.build zs ps)=some []:=rfl
theorem Nh(fr:Fr)(x:Operand):tgt fr (.cG x)=some []:=rfl
theorem Vl(fr:Fr)(op:BinOp)(x y:Operand):tgt fr (.bin op x y)=some []:=rfl
theorem Vm(fr:Fr)(n:Bool)(sh:EqK)(x y:Operand):tgt fr (.eqs n sh x y)=some []:=rfl
theorem Y3(fr:Fr)(op:UnOp)(x:Operand):tgt fr (.un op x)=some []:=rfl
theorem Qc(fr:Fr)(k:IntKind)(x:Operand):tgt fr (.conv k x)=some []:=rfl
theorem Ni(fr:Fr)(e:Nat)(x:Operand)(a b c:Option Operand):tgt fr (.slice e x a b c)=some []:=rfl
theorem IA(fr:Fr)(x:Operand)(a b:Option Operand):tgt fr (.kV x a b)=some []:=rfl
theorem Nj(fr:Fr)(n:Nat)(x:Operand):tgt fr (.aD n x)=some []:=rfl
theorem Nk(fr:Fr)(o:Nat)(n:Option Nat)(x:Operand):tgt fr (.field o n x)=some []:=rfl
theorem Nl(fr:Fr)(e:Nat)(x i:Operand):tgt fr (.aI e x i)=some []:=rfl
theorem IB(fr:Fr)(e n:Nat)(x i:Operand):tgt fr (.cT e n x i)=some []:=rfl
theorem Vn(fr:Fr)(e n:Nat)(m:Option Nat)(x i:Operand):tgt fr (.idx e n m x i)=some []:=rfl
theorem Vo(fr:Fr)(x:Operand)(i:Nat):tgt fr (.ext x i)=some []:=rfl
theorem Vp(fr:Fr)(x:Operand):tgt fr (.len x)=some []:=rfl
theorem Qd(fr:Fr)(x:Operand):tgt fr (.lens x)=some []:=rfl
theorem Qe(fr:Fr)(n:Nat):tgt fr (.BZ n)=some []:=rfl
theorem Y4(fr:Fr)(mx:Bool)(xs:List Operand):tgt fr (.mm mx xs)=some []:=rfl
def Cy:List Nat->Nat->Prop
 | [],_=>False
 | c::l,b=>b=c\/Cy l b
theorem Qf(b:Nat):Cy [] b=False:=rfl
theorem Nm(c b:Nat)(l:List Nat):Cy (c::l) b=(b=c\/Cy l b):=rfl
theorem Cy.has:∀ {B:List Nat} {b:Nat},Cy B b->B.contains b=true
 | c::l,b,h=>by
  rcases h with rfl | h
  ·simp
  ·have:=Cy.has (B:=l) h
   simp only [List.contains_cons,this,Bool.or_true]
def tA:List (Bool×Nat)->Nat->Prop
 | [],b=>b=b
 | (true,c)::l,b=>b≠c/\tA l b
 | (false,_)::l,b=>tA l b
def Cz:List (Bool×Nat)->Nat->Prop
 | [],b=>b=b
 | (_,c)::l,b=>b≠c/\Cz l b
theorem Qg(b:Nat):tA [] b=(b=b):=rfl
theorem Nn(c b:Nat)(l:List (Bool×Nat)):tA ((true,c)::l) b=(b≠c/\tA l b):=rfl
theorem IC(c b:Nat)(l:List (Bool×Nat)):tA ((false,c)::l) b=tA l b:=rfl
theorem Qh(b:Nat):Cz [] b=(b=b):=rfl
theorem No(q:Bool)(c b:Nat)(l:List (Bool×Nat)):Cz ((q,c)::l) b=(b≠c/\Cz l b):=rfl
theorem rF{q:Bool}{b:Nat}{seen:List (Bool×Nat)}(h:∀ p∈seen,(q=false/\p.1=false)\/b≠p.2):apart [(q,b)] seen=true:=by
 simp only [apart,List.all_cons,List.all_nil,Bool.and_true,List.all_eq_true]
 intro p hp
 rcases h p hp with ⟨h1,h2⟩ | h1
 ·simp [h1,h2]
 ·simp [h1]
theorem tA.all:∀ {seen:List (Bool×Nat)} {b:Nat},tA seen b->∀ p∈seen,(false=false/\p.1=false)\/b≠p.2
 | [],b,h,p,hp=>by cases hp
 | (true,c)::l,b,h,p,hp=>by
  rcases List.mem_cons.1 hp with rfl | hp
  ·exact .inr h.1
  ·exact tA.all h.2 p hp
 | (false,c)::l,b,h,p,hp=>by
  rcases List.mem_cons.1 hp with rfl | hp
  ·exact .inl ⟨rfl,rfl⟩
  ·exact tA.all (seen:=l) h p hp
theorem Cz.all:∀ {seen:List (Bool×Nat)} {b:Nat},Cz seen b->∀ p∈seen,(true=false/\p.1=false)\/b≠p.2
 | [],b,h,p,hp=>by cases hp
 | (_,c)::l,b,h,p,hp=>by
  rcases List.mem_cons.1 hp with rfl | hp
  ·exact .inr h.1
  ·exact Cz.all h.2 p hp
theorem Qi(aa:ay)(m:Bool)(B:List Nat)(seen:List (Bool×Nat))(fr:Fr)(σ:St):eM aa m B seen [] fr σ=some (fr,σ):=rfl
theorem Vq(aa:ay)(m:Bool)(B:List Nat)(seen:List (Bool×Nat))(d:Option Nat)(l:List au)(fr:Fr)(v:Value)(σ:St):moF aa m B seen d l fr (some (v,σ)) (some [])=eM aa m B seen l (fr.put d v) σ:=by
 simp [moF,apart]
theorem Np(aa:ay)(B:List Nat)(seen:List (Bool×Nat))(d:Option Nat)(l:List au)(fr:Fr)(v:Value)(σ:St)(b:Nat)(h:tA seen b):moF aa false B seen d l fr (some (v,σ)) (some [(false,b)])=eM aa false B ((false,b)::seen) l (fr.put d v) σ:=by
 simp [moF,rF h.all]
theorem Nq(aa:ay)(B:List Nat)(seen:List (Bool×Nat))(d:Option Nat)(l:List au)(fr:Fr)(v:Value)(σ:St)(b:Nat)(h:tA seen b)(hB:Cy B b):moF aa true B seen d l fr (some (v,σ)) (some [(false,b)])=eM aa true B ((false,b)::seen) l (fr.put d v) σ:=by
 simp only [moF,rF h.all,List.all_cons,List.all_nil,hB.has,Bool.true_and,Bool.and_true,Bool.or_true,if_true,List.cons_append,List.nil_append]
theorem ID(aa:ay)(B:List Nat)(seen:List (Bool×Nat))(d:Option Nat)(l:List au)(fr:Fr)(v:Value)(σ:St)(b:Nat)(h:Cz seen b):moF aa false B seen d l fr (some (v,σ)) (some [(true,b)])=eM aa false B ((true,b)::seen) l (fr.put d v) σ:=by
 simp [moF,rF h.all]
theorem IE(aa:ay)(B:List Nat)(seen:List (Bool×Nat))(d:Option Nat)(l:List au)(fr:Fr)(v:Value)(σ:St)(b:Nat)(h:Cz seen b)(hB:Cy B b):moF aa true B seen d l fr (some (v,σ)) (some [(true,b)])=eM aa true B ((true,b)::seen) l (fr.put d v) σ:=by
 simp only [moF,rF h.all,List.all_cons,List.all_nil,hB.has,Bool.true_and,Bool.and_true,Bool.or_true,if_true,List.cons_append,List.nil_append]
theorem Qj(c:Operand)(a b:aC)(fr:Fr)(σ:St):bh env (.cond c a b) fr σ=X9 env a b fr σ (ev fr c):=by
 rw [xQ]
 cases ev fr c with
 | none=>rfl
 | some v=>cases v<;>first
  | rfl
  | (rename_i q;cases q<;>rfl)
theorem Nr(id:Nat)(b:aC)(fr:Fr)(σ:St):bh env (.block id b) fr σ=k9 id (bh env b fr σ):=by
 rw [uG]
 cases bh env b fr σ with
 | none=>rfl
 | some r=>
  obtain ⟨e,fr',σ'⟩:=r
  cases e<;>first
   | rfl
   | (simp only [Option.map_some,k9];split<;>rfl)
theorem Qk(o:au)(l:List au)(fr:Fr)(σ:St):fW aa (o::l) fr σ=KI aa o l fr σ (want o fr):=by
 rw [fW]
 cases want o fr with
 | none=>rfl
 | some b=>
  cases b with
  | false=>rfl
  | true=>
   simp only [Option.bind_some,if_true,KI]
   cases aop aa o.op fr σ<;>rfl
theorem Ql(fr:Fr)(σ:St):fW aa [] fr σ=some (fr,σ):=rfl
theorem CA(b:aC)(fr:Fr)(σ:St):KH env b (some (.normal,fr,σ))=bh env b fr σ:=rfl
theorem Ns(b:aC)(fr:Fr)(σ:St):KH env b (some (.ret,fr,σ))=some (.ret,fr,σ):=rfl
theorem IF(b:aC)(i:Nat)(fr:Fr)(σ:St):KH env b (some (.exit i,fr,σ))=some (.exit i,fr,σ):=rfl
theorem zU(id:Nat)(fr:Fr)(σ:St):k9 id (some (.normal,fr,σ))=some (.normal,fr,σ):=rfl
theorem IG(id:Nat)(fr:Fr)(σ:St):k9 id (some (.ret,fr,σ))=some (.ret,fr,σ):=rfl
theorem E3(id i:Nat)(fr:Fr)(σ:St):k9 id (some (.exit i,fr,σ))=if i=id then some (.normal,fr,σ) else some (.exit i,fr,σ):=rfl
theorem II(fr:Fr)(σ:St):EY (some (fr,σ))=some (.normal,fr,σ):=rfl
theorem Qm(d:Option Nat)(l:List au)(fr:Fr)(v:Value)(σ:St):opX aa d l fr (some (v,σ))=fW aa l (fr.put d v) σ:=rfl
end
def gX(σ:St):Option Value->Option (Value×St)
 | some v=>some (v,σ)
 | none=>none
theorem Nt(σ:St)(v:Value):gX σ (some v)=some (v,σ):=rfl
theorem gl(σ:St)(x:Option Value):x.map (fun v=>(v,σ))=gX σ x:=by cases x<;>rfl
def Qn(σ:St)(c x y:Option Value):Option (Value×St):=
 match c with
 | some (.bool true)=>gX σ x
 | some (.bool false)=>gX σ y
 | _=>none
theorem IJ(σ:St)(q:Bool)(x y:Option Value):Qn σ (some (.bool q)) x y=if q=true then gX σ x else gX σ y:=by cases q<;>rfl
def aaY(σ:St)(op:BinOp)(x y:Option Value):Option (Value×St):=
 match x,y with
 | some v,some w=>gX σ (bZ op v w)
 | _,_=>none
theorem AE(σ:St)(op:BinOp)(v w:Value):aaY σ op (some v) (some w)=gX σ (bZ op v w):=rfl
def KK(σ:St)(n:Option Nat):Option Value->Option (Value×St)
 | some (.pointer (some a))=>match σ.blk a with
  | some (_,cs)=>gX σ (bO cs a.off n)
  | none=>none
 | _=>none
def Qo(σ:St)(n:Option Nat)(off:Nat):Option (Bool×List Value)->Option (Value×St)
 | some (_,cs)=>gX σ (bO cs off n)
 | none=>none
theorem xY(σ:St)(n:Option Nat)(a:Addr):KK σ n (some (.pointer (some a)))=Qo σ n a.off (σ.blk a):=by
 simp only [KK];cases σ.blk a<;>rfl
theorem uI(σ:St)(n:Option Nat)(off:Nat)(pl:Bool)(cs:List Value):Qo σ n off (some (pl,cs))=gX σ (bO cs off n):=rfl
def tC(σ:St)(n:Nat)(a x:Option Value):Option (Value×St):=
 match a,x with
 | some (.pointer (some a)),some v=>if (cellsOf v).length=n then (match σ.write a (cellsOf v) with | some σ'=>some (.tuple #[],σ') | none=>none) else none
 | _,_=>none
def CB:Option St->Option (Value×St)
 | some σ'=>some (.tuple #[],σ')
 | none=>none
theorem E4(σ:St):CB (some σ)=some (.tuple #[],σ):=rfl
theorem uJ(σ:St)(n:Nat)(a:Addr)(v:Value):tC σ n (some (.pointer (some a))) (some v)=if (cellsOf v).length=n then CB (σ.write a (cellsOf v)) else none:=by
 simp only [tC];cases σ.write a (cellsOf v)<;>rfl
section
variable{aa:ay}(fr:Fr)(σ:St)
theorem Qp(x:Operand):aop aa (.mv x) fr σ=gX σ (ev fr x):=by simp only [aop,bG,gl]
theorem E5(c x y:Operand):aop aa (.pick c x y) fr σ=Qn σ (ev fr c) (ev fr x) (ev fr y):=by
 simp only [aop,bG,gl]
 cases ev fr c with
 | none=>rfl
 | some v=>cases v<;>first
  | rfl
  | (rename_i q;cases q<;>rfl)
theorem KL(op:BinOp)(x y:Operand):aop aa (.bin op x y) fr σ=aaY σ op (ev fr x) (ev fr y):=by
 simp only [aop,bG,gl]
 cases ev fr x with
 | none=>rfl
 | some v=>cases ev fr y<;>rfl
theorem E6(n:Option Nat)(x:Operand):aop aa (.load n x) fr σ=KK σ n (ev fr x):=by
 simp only [aop]
 cases ev fr x with
 | none=>rfl
 | some v=>cases v<;>first
  | rfl
  | (
    rename_i q;cases q with
    | none=>rfl
    | some a=>simp only [KK];cases σ.blk a with
     | none=>rfl
     | some p=>obtain ⟨pl,cs⟩:=p;simp only [Option.bind_some,gl])
theorem AF(n:Nat)(x y:Operand):aop aa (.store n x y) fr σ=tC σ n (ev fr x) (ev fr y):=by
 simp only [aop]
 cases ev fr y with
 | none=>cases ev fr x with
  | none=>rfl
  | some v=>cases v<;>first
   | rfl
   | (rename_i q;cases q<;>rfl)
 | some w=>cases ev fr x with
  | none=>rfl
  | some v=>cases v<;>first
   | rfl
   | (
     rename_i q;cases q with
     | none=>rfl
     | some a=>simp only [Option.bind_some,tC];split<;>cases σ.write a (cellsOf w)<;>rfl)
end
section
variable{aa:ay}
def Qq(aa:ay)(born:List (Nat×Nat×Nat))(j:Nat)(d:Option Nat)(l:List au)(fr:Fr)(σ:St):Option (Value×St)->Option (Fr×St)
 | some (v,τ)=>fY aa (if σ.heap.length < τ.heap.length then (j,σ.heap.length,τ.heap.length)::born else born) (j+1) l (fr.put d v) ⟨τ.heap,σ.lock,σ.hid,τ.ak⟩
 | none=>none
def CC(aa:ay)(born:List (Nat×Nat×Nat))(j:Nat)(o:au)(l:List au)(fr:Fr)(σ:St):Option Bool->Option (Fr×St)
 | some true=>Qq aa born j o.dst l fr σ (aop aa o.op fr ⟨σ.heap,eJ o.wr (gP o) born σ.lock σ.heap.length,aZ o.bef born++σ.hid,σ.ak⟩)
 | some false=>fY aa born (j+1) l (fr.put o.dst bE) σ
 | none=>none
theorem Qr(born:List (Nat×Nat×Nat))(j:Nat)(o:au)(l:List au)(fr:Fr)(σ:St):fY aa born j (o::l) fr σ=CC aa born j o l fr σ (want o fr):=by
 rw [fY]
 cases want o fr with
 | none=>rfl
 | some b=>
  cases b with
  | false=>rfl
  | true=>
   simp only [Option.bind_some,if_true,CC]
   cases aop aa o.op fr { σ with lock:=eJ o.wr (gP o) born σ.lock σ.heap.length,hid:=aZ o.bef born++σ.hid }<;>rfl
theorem Qs(born:List (Nat×Nat×Nat))(j:Nat)(fr:Fr)(σ:St):fY aa born j [] fr σ=some (fr,σ):=rfl
end
end AM
end Go.Proofs.YtgdpefeomemllaaGreat
end
section
namespace Go.Proofs.YtgdpefeomemllaaGreat
namespace AM
open Go Go.RowKit
def nT(σ:St)(f:Value->Option Value):Option Value->Option (Value×St)
 | some v=>gX σ (f v)
 | none=>none
theorem gE(σ:St)(f:Value->Option Value)(v:Value):nT σ f (some v)=gX σ (f v):=rfl
def nU(σ:St)(f:Value->Value->Option Value):Option Value->Option Value->Option (Value×St)
 | some v,some w=>gX σ (f v w)
 | _,_=>none
theorem jf(σ:St)(f:Value->Value->Option Value)(v w:Value):nU σ f (some v) (some w)=gX σ (f v w):=rfl
def xZ:Value->Option Value
 | .pointer (some a)=>some (.pointer (some a))
 | .func (.func f) fi ca=>some (.func (.func f) fi ca)
 | _=>none
theorem IK(a:Addr):xZ (.pointer (some a))=some (.pointer (some a)):=rfl
theorem E7(f:FuncId)(fi ca:Array Value):xZ (.func (.func f) fi ca)=some (.func (.func f) fi ca):=rfl
def eqF(neg:Bool)(sh:EqK)(v w:Value):Option Value:=(aeq sh v w).map fun b=>.bool (if neg then !b else b)
def E8(k:IntKind):Value->Option Value
 | .int _ n=>some (.int k (k.wrap n))
 | _=>none
theorem oR(k k':IntKind)(n:Int):E8 k (.int k' n)=some (.int k (k.wrap n)):=rfl
def Y5:Value->Option Value
 | .slice _ n _=>some (.int .i64 n)
 | _=>none
theorem IL(a:Option Addr)(n e:Nat):Y5 (.slice a n e)=some (.int .i64 n):=rfl
def KM:Value->Option Value
 | .string s=>some (.int .i64 s.size)
 | _=>none
theorem Nu(s:ByteArray):KM (.string s)=some (.int .i64 s.size):=rfl
def Qt(off:Nat):Value->Option Value
 | .pointer (some a)=>some (.pointer (some { a with off:=a.off+off }))
 | _=>none
theorem IM(off b o:Nat)(s:Option Nat):Qt off (.pointer (some ⟨b,o,s⟩))=some (.pointer (some ⟨b,o+off,s⟩)):=rfl
def Qu(off:Nat)(n:Option Nat):Value->Option Value
 | .agg cs=>bO cs.toList off n
 | _=>none
theorem x8(off:Nat)(n:Option Nat)(cs:Array Value):Qu off n (.agg cs)=bO cs.toList off n:=rfl
def IN(esz:Nat):Value->Value->Option Value
 | .slice (some a) n _,.int _ i=>if 0<=i/\i < n then some (.pointer (some { a with off:=a.off+i.toNat*esz })) else none
 | _,_=>none
theorem uK(esz b o n e:Nat)(s:Option Nat)(k:IntKind)(i:Int):IN esz (.slice (some ⟨b,o,s⟩) n e) (.int k i)=if 0<=i/\i < n then some (.pointer (some ⟨b,o+i.toNat*esz,s⟩)) else none:=rfl
def CD(esz n:Nat):Value->Value->Option Value
 | .pointer (some a),.int _ i=>if 0<=i/\i < n then some (.pointer (some { a with off:=a.off+i.toNat*esz })) else none
 | _,_=>none
theorem rG(esz b o n:Nat)(s:Option Nat)(k:IntKind)(i:Int):CD esz n (.pointer (some ⟨b,o,s⟩)) (.int k i)=if 0<=i/\i < n then some (.pointer (some ⟨b,o+i.toNat*esz,s⟩)) else none:=rfl
def Y6(esz n:Nat)(m:Option Nat):Value->Value->Option Value
 | .agg cs,.int _ i=>if 0<=i/\i < n then bO cs.toList (i.toNat*esz) m else none
 | _,_=>none
theorem AG(esz n:Nat)(m:Option Nat)(cs:Array Value)(k:IntKind)(i:Int):Y6 esz n m (.agg cs) (.int k i)=if 0<=i/\i < n then bO cs.toList (i.toNat*esz) m else none:=rfl
def E9:Value->Value->Option Value
 | .string s,.int _ i=>if 0<=i/\i < s.size then (s.data.toList[i.toNat]?).map fun b=>.int .u8 b.toNat else none
 | _,_=>none
theorem IP(s:ByteArray)(k:IntKind)(i:Int):E9 (.string s) (.int k i)=if 0<=i/\i < s.size then (s.data.toList[i.toNat]?).map fun b=>.int .u8 b.toNat else none:=rfl
def aaZ(i:Nat):Value->Option Value
 | .tuple vs=>vs.toList[i]?
 | _=>none
theorem x9(i:Nat)(vs:Array Value):aaZ i (.tuple vs)=vs.toList[i]?:=rfl
section
variable{aa:ay}(fr:Fr)(σ:St)
theorem uL{o:AOp}{f:Value->Option Value}{x:Operand}(h:aop aa o fr σ=(bG o fr).map fun v=>(v,σ))(hp:bG o fr=(ev fr x).bind f):aop aa o fr σ=nT σ f (ev fr x):=by
 rw [h,hp];cases ev fr x with
 | none=>rfl
 | some v=>exact gl σ _
theorem Fa{o:AOp}{f:Value->Value->Option Value}{x y:Operand}(h:aop aa o fr σ=(bG o fr).map fun v=>(v,σ))(hp:bG o fr=(ev fr x).bind fun v=>(ev fr y).bind fun w=>f v w):aop aa o fr σ=nU σ f (ev fr x) (ev fr y):=by
 rw [h,hp];cases ev fr x with
 | none=>rfl
 | some v=>cases ev fr y with
  | none=>rfl
  | some w=>exact gl σ _
theorem AH(x:Operand):aop aa (.cG x) fr σ=nT σ xZ (ev fr x):=uL fr σ rfl (by
 simp only [bG];cases ev fr x with
 | none=>rfl
 | some v=>cases v<;>first
  | rfl
  | (rename_i q;cases q<;>rfl)
  | (rename_i q _ _;cases q<;>rfl))
theorem KN(neg:Bool)(sh:EqK)(x y:Operand):aop aa (.eqs neg sh x y) fr σ=nU σ (eqF neg sh) (ev fr x) (ev fr y):=Fa fr σ rfl rfl
theorem Qv(op:UnOp)(x:Operand):aop aa (.un op x) fr σ=nT σ (aun op) (ev fr x):=uL fr σ rfl rfl
theorem Fb(k:IntKind)(x:Operand):aop aa (.conv k x) fr σ=nT σ (E8 k) (ev fr x):=uL fr σ rfl (by
 simp only [bG];cases ev fr x with
 | none=>rfl
 | some v=>cases v<;>rfl)
theorem KO(x:Operand):aop aa (.len x) fr σ=nT σ Y5 (ev fr x):=uL fr σ rfl (by
 simp only [bG];cases ev fr x with
 | none=>rfl
 | some v=>cases v<;>rfl)
theorem Fc(x:Operand):aop aa (.lens x) fr σ=nT σ KM (ev fr x):=uL fr σ rfl (by
 simp only [bG];cases ev fr x with
 | none=>rfl
 | some v=>cases v<;>rfl)
theorem Qw(n:Nat):aop aa (.BZ n) fr σ=some (.int .i64 n,σ):=rfl
theorem AI(off:Nat)(x:Operand):aop aa (.aD off x) fr σ=nT σ (Qt off) (ev fr x):=uL fr σ rfl (by
 simp only [bG];cases ev fr x with
 | none=>rfl
 | some v=>cases v<;>first
  | rfl
  | (rename_i q;cases q<;>rfl))
theorem AJ(off:Nat)(n:Option Nat)(x:Operand):aop aa (.field off n x) fr σ=nT σ (Qu off n) (ev fr x):=uL fr σ rfl (by
 simp only [bG];cases ev fr x with
 | none=>rfl
 | some v=>cases v<;>rfl)
theorem KP(x:Operand)(i:Nat):aop aa (.ext x i) fr σ=nT σ (aaZ i) (ev fr x):=uL fr σ rfl (by
 simp only [bG];cases ev fr x with
 | none=>rfl
 | some v=>cases v<;>rfl)
theorem AK(esz:Nat)(x i:Operand):aop aa (.aI esz x i) fr σ=nU σ (IN esz) (ev fr x) (ev fr i):=Fa fr σ rfl (by
 simp only [bG]
 congr 1;funext v;congr 1;funext w
 cases v<;>first
  | rfl
  | (
    rename_i q n e;cases q with
    | none=>rfl
    | some a=>cases w<;>first
     | rfl
     | (simp only [p9,IN];split<;>rfl)))
theorem ya(esz n:Nat)(x i:Operand):aop aa (.cT esz n x i) fr σ=nU σ (CD esz n) (ev fr x) (ev fr i):=Fa fr σ rfl (by
 simp only [bG]
 congr 1;funext v;congr 1;funext w
 cases v<;>first
  | rfl
  | (
    rename_i q;cases q with
    | none=>rfl
    | some a=>cases w<;>first
     | rfl
     | (simp only [p9,CD];split<;>rfl)))
theorem KQ(esz n:Nat)(m:Option Nat)(x i:Operand):aop aa (.idx esz n m x i) fr σ=nU σ (Y6 esz n m) (ev fr x) (ev fr i):=Fa fr σ rfl (by
 simp only [bG]
 congr 1;funext v;congr 1;funext w
 cases v<;>first
  | rfl
  | (cases w<;>first
     | rfl
     | (simp only [p9,Y6];split<;>rfl)))
theorem Fe(x i:Operand):aop aa (.idxs x i) fr σ=nU σ E9 (ev fr x) (ev fr i):=Fa fr σ rfl (by
 simp only [bG]
 congr 1;funext v;congr 1;funext w
 cases v<;>first
  | rfl
  | (cases w<;>first
     | rfl
     | (simp only [p9,E9];split<;>rfl)))
def CE(σ:St)(zs:List Value):Option (List (Nat×Nat×Value))->Option (Value×St)
 | some ps=>match fill zs ps with
  | some cs=>some (.agg cs.toArray,σ)
  | none=>none
 | none=>none
def KR(σ:St):Option (List Value)->Option (Value×St)
 | some cs=>some (.agg cs.toArray,σ)
 | none=>none
theorem CF(cs:List Value):KR σ (some cs)=some (.agg cs.toArray,σ):=rfl
theorem Ff(zs:List Value)(ps:List (Nat×Nat×Value)):CE σ zs (some ps)=KR σ (fill zs ps):=by
 simp only [CE];cases fill zs ps<;>rfl
theorem Nv(zs:List Value)(ps:List (Nat×Nat×Operand)):aop aa (.build zs ps) fr σ=CE σ zs (p8 fr ps):=by
 show ((bG (.build zs ps) fr).map fun v=>(v,σ))=_
 simp only [bG]
 cases p8 fr ps with
 | none=>rfl
 | some l=>simp only [Option.bind_some,CE];cases fill zs l<;>rfl
def mmX(σ:St)(mx:Bool):Option (List Value)->Option (Value×St)
 | some (v::l)=>gX σ (mmf mx v l)
 | _=>none
theorem Qx(mx:Bool)(v:Value)(l:List Value):mmX σ mx (some (v::l))=gX σ (mmf mx v l):=rfl
theorem Y7(mx:Bool)(xs:List Operand):aop aa (.mm mx xs) fr σ=mmX σ mx (evs fr xs):=by
 show ((bG (.mm mx xs) fr).map fun v=>(v,σ))=_
 simp only [bG]
 cases evs fr xs with
 | none=>rfl
 | some l=>cases l with
  | nil=>rfl
  | cons v l=>exact gl σ _
theorem Vr(mx:Bool)(v:Value):mmf mx v []=some v:=rfl
theorem Vs(k:IntKind)(x y:Int)(l:List Value):mmf true (.int k x) (.int k y::l)=mmf true (.int k (max x y)) l:=by
 simp only [mmf,mm2,if_true,Option.bind_some]
 congr 2
 split<;>omega
theorem Vt(k:IntKind)(x y:Int)(l:List Value):mmf false (.int k x) (.int k y::l)=mmf false (.int k (min x y)) l:=by
 simp only [mmf,mm2,if_true,Option.bind_some,Bool.false_eq_true,if_false]
 congr 2
 split<;>omega
def Qy(σ:St)(f:FuncId):Option (List Value)->Option (List Value)->Option (Value×St)
 | some fi,some ca=>if fi.all aW&&ca.all aW then some (.func (.func f) fi.toArray ca.toArray,σ) else none
 | _,_=>none
theorem IQ(f:FuncId)(fi ca:List Value):Qy σ f (some fi) (some ca)=if fi.all aW&&ca.all aW then some (.func (.func f) fi.toArray ca.toArray,σ) else none:=rfl
theorem Qz(f:FuncId)(fi ca:List Operand):aop aa (.zG f fi ca) fr σ=Qy σ f (evs fr fi) (evs fr ca):=by
 show ((bG (.zG f fi ca) fr).map fun v=>(v,σ))=_
 simp only [bG]
 cases evs fr fi with
 | none=>rfl
 | some l=>cases evs fr ca with
  | none=>rfl
  | some m=>simp only [Option.bind_some,Qy];split<;>rfl
def mF(esz:Nat)(a:Addr)(n e:Nat)(lo hi mx:Option Value):Option Value:=if e=1048577\/e=1048578 then (eT n lo hi mx).map fun (l,h,m)=>.slice (some { a with off:=a.off+l*esz }) (h - l) (if m=some h then 1048578 else 0) else none
def eA(esz:Nat)(v:Value)(lo hi mx:Option Value):Option Value:=
 match v with
 | .slice none 0 0=>(eT 0 lo hi mx).map fun _=>.slice none 0 0
 | .slice (some a) n e=>if e=0\/e=esz then (eT n lo hi mx).map fun (l,h,m)=>.slice (some { a with off:=a.off+l*esz }) (h - l) (if m.isSome then 0 else e) else mF esz a n e lo hi mx
 | _=>none
def QA(σ:St)(esz:Nat):Option Value->Option (Option Value)->Option (Option Value)->Option (Option Value)->Option (Value×St)
 | some v,some lo,some hi,some mx=>gX σ (eA esz v lo hi mx)
 | _,_,_,_=>none
theorem Fg(esz:Nat)(v:Value)(lo hi mx:Option Value):QA σ esz (some v) (some lo) (some hi) (some mx)=gX σ (eA esz v lo hi mx):=rfl
theorem AL(esz:Nat)(x:Operand)(lo hi mx:Option Operand):aop aa (.slice esz x lo hi mx) fr σ=QA σ esz (ev fr x) (evo fr lo) (evo fr hi) (evo fr mx):=by
 show ((bG (.slice esz x lo hi mx) fr).map fun v=>(v,σ))=_
 simp only [bG]
 cases ev fr x with
 | none=>rfl
 | some v=>cases evo fr lo with
  | none=>rfl
  | some lo=>cases evo fr hi with
   | none=>rfl
   | some hi=>cases evo fr mx with
    | none=>rfl
    | some mx=>exact gl σ _
def KS(σ:St)(esz n:Nat):Option Value->Option (Option Value)->Option (Option Value)->Option (Option Value)->Option (Value×St)
 | some (.pointer (some a)),some lo,some hi,some mx=>gX σ ((eT n lo hi mx).map fun (l,h,_)=>.slice (some { a with off:=a.off+l*esz }) (h - l) 0)
 | _,_,_,_=>none
theorem CG(esz n:Nat)(a:Addr)(lo hi mx:Option Value):KS σ esz n (some (.pointer (some a))) (some lo) (some hi) (some mx)=gX σ ((eT n lo hi mx).map fun (l,h,_)=>.slice (some { a with off:=a.off+l*esz }) (h - l) 0):=rfl
theorem IS(esz n:Nat)(x:Operand)(lo hi mx:Option Operand):aop aa (.iB esz n x lo hi mx) fr σ=KS σ esz n (ev fr x) (evo fr lo) (evo fr hi) (evo fr mx):=by
 show ((bG (.iB esz n x lo hi mx) fr).map fun v=>(v,σ))=_
 simp only [bG]
 cases ev fr x with
 | none=>rfl
 | some v=>cases evo fr lo with
  | none=>cases v<;>first
   | rfl
   | (rename_i q;cases q<;>rfl)
  | some lo=>cases evo fr hi with
   | none=>cases v<;>first
    | rfl
    | (rename_i q;cases q<;>rfl)
   | some hi=>cases evo fr mx with
    | none=>cases v<;>first
     | rfl
     | (rename_i q;cases q<;>rfl)
    | some mx=>cases v<;>first
     | rfl
     | (
       rename_i q;cases q with
       | none=>rfl
       | some a=>exact gl σ _)
def KT(σ:St):Option Value->Option (Option Value)->Option (Option Value)->Option (Value×St)
 | some (.string s),some lo,some hi=>gX σ ((eT s.size lo hi none).map fun (l,h,_)=>.string ⟨((s.data.toList.drop l).take (h - l)).toArray⟩)
 | _,_,_=>none
theorem CH(s:ByteArray)(lo hi:Option Value):KT σ (some (.string s)) (some lo) (some hi)=gX σ ((eT s.size lo hi none).map fun (l,h,_)=>.string ⟨((s.data.toList.drop l).take (h - l)).toArray⟩):=rfl
theorem IT(x:Operand)(lo hi:Option Operand):aop aa (.kV x lo hi) fr σ=KT σ (ev fr x) (evo fr lo) (evo fr hi):=by
 show ((bG (.kV x lo hi) fr).map fun v=>(v,σ))=_
 simp only [bG]
 cases ev fr x with
 | none=>rfl
 | some v=>cases evo fr lo with
  | none=>cases v<;>rfl
  | some lo=>cases evo fr hi with
   | none=>cases v<;>rfl
   | some hi=>cases v<;>first
    | rfl
    | exact gl σ _
theorem QB:evo fr none=some none:=rfl
def aa0:Option Value->Option (Option Value)
 | some v=>some (some v)
 | none=>none
theorem Nw(v:Value):aa0 (some v)=some (some v):=rfl
theorem QC(x:Operand):evo fr (some x)=aa0 (ev fr x):=by simp only [evo];cases ev fr x<;>rfl
theorem Nx(pl:Bool)(zs:List Value):aop aa (.alloc pl zs) fr σ=some (.pointer (some ⟨σ.heap.length,0,some 0⟩),⟨σ.heap++[.cells 0 pl zs],σ.lock,σ.hid,σ.ak⟩):=rfl
def aa1(σ:St)(pl:Bool):Option Value->Option (Value×St)
 | some v=>if (cellsOf v).all aW&&(!pl||(cellsOf v).all sc) then some (.pointer (some ⟨σ.heap.length,0,some 0⟩),⟨σ.heap++[.cells 0 pl (cellsOf v)],σ.lock,σ.hid,σ.ak⟩) else none
 | none=>none
theorem Ny(pl:Bool)(v:Value):aa1 σ pl (some v)=if (cellsOf v).all aW&&(!pl||(cellsOf v).all sc) then some (.pointer (some ⟨σ.heap.length,0,some 0⟩),⟨σ.heap++[.cells 0 pl (cellsOf v)],σ.lock,σ.hid,σ.ak⟩) else none:=rfl
theorem Vu(pl:Bool)(x:Operand):aop aa (.box pl x) fr σ=aa1 σ pl (ev fr x):=by
 simp only [aop];cases ev fr x<;>rfl
def vJ(σ:St)(pl:Bool)(esz n:Nat)(zs:List Value):Option (List (Nat×Nat×Value))->Option (Value×St)
 | some ps=>match fill zs ps with
  | some cs=>if cs.length=n*esz&&small (n*esz)&&(!pl||cs.all sc) then some (.slice (some ⟨σ.heap.length,0,some 0⟩) n esz,⟨σ.heap++[.cells 0 pl cs],σ.lock,σ.hid,σ.ak⟩) else none
  | none=>none
 | none=>none
def Fh(σ:St)(pl:Bool)(esz n:Nat):Option (List Value)->Option (Value×St)
 | some cs=>if cs.length=n*esz&&small (n*esz)&&(!pl||cs.all sc) then some (.slice (some ⟨σ.heap.length,0,some 0⟩) n esz,⟨σ.heap++[.cells 0 pl cs],σ.lock,σ.hid,σ.ak⟩) else none
 | none=>none
theorem zV(pl:Bool)(esz n:Nat)(cs:List Value):Fh σ pl esz n (some cs)=if cs.length=n*esz&&small (n*esz)&&(!pl||cs.all sc) then some (.slice (some ⟨σ.heap.length,0,some 0⟩) n esz,⟨σ.heap++[.cells 0 pl cs],σ.lock,σ.hid,σ.ak⟩) else none:=rfl
theorem CI(pl:Bool)(esz n:Nat)(zs:List Value)(ps:List (Nat×Nat×Value)):vJ σ pl esz n zs (some ps)=Fh σ pl esz n (fill zs ps):=by
 simp only [vJ];cases fill zs ps<;>rfl
theorem IU(pl:Bool)(esz n:Nat)(zs:List Value)(ps:List (Nat×Nat×Operand)):aop aa (.bS pl esz n zs ps) fr σ=vJ σ pl esz n zs (p8 fr ps):=by
 simp only [aop]
 cases p8 fr ps with
 | none=>rfl
 | some l=>simp only [Option.bind_some,vJ];cases fill zs l<;>rfl
def Ya(o s:Nat):Option Value->Option (List (Nat×Nat×Value))->Option (List (Nat×Nat×Value))
 | some v,some l=>some ((o,s,v)::l)
 | _,_=>none
theorem IV(o s:Nat)(v:Value)(l:List (Nat×Nat×Value)):Ya o s (some v) (some l)=some ((o,s,v)::l):=rfl
theorem Nz(o s:Nat)(x:Operand)(l:List (Nat×Nat×Operand)):p8 fr ((o,s,x)::l)=Ya o s (ev fr x) (p8 fr l):=by
 simp only [p8];cases ev fr x with
 | none=>rfl
 | some v=>cases p8 fr l<;>rfl
theorem QD:p8 fr []=some []:=rfl
def Y8:Option Value->Option (List Value)->Option (List Value)
 | some v,some l=>some (v::l)
 | _,_=>none
theorem NA(v:Value)(l:List Value):Y8 (some v) (some l)=some (v::l):=rfl
theorem QE(x:Operand)(l:List Operand):evs fr (x::l)=Y8 (ev fr x) (evs fr l):=by
 simp only [evs];cases ev fr x with
 | none=>rfl
 | some v=>cases evs fr l<;>rfl
theorem Vv:evs fr []=some []:=rfl
def Yb(σ:St):Option Value->Option (Value×St)
 | some (.string s)=>if small s.size&&0 < s.size then some (.slice (some ⟨σ.heap.length,0,some 0⟩) s.size 1,⟨σ.heap++[.cells 0 true (dL s)],σ.lock,σ.hid,σ.ak⟩) else none
 | _=>none
theorem IW(s:ByteArray):Yb σ (some (.string s))=if small s.size&&0 < s.size then some (.slice (some ⟨σ.heap.length,0,some 0⟩) s.size 1,⟨σ.heap++[.cells 0 true (dL s)],σ.lock,σ.hid,σ.ak⟩) else none:=rfl
theorem QF(x:Operand):aop aa (.zF x) fr σ=Yb σ (ev fr x):=by
 simp only [aop];cases ev fr x with
 | none=>rfl
 | some v=>cases v<;>rfl
def St.str(σ:St):Value->Option (List UInt8)
 | .slice none 0 0=>some []
 | .slice (some a) n _=>(σ.blk a).bind fun (_,cs)=>if a.off+n<=cs.length then fo ((cs.drop a.off).take n) else none
 | _=>none
def KU(σ:St):Option Value->Option (Value×St)
 | some v=>match σ.str v with
  | some l=>some (.string ⟨l.toArray⟩,σ)
  | none=>none
 | none=>none
def QG(σ:St):Option (List UInt8)->Option (Value×St)
 | some l=>some (.string ⟨l.toArray⟩,σ)
 | none=>none
theorem Fi(l:List UInt8):QG σ (some l)=some (.string ⟨l.toArray⟩,σ):=rfl
theorem IX(v:Value):KU σ (some v)=QG σ (σ.str v):=by
 simp only [KU];cases σ.str v<;>rfl
def QH(σ:St):Option Value->Option (Value×St)
 | some (.slice (some a) n e)=>if a.block < σ.lock||n=0 then none else (σ.blk a).map fun _=>(.slice (some a) n e,σ)
 | _=>none
def Yc(v:Value)(σ:St):Option (Bool×List Value)->Option (Value×St)
 | some _=>some (v,σ)
 | none=>none
theorem IY(b o g n e:Nat)(h:(b < σ.lock)=False)(hn:(n=0)=False):QH σ (some (.slice (some ⟨b,o,some g⟩) n e))=Yc (.slice (some ⟨b,o,some g⟩) n e) σ (σ.blk ⟨b,o,some g⟩):=by
 simp only [QH,h,hn,decide_false,Bool.or_self,Bool.false_eq_true,if_false]
 cases σ.blk ⟨b,o,some g⟩<;>rfl
theorem IZ(v:Value)(p:Bool×List Value):Yc v σ (some p)=some (v,σ):=rfl
theorem QI(x:Operand):aop aa (.mark x) fr σ=QH σ (ev fr x):=by
 simp only [aop];cases ev fr x with
 | none=>rfl
 | some v=>cases v<;>first
  | rfl
  | (rename_i a n e;cases a<;>rfl)
theorem QJ(x:Operand):aop aa (.p7 x) fr σ=KU σ (ev fr x):=by
 simp only [aop];cases ev fr x with
 | none=>rfl
 | some v=>
  cases v<;>first
   | rfl
   | skip
  rename_i a n e
  cases a with
  | none=>
   cases n with
   | zero=>cases e<;>rfl
   | succ n=>rfl
  | some a=>
   simp only [KU,St.str]
   cases σ.blk a with
   | none=>rfl
   | some p=>
    obtain ⟨pl,cs⟩:=p
    simp only [Option.bind_some]
    split
    ·cases fo ((cs.drop a.off).take n)<;>rfl
    ·rfl
def Fj(σ:St)(pl:Bool)(esz:Nat)(zs:List Value):Option Value->Option Value->Option (Value×St)
 | some (.int _ l),some (.int _ c)=>if 0<=l&&l<=c&&c<=1048576&&esz*c.toNat<=1048576&&zs.length=esz&&(l≠0||c=0) then
    some (.slice (some ⟨σ.heap.length,0,some 0⟩) l.toNat esz,⟨σ.heap++[.cells 0 pl (List.replicate l.toNat zs).flatten],σ.lock,σ.hid,σ.ak⟩)
   else none
 | _,_=>none
theorem zW(pl:Bool)(esz:Nat)(zs:List Value)(k k':IntKind)(l c:Int):Fj σ pl esz zs (some (.int k l)) (some (.int k' c))=if 0<=l&&l<=c&&c<=1048576&&esz*c.toNat<=1048576&&zs.length=esz&&(l≠0||c=0) then
    some (.slice (some ⟨σ.heap.length,0,some 0⟩) l.toNat esz,⟨σ.heap++[.cells 0 pl (List.replicate l.toNat zs).flatten],σ.lock,σ.hid,σ.ak⟩)
   else none:=rfl
theorem Fk(pl:Bool)(esz:Nat)(zs:List Value)(x y:Operand):aop aa (.gw pl esz zs x y) fr σ=Fj σ pl esz zs (ev fr x) (ev fr y):=by
 simp only [aop]
 cases ev fr x with
 | none=>rfl
 | some v=>cases ev fr y with
  | none=>cases v<;>rfl
  | some w=>cases v<;>cases w<;>rfl
def Yd(aa:ay)(f:FuncId)(σ:St):Option (List Value)->Option (Value×St)
 | some vs=>aa (.func f) vs σ
 | none=>none
theorem I0(f:FuncId)(vs:List Value):Yd aa f σ (some vs)=aa (.func f) vs σ:=rfl
theorem QK(f:FuncId)(args:List Operand):aop aa (.call f args) fr σ=Yd aa f σ (evs fr args):=by
 simp only [aop];cases evs fr args<;>rfl
def CJ(aa:ay)(σ:St):Option Value->Option (List Value)->Option (Value×St)
 | some (.func g fi ca),some vs=>if B5 g&&!ca.isEmpty then none else aa g (fi.toList++vs++ca.toList) σ
 | _,_=>none
theorem Fl(g:FuncId)(fi ca:Array Value)(vs:List Value):CJ aa σ (some (.func (.func g) fi ca)) (some vs)=aa (.func g) (fi.toList++vs++ca.toList) σ:=rfl
theorem CK(k:Nat)(vs:List Value):CJ aa σ (some (.func (.yield k) #[] #[])) (some vs)=aa (.yield k) vs σ:=by simp [CJ]
theorem NB(x:Operand)(args:List Operand):aop aa (.cW x args) fr σ=CJ aa σ (ev fr x) (evs fr args):=by
 simp only [aop]
 cases ev fr x with
 | none=>rfl
 | some v=>cases evs fr args with
  | none=>cases v<;>rfl
  | some vs=>cases v<;>rfl
def vK(σ:St)(pl:Bool)(esz:Nat):Option Value->Option Value->Option (Value×St)
 | some x,some y=>match σ.news esz y with
  | some (m,vs)=>σ.append pl esz x m vs
  | none=>none
 | _,_=>none
def Ye(σ:St)(pl:Bool)(esz:Nat)(x:Value):Option (Nat×List Value)->Option (Value×St)
 | some (m,vs)=>σ.append pl esz x m vs
 | none=>none
theorem I1(pl:Bool)(esz:Nat)(x:Value)(m:Nat)(vs:List Value):Ye σ pl esz x (some (m,vs))=σ.append pl esz x m vs:=rfl
theorem CL(pl:Bool)(esz:Nat)(x y:Value):vK σ pl esz (some x) (some y)=Ye σ pl esz x (σ.news esz y):=by
 simp only [vK];cases σ.news esz y<;>rfl
theorem I2(pl:Bool)(esz:Nat)(x y:Operand):aop aa (.append pl esz x y) fr σ=vK σ pl esz (ev fr x) (ev fr y):=by
 simp only [aop]
 cases ev fr x with
 | none=>rfl
 | some v=>cases ev fr y with
  | none=>rfl
  | some w=>simp only [Option.bind_some,vK];cases σ.news esz w<;>rfl
def QL(σ:St):Option Value->Option Value->Option (Value×St)
 | some x,some n=>B4 σ x n
 | _,_=>none
theorem Fm(x y:Operand):aop aa (.jw x y) fr σ=QL σ (ev fr x) (ev fr y):=by
 simp only [aop]
 cases ev fr x with
 | none=>rfl
 | some p=>cases ev fr y<;>rfl
theorem I3(σ:St)(k:Int):QL σ (some (.slice none 0 0)) (some (.int .i64 k))=if k=0 then some (.slice none 0 0,σ) else if 0 < k/\k<=1048576 then some (.slice (some ⟨σ.heap.length,0,some k.toNat⟩) k.toNat 1,{ σ with heap:=σ.heap++[.cells k.toNat true (List.replicate k.toNat (.int .u8 0))] }) else none:=rfl
def Fo(σ:St)(esz:Nat):Option Value->Option (Nat×List Value)->Option (Value×St)
 | some (.slice none 0 0),some _=>some (.int .i64 0,σ)
 | some (.slice (some a) n _),some (m,vs)=>
   if min m n=0 then some (.int .i64 0,σ)
   else match σ.write a (vs.take (min m n*esz)) with
    | some σ'=>some (.int .i64 (min m n:Nat),σ')
    | none=>none
 | _,_=>none
def KV(n:Nat):Option St->Option (Value×St)
 | some σ'=>some (.int .i64 (n:Nat),σ')
 | none=>none
theorem CM(n:Nat)(σ:St):KV n (some σ)=some (.int .i64 (n:Nat),σ):=rfl
theorem I4(esz:Nat)(a:Addr)(n e m:Nat)(vs:List Value):Fo σ esz (some (.slice (some a) n e)) (some (m,vs))=if min m n=0 then some (.int .i64 0,σ) else KV (min m n) (σ.write a (vs.take (min m n*esz))):=by
 simp only [Fo];split
 ·rfl
 ·cases σ.write a (vs.take (min m n*esz))<;>rfl
theorem I5(esz:Nat)(m:Nat)(vs:List Value):Fo σ esz (some (.slice none 0 0)) (some (m,vs))=some (.int .i64 0,σ):=rfl
def KW(σ:St)(esz:Nat):Option Value->Option (Nat×List Value)
 | some y=>σ.news esz y
 | none=>none
theorem I6(esz:Nat)(y:Value):KW σ esz (some y)=σ.news esz y:=rfl
theorem QM(esz:Nat)(x y:Operand):aop aa (.copy esz x y) fr σ=Fo σ esz (ev fr x) (KW σ esz (ev fr y)):=by
 simp only [aop]
 cases ev fr x with
 | none=>rfl
 | some v=>cases ev fr y with
  | none=>simp only [KW];cases v<;>first
   | rfl
   | (
     rename_i q n e;cases q<;>first
     | rfl
     | (cases n<;>cases e<;>rfl))
  | some w=>
   simp only [Option.bind_some,KW]
   cases σ.news esz w with
   | none=>cases v<;>first
    | rfl
    | (
      rename_i q n e;cases q<;>first
      | rfl
      | (cases n<;>cases e<;>rfl))
   | some p=>obtain ⟨m,vs⟩:=p;cases v<;>first
    | rfl
    | (
      rename_i q n e;cases q<;>first
      | (cases n<;>cases e<;>rfl)
      | (
       simp only [Option.bind_some,Fo];split
       ·rfl
       ·rename_i a _;cases σ.write a (vs.take (min m n*esz))<;>rfl))
def CN(σ:St)(zs:List Value):Option Value->Option (Value×St)
 | some (.slice none 0 0)=>some (.tuple #[],σ)
 | some (.slice (some a) n _)=>if n=0 then some (.tuple #[],σ) else CB (σ.write a (List.replicate n zs).flatten)
 | _=>none
theorem Fp(zs:List Value):CN σ zs (some (.slice none 0 0))=some (.tuple #[],σ):=rfl
theorem Ft(zs:List Value)(a:Addr)(n e:Nat):CN σ zs (some (.slice (some a) n e))=if n=0 then some (.tuple #[],σ) else CB (σ.write a (List.replicate n zs).flatten):=rfl
theorem NC(esz:Nat)(zs:List Value)(x:Operand):aop aa (.clear esz zs x) fr σ=CN σ zs (ev fr x):=by
 simp only [aop]
 cases ev fr x with
 | none=>rfl
 | some v=>cases v<;>first
  | rfl
  | (
    rename_i q n e;cases q<;>first
    | (cases n<;>cases e<;>rfl)
    | (
     simp only [CN];split
     ·rfl
     ·rename_i a _;cases σ.write a (List.replicate n zs).flatten<;>rfl))
end
section
variable{h nw:List Blk}{L:Nat}{H d:List Nat}
def QN(s:Option Nat):Option Blk->Option (Bool×List Value)
 | some (.cells g pl cs)=>if s=some g then some (pl,cs) else none
 | _=>none
theorem yc(s:Option Nat)(g:Nat)(pl:Bool)(cs:List Value):QN s (some (.cells g pl cs))=if s=some g then some (pl,cs) else none:=rfl
theorem QO(hp:List Blk)(b o:Nat)(s:Option Nat):St.blk ⟨hp,L,H,d⟩ ⟨b,o,s⟩=if H.contains b=true then none else QN s hp[b]?:=by
 unfold St.blk
 split
 ·rfl
 ·cases hp[b]? with
  | none=>rfl
  | some q=>cases q<;>rfl
theorem b7(i:Nat):(h++nw)[h.length+i]?=nw[i]?:=by rw [List.getElem?_append_right (by omega),Nat.add_sub_cancel_left]
theorem bY(b:Blk):(h++b::nw)[h.length]?=some b:=by rw [List.getElem?_append_right (by omega),Nat.sub_self];rfl
theorem CO(b:Blk)(i:Nat):(h++nw).set (h.length+i) b=h++nw.set i b:=by rw [List.set_append_right _ _ (by omega),Nat.add_sub_cancel_left]
theorem fL(b c:Blk):(h++c::nw).set h.length b=h++b::nw:=by rw [List.set_append_right _ _ (by omega),Nat.sub_self];rfl
def QS(hp:List Blk)(L:Nat)(H d:List Nat)(b o:Nat)(vs:List Value)(g:Nat):Option (Bool×List Value)->Option St
 | some (pl,cs)=>if o+vs.length<=cs.length&&vs.all aW&&(!pl||vs.all sc) then some ⟨hp.set b (.cells g pl (putAt cs o vs)),L,H,if vs.all sc||d.contains b then d else b::d⟩ else none
 | none=>none
theorem Fu(hp:List Blk)(b o:Nat)(vs:List Value)(g:Nat)(pl:Bool)(cs:List Value):QS hp L H d b o vs g (some (pl,cs))=if o+vs.length<=cs.length&&vs.all aW&&(!pl||vs.all sc) then some ⟨hp.set b (.cells g pl (putAt cs o vs)),L,H,if vs.all sc||d.contains b then d else b::d⟩ else none:=rfl
theorem write_eq(hp:List Blk)(b o g:Nat)(vs:List Value):St.write ⟨hp,L,H,d⟩ ⟨b,o,some g⟩ vs=if b < L then none else QS hp L H d b o vs g (St.blk ⟨hp,L,H,d⟩ ⟨b,o,some g⟩):=by
 unfold St.write
 simp only []
 split
 ·rfl
 ·rw [QO]
  split
  ·rfl
  ·cases hb:hp[b]? with
   | none=>rfl
   | some q=>cases q with
    | map _=>rfl
    | void=>rfl
    | cells g' pl cs=>
     simp only [yc,Option.some.injEq]
     by_cases e:g=g'
     ·subst e;simp only [↓reduceIte];rfl
     ·rw [if_neg e];rfl
end
section
variable{env:Env}
noncomputable def Yf(d:List Nat):Option (Ex×Fr×St)->Option (Ex×Fr×St)
 | some (e,fr,σ)=>some (e,fr,⟨σ.heap,σ.lock,σ.hid,aR d σ.ak⟩)
 | none=>none
theorem I7(d:List Nat)(e:Ex)(fr:Fr)(σ:St):Yf d (some (e,fr,σ))=some (e,fr,⟨σ.heap,σ.lock,σ.hid,aR d σ.ak⟩):=rfl
theorem QT(live:List Nat)(b:aC)(fr:Fr)(σ:St):bh env (.loop live b) fr σ=Yf σ.ak (aX env b live σ.heap.length (fr.keep live) ⟨σ.heap,σ.lock,σ.hid,[]⟩):=by
 rw [xR]
 cases aX env b live σ.heap.length (fr.keep live) ⟨σ.heap,σ.lock,σ.hid,[]⟩<;>rfl
noncomputable def I8(env:Env)(b:aC)(live:List Nat)(base:Nat):Option (Fr×St)->Option (Ex×Fr×St)
 | some (fr,σ)=>aX env b live base fr σ
 | none=>none
theorem Fv(b:aC)(live:List Nat)(base:Nat)(fr:Fr)(σ:St):I8 env b live base (some (fr,σ))=aX env b live base fr σ:=rfl
noncomputable def nV(env:Env)(b:aC)(live:List Nat)(base:Nat):Option (Ex×Fr×St)->Option (Ex×Fr×St)
 | some (.normal,fr,σ)=>I8 env b live base (gQ base (fr.keep live) σ)
 | some (e,fr,σ)=>some (e,fr,σ)
 | none=>none
theorem CP(b:aC)(live:List Nat)(base:Nat)(fr:Fr)(σ:St):nV env b live base (some (.normal,fr,σ))=I8 env b live base (gQ base (fr.keep live) σ):=rfl
theorem ND(b:aC)(live:List Nat)(base:Nat)(fr:Fr)(σ:St):nV env b live base (some (.ret,fr,σ))=some (.ret,fr,σ):=rfl
theorem I9(b:aC)(live:List Nat)(base:Nat)(i:Nat)(fr:Fr)(σ:St):nV env b live base (some (.exit i,fr,σ))=some (.exit i,fr,σ):=rfl
theorem QU(b:aC)(live:List Nat)(base:Nat)(fr:Fr)(σ:St):aX env b live base fr σ=nV env b live base (bh env b fr σ):=by
 rw [rD]
 cases bh env b fr σ with
 | none=>rfl
 | some r=>
  obtain ⟨e,fr',σ'⟩:=r
  cases e<;>first
   | rfl
   | (simp only [Option.bind_some,nV];cases gQ base (fr'.keep live) σ'<;>rfl)
theorem aB{b b':aC}(h:b=b')(live:List Nat)(base:Nat)(fr:Fr)(σ:St):aX env b live base fr σ=nV env b live base (bh env b' fr σ):=by subst h;exact QU b live base fr σ
def QV(t:Nat)(k:Fr):Option Value->Fr
 | some v=>(t,v)::k
 | none=>k
theorem Ja(t:Nat)(k:Fr)(v:Value):QV t k (some v)=(t,v)::k:=rfl
theorem Jb(t:Nat)(k:Fr):QV t k none=k:=rfl
theorem NF(fr:Fr)(t:Nat)(l:List Nat):fr.keep (t::l)=QV t (fr.keep l) (fr.get t):=by
 simp only [Fr.keep];cases fr.get t<;>rfl
theorem QW(fr:Fr):fr.keep []=[]:=rfl
theorem NG{base:Nat}(fr:Fr)(hp:List Blk)(L:Nat)(H d:List Nat)(hb:hp.length<=base):gQ base fr ⟨hp,L,H,d⟩=some (fr,⟨hp,L,H,d⟩):=by
 unfold gQ gc
 rw [if_pos hb]
 simp only [Option.map_some]
 congr 2
 induction fr with
 | nil=>rfl
 | cons x fr ih=>simpa using ih
def gcX(σ:St):Option (List Value×St)->Option (Value×St)
 | some ([v],τ)=>some (v,⟨τ.heap,τ.lock,τ.hid,aR σ.ak τ.ak⟩)
 | _=>none
theorem QX(σ:St)(v:Value)(τ:St):gcX σ (some ([v],τ))=some (v,⟨τ.heap,τ.lock,τ.hid,aR σ.ak τ.ak⟩):=rfl
def Vw(σ τ:St):Option Value->Option (Value×St)
 | some u=>gcX σ (gc σ.heap.length [u] τ)
 | none=>none
theorem NH(σ τ:St)(u:Value):Vw σ τ (some u)=gcX σ (gc σ.heap.length [u] τ):=rfl
def Fw(σ τ:St):Option (List Value)->Option (Value×St)
 | some vs=>Vw σ τ (fZ vs)
 | none=>none
theorem Jc(σ τ:St)(vs:List Value):Fw σ τ (some vs)=Vw σ τ (fZ vs):=rfl
theorem QY(rs:List iy)(σ:St)(fr:Fr)(τ:St):((eV fr τ rs).bind fun vs=>(fZ vs).bind fun u=>(gc σ.heap.length [u] τ).bind fun q=>match q.1 with
   | [v]=>some (v,{ q.2 with ak:=aR σ.ak q.2.ak })
   | _=>none)=Fw σ τ (eV fr τ rs):=by
 cases eV fr τ rs with
 | none=>rfl
 | some vs=>
  simp only [Option.bind_some,Fw]
  cases fZ vs with
  | none=>rfl
  | some u=>
   simp only [Option.bind_some,Vw]
   cases gc σ.heap.length [u] τ with
   | none=>rfl
   | some q=>
    obtain ⟨l,τ'⟩:=q
    simp only [Option.bind_some]
    cases l with
    | nil=>rfl
    | cons v l=>cases l<;>rfl
theorem QZ(rs:List iy)(σ:St)(fr:Fr)(τ:St):YZ rs σ (some (.ret,fr,τ))=Fw σ τ (eV fr τ rs):=QY rs σ fr τ
theorem Fx(rs:List iy)(σ:St)(fr:Fr)(τ:St):YZ rs σ (some (.normal,fr,τ))=Fw σ τ (eV fr τ rs):=QY rs σ fr τ
theorem Jd(fr:Fr)(τ:St)(r:iy)(l:List iy):eV fr τ (r::l)=Y8 (sE fr τ r) (eV fr τ l):=by
 simp only [eV];cases sE fr τ r with
 | none=>rfl
 | some v=>cases eV fr τ l<;>rfl
theorem NI(fr:Fr)(τ:St):eV fr τ []=some []:=rfl
theorem Q0(fr:Fr)(τ:St)(t:Nat):sE fr τ (.tmp t)=fr.get t:=rfl
def KX(τ:St)(n:Option Nat):Option Value->Option Value
 | some (.pointer (some a))=>match τ.blk a with
  | some r=>bO r.2 a.off n
  | none=>none
 | _=>none
def Yg(n:Option Nat)(off:Nat):Option (Bool×List Value)->Option Value
 | some r=>bO r.2 off n
 | none=>none
theorem Je(n:Option Nat)(off:Nat)(r:Bool×List Value):Yg n off (some r)=bO r.2 off n:=rfl
theorem Jf(τ:St)(n:Option Nat)(a:Addr):KX τ n (some (.pointer (some a)))=Yg n a.off (τ.blk a):=by
 simp only [KX];cases τ.blk a<;>rfl
theorem NJ(fr:Fr)(τ:St)(a:Nat)(n:Option Nat):sE fr τ (.cell a n)=KX τ n (fr.get a):=by
 simp only [sE];cases fr.get a with
 | none=>rfl
 | some v=>cases v<;>first
  | rfl
  | (
    rename_i q;cases q with
    | none=>rfl
    | some a=>simp only [KX];cases τ.blk a<;>rfl)
theorem NK(v:Value):fZ [v]=some v:=rfl
theorem NL(v w:Value)(l:List Value):fZ (v::w::l)=if (v::w::l).all Ae then some (.tuple (v::w::l).toArray) else none:=rfl
theorem NM:fZ []=some (.tuple #[]):=rfl
theorem Vx{hp:List Blk}{base:Nat}{vs:List Value}{L:Nat}{H d:List Nat}(hb:hp.length<=base):gc base vs ⟨hp,L,H,d⟩=some (vs,⟨hp,L,H,d⟩):=by
 unfold gc;rw [if_pos hb]
end
inductive Br where
 | tt
 | ff
section
variable{env:Env}{aa:ay}
def Q1(aa:ay)(o:au)(l:List au)(fr:Fr)(σ:St):Br->Option (Fr×St)
 | .tt=>opX aa o.dst l fr (aop aa o.op fr σ)
 | .ff=>fW aa l (fr.put o.dst bE) σ
theorem Q2(o:au)(l:List au)(fr:Fr)(σ:St)(b:Bool):KI aa o l fr σ (some b)=Q1 aa o l fr σ (if b=true then .tt else .ff):=by cases b<;>rfl
theorem Q3(o:au)(l:List au)(fr:Fr)(σ:St):Q1 aa o l fr σ .tt=opX aa o.dst l fr (aop aa o.op fr σ):=rfl
theorem Q4(o:au)(l:List au)(fr:Fr)(σ:St):Q1 aa o l fr σ .ff=fW aa l (fr.put o.dst bE) σ:=rfl
noncomputable def Q5(env:Env)(a b:aC)(fr:Fr)(σ:St):Br->Option (Ex×Fr×St)
 | .tt=>bh env a fr σ
 | .ff=>bh env b fr σ
theorem Q6(a b:aC)(fr:Fr)(σ:St)(c:Bool):X9 env a b fr σ (some (.bool c))=Q5 env a b fr σ (if c=true then .tt else .ff):=by cases c<;>rfl
theorem Q7(a b:aC)(fr:Fr)(σ:St):Q5 env a b fr σ .tt=bh env a fr σ:=rfl
theorem Q8(a b:aC)(fr:Fr)(σ:St):Q5 env a b fr σ .ff=bh env b fr σ:=rfl
def Q9(σ:St)(x y:Option Value):Br->Option (Value×St)
 | .tt=>gX σ x
 | .ff=>gX σ y
theorem Ra(σ:St)(c:Bool)(x y:Option Value):Qn σ (some (.bool c)) x y=Q9 σ x y (if c=true then .tt else .ff):=by cases c<;>rfl
theorem Rb(σ:St)(x y:Option Value):Q9 σ x y .tt=gX σ x:=rfl
theorem Rc(σ:St)(x y:Option Value):Q9 σ x y .ff=gX σ y:=rfl
def AN(born:List (Nat×Nat×Nat))(j lo hi:Nat):List (Nat×Nat×Nat):=if lo < hi then (j,lo,hi)::born else born
theorem Jg(born:List (Nat×Nat×Nat))(j n:Nat):AN born j n n=born:=if_neg (Nat.lt_irrefl n)
theorem Re(own:Bool)(born:List (Nat×Nat×Nat))(L n:Nat):eJ false own born L n=n:=rfl
theorem Rf(born:List (Nat×Nat×Nat))(L n:Nat):eJ true false born L n=L:=rfl
theorem Rg(born:List (Nat×Nat×Nat))(L n:Nat):eJ true true born L n=Ad L (qc born n) n:=rfl
theorem Rh{L base n:Nat}(h:L<=base)(h':base<=n):Ad L base n=base:=if_pos ⟨h,h'⟩
theorem Vy(d:Option Nat)(g:Option (Nat×Bool))(bef:Nat)(wr:Bool)(op:AOp):gP ⟨d,g,bef,wr,op⟩=bef.testBit 255:=rfl
theorem Jh(n:Nat):qc [] n=n:=rfl
theorem Fy{born:List (Nat×Nat×Nat)}{j lo hi n:Nat}(h:lo < hi):qc (AN born j lo hi) n=qc born lo:=by
 unfold AN;rw [if_pos h];rfl
theorem CQ(bef:Nat):aZ bef []=[]:=rfl
theorem yd(bef:Nat)(born:List (Nat×Nat×Nat))(j lo hi:Nat):aZ bef (AN born j lo hi)=if bef.testBit j=true then aZ bef born else List.range' lo (hi - lo)++aZ bef born:=by
 unfold AN
 split
 ·rfl
 ·have:hi - lo=0:=by omega
  rw [this]
  split<;>rfl
def Ji(aa:ay)(m:Bool)(B:List Nat)(seen:List (Bool×Nat))(o:au)(l:List au)(fr:Fr)(σ:St):Br->Option (Fr×St)
 | .tt=>Iy aa m B seen o l fr σ
 | .ff=>eM aa m B seen l (fr.put o.dst bE) σ
theorem NN(aa:ay)(m:Bool)(B:List Nat)(seen:List (Bool×Nat))(o:au)(l:List au)(fr:Fr)(σ:St)(b:Bool):Cx aa m B seen o l fr σ (some b)=Ji aa m B seen o l fr σ (if b=true then .tt else .ff):=by cases b<;>rfl
theorem NO(aa:ay)(m:Bool)(B:List Nat)(seen:List (Bool×Nat))(o:au)(l:List au)(fr:Fr)(σ:St):Ji aa m B seen o l fr σ .tt=Iy aa m B seen o l fr σ:=rfl
theorem NP(aa:ay)(m:Bool)(B:List Nat)(seen:List (Bool×Nat))(o:au)(l:List au)(fr:Fr)(σ:St):Ji aa m B seen o l fr σ .ff=eM aa m B seen l (fr.put o.dst bE) σ:=rfl
def Jj(aa:ay)(born:List (Nat×Nat×Nat))(j:Nat)(o:au)(l:List au)(fr:Fr)(σ:St):Br->Option (Fr×St)
 | .tt=>Qq aa born j o.dst l fr σ (aop aa o.op fr ⟨σ.heap,eJ o.wr (gP o) born σ.lock σ.heap.length,aZ o.bef born++σ.hid,σ.ak⟩)
 | .ff=>fY aa born (j+1) l (fr.put o.dst bE) σ
theorem NQ(born:List (Nat×Nat×Nat))(j:Nat)(o:au)(l:List au)(fr:Fr)(σ:St)(b:Bool):CC aa born j o l fr σ (some b)=Jj aa born j o l fr σ (if b=true then .tt else .ff):=by cases b<;>rfl
theorem NR(born:List (Nat×Nat×Nat))(j:Nat)(o:au)(l:List au)(fr:Fr)(σ:St):Jj aa born j o l fr σ .tt=Qq aa born j o.dst l fr σ (aop aa o.op fr ⟨σ.heap,eJ o.wr (gP o) born σ.lock σ.heap.length,aZ o.bef born++σ.hid,σ.ak⟩):=rfl
theorem NS(born:List (Nat×Nat×Nat))(j:Nat)(o:au)(l:List au)(fr:Fr)(σ:St):Jj aa born j o l fr σ .ff=fY aa born (j+1) l (fr.put o.dst bE) σ:=rfl
theorem NT(born:List (Nat×Nat×Nat))(j:Nat)(d:Option Nat)(l:List au)(fr:Fr)(σ:St)(v:Value)(τ:St):Qq aa born j d l fr σ (some (v,τ)) =
  fY aa (AN born j σ.heap.length τ.heap.length) (j+1) l (fr.put d v) ⟨τ.heap,σ.lock,σ.hid,τ.ak⟩:=rfl
def KY(b:Bool):Option Value->Option Bool
 | some (.bool c)=>some (c==b)
 | some (.tuple _)=>some false
 | _=>none
theorem NU(d:Option Nat)(bf:Nat)(wr:Bool)(op:AOp)(fr:Fr):want ⟨d,none,bf,wr,op⟩ fr=some true:=rfl
theorem NV(d:Option Nat)(g:Nat)(b:Bool)(bf:Nat)(wr:Bool)(op:AOp)(fr:Fr):want ⟨d,some (g,b),bf,wr,op⟩ fr=KY b (fr.get g):=by
 simp only [want];cases fr.get g with
 | none=>rfl
 | some v=>cases v<;>rfl
theorem Jk(c:Bool):KY true (some (.bool c))=some c:=by cases c<;>rfl
theorem Fz(c:Bool):KY false (some (.bool c))=some (!c):=by cases c<;>rfl
theorem FA(b:Bool)(vs:Array Value):KY b (some (.tuple vs))=some false:=rfl
theorem Jl(o:au)(l:List au)(fr:Fr)(σ:St):KI aa o l fr σ (some true)=opX aa o.dst l fr (aop aa o.op fr σ):=rfl
theorem FB(born:List (Nat×Nat×Nat))(j:Nat)(o:au)(l:List au)(fr:Fr)(σ:St):CC aa born j o l fr σ (some true)=Qq aa born j o.dst l fr σ (aop aa o.op fr ⟨σ.heap,eJ o.wr (gP o) born σ.lock σ.heap.length,aZ o.bef born++σ.hid,σ.ak⟩):=rfl
theorem Y9(fr:Fr)(t:Nat):ev fr (.tmp t)=fr.get t:=rfl
theorem Ri(fr:Fr)(v:Value):ev fr (.const v)=some v:=rfl
theorem Vz(fr:Fr)(f:FuncId):ev fr (.func f)=some (.func (.func f) #[] #[]):=rfl
theorem jZ(k t:Nat)(v:Value)(l:Fr):Fr.get ((k,v)::l) t=if k=t then some v else Fr.get l t:=rfl
theorem Rj(fr:Fr)(d:Nat)(v:Value):fr.put (some d) v=(d,v)::fr:=rfl
theorem Rk(fr:Fr)(v:Value):fr.put none v=fr:=rfl
end
end AM
end Go.Proofs.YtgdpefeomemllaaGreat
end
section
namespace Go.Proofs.YtgdpefeomemllaaGreat
namespace AM
open Go Go.RowKit
section
variable{h nw:List Blk}{L:Nat}{H d:List Nat}{vs:List Value}
theorem KZ(hv:∀ v∈vs,∀ r∈refs v,r < h.length)(hd:d=[]):gc h.length vs ⟨h++nw,L,H,d⟩=some (vs,⟨h,L,H,[]⟩):=by
 subst hd
 unfold gc
 by_cases hn:(h++nw).length<=h.length
 ·rw [if_pos hn]
  have:nw=[]:=by
   simp only [List.length_append] at hn
   exact List.eq_nil_of_length_eq_zero (by omega)
  subst this
  simp
 ·rw [if_neg hn]
  have:(vs.flatMap refs++(([]:List Nat).filter (· < h.length)).flatMap (aQ (h++nw))).filter (h.length<=·)=[]:=by
   simp only [List.filter_nil,List.flatMap_nil,List.append_nil]
   rw [List.filter_eq_nil_iff]
   intro r hr
   obtain ⟨v,h1,h2⟩:=List.mem_flatMap.1 hr
   have:=hv v h1 r h2
   simpa using this
  simp only [this]
  simp
theorem AO{g:Nat}{cs:List Value}{base r:Nat}{hp:List Blk}(hb:hp[r]?=some (.cells g true cs))(hr:base<=r):∀ (ws acc:List Nat) (f:Nat),(∀ x∈ws,x=r)->acc=[r]->reach hp base f ws acc=[r]
 | ws,acc,0,_,ha=>by rw [reach];exact ha
 | [],acc,f+1,_,ha=>by rw [reach];exact ha
 | x::ws,acc,f+1,hx,ha=>by
  have:x=r:=hx x (by simp)
  subst this
  rw [reach]
  have h1:(decide (x < base)||acc.contains x)=true:=by rw [ha];simp
  rw [if_pos h1]
  exact AO hb hr ws acc f (fun y hy=>hx y (by simp [hy])) ha
def one(base r:Nat)(id:Nat):Nat:=if id < base then id else base+[r].idxOf id
theorem iW{base r id:Nat}(h:id < base):one base r id=id:=by simp [one,h]
theorem dD{base k:Nat} : one base (base+k) (base+k)=base:=by
 have:¬ base+k < base:=by omega
 simp [one,this]
theorem qt{k g:Nat}{cs:List Value}(hk:nw[k]?=some (.cells g true cs))(hv:∀ v∈vs,∀ r∈refs v,r < h.length\/r=h.length+k)(hx:∃ v∈vs,h.length+k∈refs v)(hd:d=[]) :
  gc h.length vs ⟨h++nw,L,H,d⟩=some (vs.map (ren (one h.length (h.length+k))),⟨h++[.cells g true cs],L,H,[]⟩):=by
 subst hd
 have hkl:k < nw.length:=(List.getElem?_eq_some_iff.1 hk).1
 have hb:(h++nw)[h.length+k]?=some (.cells g true cs):=by rw [List.getElem?_append_right (by omega),Nat.add_sub_cancel_left];exact hk
 have hr0:aQ (h++nw) (h.length+k)=[]:=by simp [aQ,hb,cN]
 unfold gc
 rw [if_neg (by simp only [List.length_append];omega)]
 have sW:∀ r∈(vs.flatMap refs++(([]:List Nat).filter (· < h.length)).flatMap (aQ (h++nw))).filter (h.length<=·),r=h.length+k:=fun r hr=>by
  simp only [List.filter_nil,List.flatMap_nil,List.append_nil,List.mem_filter,List.mem_flatMap,decide_eq_true_eq] at hr
  obtain ⟨⟨v,h1,h2⟩,h3⟩:=hr
  rcases hv v h1 r h2 with h4 | h4
  ·omega
  ·exact h4
 have hne:h.length+k∈(vs.flatMap refs++(([]:List Nat).filter (· < h.length)).flatMap (aQ (h++nw))).filter (h.length<=·):=by
  simp only [List.filter_nil,List.flatMap_nil,List.append_nil,List.mem_filter,List.mem_flatMap,decide_eq_true_eq]
  obtain ⟨v,h1,h2⟩:=hx
  exact ⟨⟨v,h1,h2⟩,by omega⟩
 simp only []
 generalize AP:(vs.flatMap refs++(([]:List Nat).filter (· < h.length)).flatMap (aQ (h++nw))).filter (h.length<=·)=roots at sW hne
 cases roots with
 | nil=>simp at hne
 | cons r rs=>
  have hr:r=h.length+k:=sW r (by simp)
  subst hr
  simp only []
  have Za:reach (h++nw) h.length 4096 ((h.length+k)::rs) []=[h.length+k]:=by
   rw [show 4096=4095+1 by rfl,reach]
   rw [if_neg (by simp)]
   exact AO hb (by omega) _ _ _ (fun x hx=>by
    rw [hr0,List.nil_append] at hx
    exact sW x (by simp [hx])) rfl
  rw [Za]
  unfold lX
  have hok:(vs.all fun v=>(refs v).all fun r=>decide (r < h.length)||[h.length+k].contains r)=true:=by
   rw [List.all_eq_true]
   intro v h1
   rw [List.all_eq_true]
   intro r h2
   rcases hv v h1 r h2 with h4 | h4
   ·simp [h4]
   ·simp [h4]
  simp only [List.filter_nil]
  refine (if_pos ?_).trans ?_
  ·simp only [ez,hok,List.all_nil,List.all_cons,hr0,List.length_append]
   simp
   exact hkl
  ·have hg:(h++nw).getD (h.length+k) default=.cells g true cs:=by rw [List.getD_eq_getElem?_getD,hb];rfl
   simp only [dy,List.map_cons,List.map_nil,hg,fB,List.take_left']
   rfl
theorem FC{v:Value}(hv:∀ r∈refs v,r < h.length):gc h.length [v] ⟨h++nw,L,H,[]⟩=some ([v],⟨h,L,H,[]⟩):=KZ (fun v' h1 r h2=>by simp at h1;subst h1;exact hv r h2) rfl
end
end AM
end Go.Proofs.YtgdpefeomemllaaGreat
end
section
namespace Go.Proofs.YtgdpefeomemllaaGreat
namespace AM
open Go Go.RowKit
theorem w64{n:Int}(h : -9223372036854775808<=n)(h':n<=9223372036854775807):IntKind.i64.wrap n=n:=by rw [IntKind.wrap_i64];omega
theorem wu8{n:Int}(h:0<=n)(h':n<=255):IntKind.u8.wrap n=n:=by simp [IntKind.wrap,IntKind.bits,IntKind.signed];omega
theorem adh(n:Int):IntKind.u8.wrap n=n%256:=by simp [IntKind.wrap,IntKind.bits,IntKind.signed]
theorem adi{n:Int}(h:0<=n)(h':n<=4294967295):IntKind.u32.wrap n=n:=by simp [IntKind.wrap,IntKind.bits,IntKind.signed];omega
theorem Zb{n:Int}(h:0<=n)(h':n<=18446744073709551615):IntKind.u64.wrap n=n:=by simp [IntKind.wrap,IntKind.bits,IntKind.signed];omega
theorem Yh(n:Int):IntKind.u64.wrap n=n%18446744073709551616:=by simp [IntKind.wrap,IntKind.bits,IntKind.signed]
theorem Rl:IntKind.i64.bits=64:=rfl
theorem Rm:IntKind.u64.bits=64:=rfl
theorem Rn:IntKind.u32.bits=32:=rfl
theorem VA:IntKind.u8.bits=8:=rfl
theorem yf(a:Int){b:Int}(h:0<=b):a.fdiv b=a / b:=Int.fdiv_eq_ediv_of_nonneg a h
theorem CR(w a:Nat)(h:a < 2 ^ w):(BitVec.ofInt w (a:Int)).toNat=a:=by
 rw [BitVec.ofInt_natCast,BitVec.toNat_ofNat,Nat.mod_eq_of_lt h]
theorem VB(w a b:Nat)(ha:a < 2 ^ w)(hb:b < 2 ^ w):(BitVec.ofInt w (a:Int)&&&BitVec.ofInt w (b:Int)).toNat=a&&&b:=by
 rw [BitVec.toNat_and,CR w a ha,CR w b hb]
theorem Ro(w a b:Nat)(ha:a < 2 ^ w)(hb:b < 2 ^ w):(BitVec.ofInt w (a:Int)|||BitVec.ofInt w (b:Int)).toNat=a|||b:=by
 rw [BitVec.toNat_or,CR w a ha,CR w b hb]
theorem mask(w:Nat)(n:Int)(k:Nat)(h0:0<=n)(h1:n < ((2 ^ w:Nat):Int))(hk:k < w):((BitVec.ofInt w n&&&BitVec.ofInt w ((2 ^ k - 1:Nat):Int)).toNat:Int)=n%((2 ^ k:Nat):Int):=by
 obtain ⟨a,rfl⟩:∃ a:Nat,n=a:=⟨n.toNat,by omega⟩
 have hp:2 ^ k < 2 ^ w:=Nat.pow_lt_pow_right (by omega) hk
 rw [VB w a _ (by omega) (by omega),Nat.and_two_pow_sub_one_eq_mod]
 rfl
def yg(w:Nat)(a b:Int):Int:=((BitVec.ofInt w a&&&BitVec.ofInt w b).toNat:Int)
def orI(w:Nat)(a b:Int):Int:=((BitVec.ofInt w a|||BitVec.ofInt w b).toNat:Int)
def Zc(w:Nat)(a b:Int):Int:=((BitVec.ofInt w a ^^^ BitVec.ofInt w b).toNat:Int)
theorem NW{k:IntKind}{a b:Int} : bZ .and (.int k a) (.int k b)=some (.int k (k.wrap (yg k.bits a b))):=EW
theorem Rp{k:IntKind}{a b:Int} : bZ .or (.int k a) (.int k b)=some (.int k (k.wrap (orI k.bits a b))):=KG
theorem NX{k:IntKind}{a b:Int} : bZ .xor (.int k a) (.int k b)=some (.int k (k.wrap (Zc k.bits a b))):=EX
def b8(l:List Nat):List UInt8:=l.map UInt8.ofNat
def By(l:List Nat):Prop:=∀ b∈l,b < 256
theorem By.nil:By []:=fun b h=>by cases h
theorem By.cons{b:Nat}{l:List Nat}(h:b < 256)(hl:By l):By (b::l):=fun x hx=>by
 rcases List.mem_cons.1 hx with rfl | hx
 ·exact h
 ·exact hl x hx
theorem By.head{b:Nat}{l:List Nat}(h:By (b::l)):b < 256:=h b (by simp)
theorem By.tail{b:Nat}{l:List Nat}(h:By (b::l)):By l:=fun x hx=>h x (by simp [hx])
theorem By.get{l:List Nat}(h:By l){i:Nat}(hi:i < l.length):l[i] < 256:=h _ (List.getElem_mem hi)
theorem Zd{l m:List Nat}(hl:By l)(hm:By m):b8 l=b8 m↔l=m:=by
 refine ⟨fun h=>?_,fun h=>by rw [h]⟩
 unfold b8 at h
 induction l generalizing m with
 | nil=>cases m with
  | nil=>rfl
  | cons=>simp at h
 | cons x l ih=>cases m with
  | nil=>simp at h
  | cons y m=>
   simp only [List.map_cons,List.cons.injEq] at h
   have h1:x=y:=by
    have:=congrArg UInt8.toNat h.1
    simp only [UInt8.toNat_ofNat'] at this
    have:=hl.head
    have:=hm.head
    omega
   rw [h1,ih hl.tail hm.tail h.2]
theorem AQ(l:List Nat):(b8 l).length=l.length:=by simp [b8]
theorem mG:∀ (l:List Nat),fo (u8s l)=some (b8 l)
 | []=>rfl
 | x::l=>by
  have:=mG l
  simp only [u8s,List.map_cons,fo] at this ⊢
  rw [this]
  simp [b8]
theorem Rq(l m:List UInt8):bZ .eql (.string ⟨l.toArray⟩) (.string ⟨m.toArray⟩)=some (.bool (l==m)):=by simp [bZ,DV]
theorem Rt(l m:List UInt8):bZ .neq (.string ⟨l.toArray⟩) (.string ⟨m.toArray⟩)=some (.bool (!(l==m))):=by simp [bZ,DV]
theorem Ru(l m:List UInt8):bZ .lss (.string ⟨l.toArray⟩) (.string ⟨m.toArray⟩)=some (.bool (pg l m)):=by simp [bZ,DV]
theorem Rv(l m:List UInt8):bZ .add (.string ⟨l.toArray⟩) (.string ⟨m.toArray⟩)=if l.length+m.length<=1099511627776 then some (.string ⟨(l++m).toArray⟩) else none:=by simp [bZ,DV,ByteArray.size]
theorem aa2{l m:List Nat}(hl:By l)(hm:By m):(b8 l==b8 m)=decide (l=m):=by
 rw [Bool.eq_iff_iff];simp [Zd hl hm]
def Low(n:Nat)(H:List Nat):Prop:=∀ t∈H,t < n
theorem Low.nil(n:Nat):Low n []:=fun t h=>by cases h
theorem Low.mono{n m:Nat}{H:List Nat}(h:Low n H)(k:n<=m):Low m H:=fun t ht=>Nat.lt_of_lt_of_le (h t ht) k
theorem Low.not{n i:Nat}{H:List Nat}(h:Low n H)(hi:n<=i):H.contains i=false:=by
 cases e:H.contains i with
 | false=>rfl
 | true=>have:=h i (by simpa using e);omega
theorem Low.kg{n:Nat}{H:List Nat}(h:Low n H):H.contains n=false:=h.not (Nat.le_refl _)
theorem Low.jB{n:Nat}{H:List Nat}(h:Low n H)(i:Nat):H.contains (n+i)=false:=h.not (by omega)
theorem gY{lo k i:Nat}{H:List Nat}(h:i < lo\/lo+k<=i):(List.range' lo k++H).contains i=H.contains i:=by
 rw [Bool.eq_iff_iff]
 simp only [List.contains_iff_mem,List.mem_append,List.mem_range'_1]
 constructor
 ·rintro (h1 | h1)
  ·omega
  ·exact h1
 ·exact .inr
structure Rd(σ:St)(v:Value)(l:List Nat):Prop where
 by_:By l
 form:(v=.slice none 0 0/\l=[])\/∃ b o g e pl cs,v=.slice (some ⟨b,o,some g⟩) l.length e/\(e=0\/e=1)/\σ.hid.contains b=false/\σ.heap[b]?=some (.cells g pl cs)/\o+l.length<=cs.length/\(cs.drop o).take l.length=u8s l
theorem Rd.len{σ:St}{v:Value}{l:List Nat}(h:Rd σ v l):∃ a e,v=.slice a l.length e:=by
 rcases h.form with ⟨rfl,rfl⟩ | ⟨b,o,g,e,pl,cs,rfl,_⟩
 ·exact ⟨none,0,rfl⟩
 ·exact ⟨_,_,rfl⟩
theorem Rd.str{σ:St}{v:Value}{l:List Nat}(h:Rd σ v l):σ.str v=some (b8 l):=by
 rcases h.form with ⟨rfl,rfl⟩ | ⟨b,o,g,e,pl,cs,rfl,_,hh,hb,hl,hc⟩
 ·rfl
 ·have:σ.blk ⟨b,o,some g⟩=some (pl,cs):=by unfold St.blk;rw [hh,hb];simp
  simp only [St.str,this,Option.bind_some,if_pos hl,hc,mG]
theorem Rd.more{σ τ:St}{v:Value}{l:List Nat}(h:Rd σ v l)(hp:∀ b x,σ.heap[b]?=some x->σ.hid.contains b=false->τ.heap[b]?=some x/\τ.hid.contains b=false):Rd τ v l:=by
 refine ⟨h.by_,?_⟩
 rcases h.form with h1 | ⟨b,o,g,e,pl,cs,h1,h2,h3,h4,h5⟩
 ·exact .inl h1
 ·obtain ⟨h6,h7⟩:=hp b _ h4 h3
  exact .inr ⟨b,o,g,e,pl,cs,h1,h2,h7,h6,h5⟩
theorem Rd.app{h nw:List Blk}{L L':Nat}{H d d':List Nat}{v:Value}{l:List Nat}(k:Rd ⟨h,L,H,d⟩ v l):Rd ⟨h++nw,L',H,d'⟩ v l:=
 k.more fun b x hx hh=>⟨by rw [List.getElem?_append_left (List.getElem?_eq_some_iff.1 hx).1];exact hx,hh⟩
theorem CS{cs:List Value}{o:Nat}{l:List Nat}(h:(cs.drop o).take l.length=u8s l){i:Nat}(hi:i < l.length):cs[o+i]?=some (.int .u8 (l[i]:Nat)):=by
 have:((cs.drop o).take l.length)[i]?=some (.int .u8 (l[i]:Nat)):=by rw [h,eo,List.getElem?_eq_getElem hi];rfl
 rw [List.getElem?_take,if_pos hi,List.getElem?_drop] at this
 exact this
theorem Rd.at_{σ:St}{a:Option Addr}{e:Nat}{l:List Nat}{n:Nat}(h:Rd σ (.slice a n e) l){i:Nat}(hi:i < l.length) :
  ∃ b o g pl cs,a=some ⟨b,o,some g⟩/\n=l.length/\σ.hid.contains b=false/\σ.heap[b]?=some (.cells g pl cs)/\cs[o+i]?=some (.int .u8 (l[i]:Nat)):=by
 rcases h.form with ⟨h1,rfl⟩ | ⟨b,o,g,e',pl,cs,h1,_,hh,hb,hl,hc⟩
 ·simp at hi
 ·cases h1
  exact ⟨b,o,g,pl,cs,rfl,rfl,hh,hb,CS hc hi⟩
theorem Rd.n_eq{σ:St}{a:Option Addr}{e:Nat}{l:List Nat}{n:Nat}(h:Rd σ (.slice a n e) l):n=l.length:=by
 rcases h.form with ⟨h1,rfl⟩ | ⟨b,o,g,e',pl,cs,h1,_⟩<;>cases h1<;>rfl
theorem Rd.news{σ:St}{v:Value}{l:List Nat}(h:Rd σ v l):σ.news 1 v=some (l.length,u8s l):=by
 rcases h.form with ⟨rfl,rfl⟩ | ⟨b,o,g,e,pl,cs,rfl,_,hh,hb,hl,hc⟩
 ·rfl
 ·have:σ.blk ⟨b,o,some g⟩=some (pl,cs):=by unfold St.blk;rw [hh,hb];simp
  simp only [St.news,this,Option.bind_some,Nat.mul_one,if_pos hl,hc]
def sl(k g:Nat):Option (List Nat)->Value
 | none=>.slice none 0 0
 | some l=>.slice (some ⟨k,0,some g⟩) l.length 1
theorem VC(k g:Nat)(o:Option (List Nat)):Y5 (sl k g o)=some (.int .i64 (o.getD []).length):=by cases o<;>rfl
theorem yh(l:List Nat):(u8s l).all sc=true:=by
 rw [List.all_eq_true];intro v hv;obtain ⟨x,_,rfl⟩:=List.mem_map.1 hv;rfl
theorem eB(l:List Nat):(u8s l).all aW=true:=by
 rw [List.all_eq_true];intro v hv;obtain ⟨x,_,rfl⟩:=List.mem_map.1 hv;rfl
theorem VD{hp nw:List Blk}{base:Nat}{v:Value}{L:Nat}{H:List Nat}(hb:hp.length=base)(hv:refs v=[]):gc base [v] ⟨hp++nw,L,H,[]⟩=some ([v],⟨hp,L,H,[]⟩):=by
 subst hb
 exact FC fun r hr=>by rw [hv] at hr;cases hr
theorem NY{hp nw:List Blk}{base:Nat}{fr:Fr}{L:Nat}{H:List Nat}(hb:hp.length=base)(hv:∀ p∈fr,∀ r∈refs p.2,r < base):gQ base fr ⟨hp++nw,L,H,[]⟩=some (fr,⟨hp,L,H,[]⟩):=by
 subst hb
 unfold gQ
 rw [KZ (fun v hv' r hr=>by
  obtain ⟨p,hp',rfl⟩:=List.mem_map.1 hv'
  exact hv p hp' r hr) rfl]
 simp only [Option.map_some]
 congr 2
 clear hv
 induction fr with
 | nil=>rfl
 | cons x fr ih=>simpa using ih
def gcY(h nw:List Blk)(v:Value)(L:Nat)(H:List Nat):Bool->Option (List Value×St)
 | true=>some ([v],⟨h,L,H,[]⟩)
 | false=>gc h.length [v] ⟨h++nw,L,H,[]⟩
theorem Jm(h nw:List Blk)(v:Value)(L:Nat)(H:List Nat):gc h.length [v] ⟨h++nw,L,H,[]⟩=gcY h nw v L H (refs v).isEmpty:=by
 cases e:(refs v).isEmpty with
 | false=>rfl
 | true=>exact VD rfl (List.isEmpty_iff.1 e)
theorem Rx(h nw:List Blk)(v:Value)(L:Nat)(H:List Nat):gcY h nw v L H true=some ([v],⟨h,L,H,[]⟩):=rfl
theorem Jn(h nw:List Blk)(i:Nat)(b:Blk)(v:Value)(L:Nat)(H:List Nat):gc h.length [v] ⟨h.set i b++nw,L,H,[]⟩=gcY (h.set i b) nw v L H (refs v).isEmpty:=by
 have:=Jm (h.set i b) nw v L H
 rwa [List.length_set] at this
theorem gA{h nw:List Blk}{v:Value}{L:Nat}{H:List Nat}(k:Nat){g:Nat}{cs:List Value}(hk:nw[k]?=some (.cells g true cs))(hv:∀ r∈refs v,r < h.length\/r=h.length+k)(hx:h.length+k∈refs v) :
  gcY h nw v L H false=some ([ren (AM.one h.length (h.length+k)) v],⟨h++[.cells g true cs],L,H,[]⟩):=by
 unfold gcY
 exact qt hk (fun v' h1 r h2=>by simp at h1;subst h1;exact hv r h2) ⟨v,by simp,hx⟩ rfl
theorem Rz{base:Nat} : AM.one base base base=base:=dD (k:=0)
def Fit(n L:Nat)(H:List Nat):Prop:=L<=n/\Low n H
theorem Fit.mono{n m L:Nat}{H:List Nat}(h:Fit n L H)(k:n<=m):Fit m L H:=⟨Nat.le_trans h.1 k,h.2.mono k⟩
theorem Fit.kg{n L:Nat}{H:List Nat}(h:Fit n L H):H.contains n=false:=h.2.kg
theorem Fit.jB{n L:Nat}{H:List Nat}(h:Fit n L H)(i:Nat):H.contains (n+i)=false:=h.2.jB i
theorem Fit.up0{n L:Nat}{H:List Nat}(h:Fit n L H):(n < L)=False:=eq_false (by have:=h.1;omega)
theorem Fit.up1{n L:Nat}{H:List Nat}(h:Fit n L H)(i:Nat):(n+i < L)=False:=eq_false (by have:=h.1;omega)
theorem Fit.all{n L:Nat}{H:List Nat}(h:Fit n L H):H.contains n=false/\(∀ i,H.contains (n+i)=false)/\(n < L)=False/\∀ i,(n+i < L)=False:=⟨h.kg,h.jB,h.up0,h.up1⟩
theorem Fit.draw{n m L L':Nat}{H:List Nat}(h:Fit n L H)(k:n<=m)(kl:L'<=m):Fit m L' H:=⟨kl,h.2.mono k⟩
theorem Fit.K0{n m L a:Nat}{H:List Nat}(h:Fit n L H)(k1:n<=m)(k2:a < m):Fit m L (a::H):=⟨Nat.le_trans h.1 k1,fun t ht=>by
 rcases List.mem_cons.1 ht with rfl | h1
 ·exact k2
 ·exact h.2.mono k1 t h1⟩
theorem Fit.Yi{n m L a b:Nat}{H:List Nat}(h:Fit n L H)(k1:n<=m)(k2:a < m)(k3:b < m):Fit m L (a::b::H):=(h.K0 k1 k3).K0 (Nat.le_refl _) k2
theorem lI{h nw:List Blk}{i:Nat}(hi:i < h.length):(h++nw)[i]?=h[i]?:=List.getElem?_append_left hi
theorem FD{h nw:List Blk}{i:Nat}{b:Blk}(hi:i < h.length):(h++nw).set i b=h.set i b++nw:=by rw [List.set_append_left _ _ hi]
theorem NZ(esz b o n e:Nat)(s:Option Nat)(k:IntKind)(i:Int):eA esz (.slice (some ⟨b,o,s⟩) n e) (some (.int k i)) none none=if e=0\/e=esz then (if 0<=i/\i<=n then some (.slice (some ⟨b,o+i.toNat*esz,s⟩) (n - i.toNat) e) else none) else mF esz ⟨b,o,s⟩ n e (some (.int k i)) none none:=by
 simp only [eA,eT,cr,Option.bind_some]
 split
 ·split<;>rfl
 ·rfl
theorem N0(esz b o n e:Nat)(s:Option Nat)(k:IntKind)(j:Int):eA esz (.slice (some ⟨b,o,s⟩) n e) none (some (.int k j)) none=if e=0\/e=esz then (if 0<=j/\j<=n then some (.slice (some ⟨b,o,s⟩) j.toNat e) else none) else mF esz ⟨b,o,s⟩ n e none (some (.int k j)) none:=by
 simp only [eA,eT,cr]
 split
 ·split
  ·simp
  ·rfl
 ·rfl
theorem FE(esz b o n e:Nat)(s:Option Nat)(k k':IntKind)(i j:Int):eA esz (.slice (some ⟨b,o,s⟩) n e) (some (.int k i)) (some (.int k' j)) none=if e=0\/e=esz then (if 0<=i/\i<=j/\j<=n then some (.slice (some ⟨b,o+i.toNat*esz,s⟩) (j.toNat - i.toNat) e) else none) else mF esz ⟨b,o,s⟩ n e (some (.int k i)) (some (.int k' j)) none:=by
 simp only [eA,eT,cr]
 split
 ·by_cases h1:0<=j/\j<=(n:Int)
  ·rw [if_pos h1]
   simp only [Option.bind_some]
   by_cases h2:0<=i/\i<=(j.toNat:Int)
   ·rw [if_pos h2,if_pos (by omega)];rfl
   ·rw [if_neg h2,if_neg (by omega)];rfl
  ·rw [if_neg h1,if_neg (by omega)];rfl
 ·rfl
theorem FF{hp:List Blk}{L:Nat}{H d:List Nat}{l:List Nat}(h0:l≠[])(hs:l.length<=1048576):St.append ⟨hp,L,H,d⟩ true 1 (.slice none 0 0) l.length (u8s l)=some (.slice (some ⟨hp.length,0,some l.length⟩) l.length 1,⟨hp++[.cells l.length true (u8s l)],L,H,d⟩):=by
 have h1:¬ l.length=0:=fun h=>h0 (List.eq_nil_of_length_eq_zero h)
 simp only [St.append]
 rw [if_neg h1,if_pos (by simp [small,yh,eB];omega)]
 simp
theorem jg{hp:List Blk}{L:Nat}{H d:List Nat}{vs:List Value}(pl:Bool)(esz:Nat):St.append ⟨hp,L,H,d⟩ pl esz (.slice none 0 0) 0 vs=some (.slice none 0 0,⟨hp,L,H,d⟩):=rfl
theorem dS{hp:List Blk}{b:Nat}{x:Blk}(h:hp[b]?=some x):hp.set b x=hp:=by
 obtain ⟨h1,rfl⟩:=List.getElem?_eq_some_iff.1 h
 exact List.set_getElem_self h1
theorem yj{hp:List Blk}{L b g:Nat}{H d:List Nat}{l0 l:List Nat}(hb:hp[b]?=some (.cells g true (u8s l0)))(hL:L<=b)(hh:H.contains b=false)(hs:l0.length+l.length<=1048576)(hg:g<=l0.length:=by first | exact Nat.zero_le _ | (simp;done) | omega) :
  St.append ⟨hp,L,H,d⟩ true 1 (.slice (some ⟨b,0,some g⟩) l0.length 1) l.length (u8s l) =
   some (.slice (some ⟨b,0,some (if l=[] then g else (l0++l).length)⟩) (l0++l).length 1,⟨hp.set b (.cells (if l=[] then g else (l0++l).length) true (u8s (l0++l))),L,H,d⟩):=by
 by_cases h0:l=[]
 ·subst h0
  simp only [St.append,List.length_nil,if_true,List.append_nil]
  rw [dS hb]
 ·have h1:¬ l.length=0:=fun h=>h0 (List.eq_nil_of_length_eq_zero h)
  have hk:St.blk ⟨hp,L,H,d⟩ ⟨b,0,some g⟩=some (true,u8s l0):=by unfold St.blk;simp only [hh,hb];simp
  simp only [St.append]
  rw [if_neg h1,if_neg (by simp;omega),hk]
  simp only [Option.bind_some]
  rw [if_pos (by simp [eB,yh]),if_pos (by simp [u8s]),if_pos (by simp [small,u8s];omega)]
  simp only [if_neg h0,bA,yh,Bool.true_or,if_true,HH,List.length_append,Nat.mul_one]
theorem FG{hp:List Blk}{L:Nat}{H d:List Nat}{l:List Nat}(hF:Fit hp.length L H)(hs:l.length<=1048576) :
  St.append ⟨hp++[.cells 0 true []],L,H,d⟩ true 1 (.slice (some ⟨hp.length,0,some 0⟩) 0 1) l.length (u8s l)=some (.slice (some ⟨hp.length,0,some l.length⟩) l.length 1,⟨hp++[.cells l.length true (u8s l)],L,H,d⟩):=by
 have h:=yj (hp:=hp++[.cells 0 true []]) (L:=L) (H:=H) (d:=d) (b:=hp.length) (g:=0) (l0:=[]) (l:=l) (by rw [bY];rfl) hF.1 hF.kg (by simpa using hs) (Nat.le_refl _)
 have e:(if l=[] then 0 else l.length)=l.length:=by split<;>simp_all
 simpa only [List.length_nil,List.nil_append,fL,e] using h
theorem FH{hp:List Blk}{L b:Nat}{H d:List Nat}{l0 l:List Nat}(hb:hp[b]?=some (.cells l0.length true (u8s l0)))(hL:L<=b)(hh:H.contains b=false)(hs:l0.length+l.length<=1048576) :
  St.append ⟨hp,L,H,d⟩ true 1 (.slice (some ⟨b,0,some l0.length⟩) l0.length 1) l.length (u8s l) =
   some (.slice (some ⟨b,0,some (l0++l).length⟩) (l0++l).length 1,⟨hp.set b (.cells (l0++l).length true (u8s (l0++l))),L,H,d⟩):=by
 have h:=yj (d:=d) hb hL hh hs (Nat.le_refl _)
 have e:(if l=[] then l0.length else (l0++l).length)=(l0++l).length:=by split<;>simp_all
 rwa [e] at h
theorem Jo(n:Nat):((n:Int)+1).toNat=n+1:=by omega
theorem FI{hp nw:List Blk}{fr:Fr}{L:Nat}{H:List Nat}(k:Nat)(hk:k<=nw.length)(hv:∀ p∈fr,∀ r∈refs p.2,r < hp.length+k):gQ (hp.length+k) fr ⟨hp++nw,L,H,[]⟩=some (fr,⟨hp++nw.take k,L,H,[]⟩):=by
 have e:hp++nw=(hp++nw.take k)++nw.drop k:=by rw [List.append_assoc,List.take_append_drop]
 rw [e]
 exact NY (by simp;omega) hv
def Yj(esz o m:Nat):Option (Bool×List Value)->Option (Nat×List Value)
 | some (_,cs)=>if o+m*esz<=cs.length then some (m,(cs.drop o).take (m*esz)) else none
 | none=>none
theorem Jp(esz o m:Nat)(pl:Bool)(cs:List Value):Yj esz o m (some (pl,cs))=if o+m*esz<=cs.length then some (m,(cs.drop o).take (m*esz)) else none:=rfl
theorem Jq(σ:St)(esz b o m e:Nat)(s:Option Nat):St.news σ esz (.slice (some ⟨b,o,s⟩) m e)=Yj esz o m (St.blk σ ⟨b,o,s⟩):=by
 simp only [St.news]
 cases St.blk σ ⟨b,o,s⟩<;>rfl
theorem N1(σ:St)(esz:Nat):St.news σ esz (.slice none 0 0)=some (0,[]):=rfl
def aa3(o n:Nat):Option (Bool×List Value)->Option (List UInt8)
 | some (_,cs)=>if o+n<=cs.length then fo ((cs.drop o).take n) else none
 | none=>none
theorem N2(o n:Nat)(pl:Bool)(cs:List Value):aa3 o n (some (pl,cs))=if o+n<=cs.length then fo ((cs.drop o).take n) else none:=rfl
theorem str_slice(σ:St)(b o n e:Nat)(s:Option Nat):St.str σ (.slice (some ⟨b,o,s⟩) n e)=aa3 o n (St.blk σ ⟨b,o,s⟩):=by
 simp only [St.str]
 cases St.blk σ ⟨b,o,s⟩<;>rfl
theorem RA(σ:St):St.str σ (.slice none 0 0)=some []:=rfl
theorem RB(l:List Nat):(u8s l).take l.length=u8s l:=List.take_of_length_le (by simp [u8s])
theorem N3{l m:List UInt8}(h:l.length+m.length<=1099511627776):bZ .add (.string ⟨l.toArray⟩) (.string ⟨m.toArray⟩)=some (.string ⟨(l++m).toArray⟩):=by rw [Rv,if_pos h]
theorem Rd.whole{hp:List Blk}{L b g e:Nat}{H d:List Nat}{pl:Bool}{l:List Nat}(h:hp[b]?=some (.cells g pl (u8s l)))(hh:H.contains b=false)(hb:By l)(he:e=0\/e=1):Rd ⟨hp,L,H,d⟩ (.slice (some ⟨b,0,some g⟩) l.length e) l:=
 ⟨hb,.inr ⟨b,0,g,e,pl,u8s l,rfl,he,hh,h,by simp [u8s],by rw [List.drop_zero,List.take_of_length_le (by simp [u8s])]⟩⟩
theorem Rd.refs{σ:St}{v:Value}{l:List Nat}(h:Rd σ v l):∀ r∈refs v,r < σ.heap.length:=by
 rcases h.form with ⟨rfl,rfl⟩ | ⟨b,o,g,e,pl,cs,rfl,_,hh,hb,_⟩
 ·simp [AM.refs,aT,aG]
 ·have:=(List.getElem?_eq_some_iff.1 hb).1
  simp [AM.refs,aT,aG];omega
end AM
end Go.Proofs.YtgdpefeomemllaaGreat
end
section
namespace Go.Proofs.YtgdpefeomemllaaGreat
namespace AM
open Go Go.RowKit
theorem RC(esz b o n e:Nat)(s:Option Nat)(k1 k2 k3:IntKind)(i j m:Int):eA esz (.slice (some ⟨b,o,s⟩) n e) (some (.int k1 i)) (some (.int k2 j)) (some (.int k3 m))=if e=0\/e=esz then (if 0<=i/\i<=j/\j<=m/\m<=n then some (.slice (some ⟨b,o+i.toNat*esz,s⟩) (j.toNat - i.toNat) 0) else none) else mF esz ⟨b,o,s⟩ n e (some (.int k1 i)) (some (.int k2 j)) (some (.int k3 m)):=by
 simp only [eA,eT,cr]
 split
 ·by_cases h1:0<=m/\m<=(n:Int)
  ·rw [if_pos h1]
   simp only [Option.bind_some]
   by_cases h2:0<=j/\j<=(m.toNat:Int)
   ·rw [if_pos h2]
    simp only [Option.bind_some]
    by_cases h3:0<=i/\i<=(j.toNat:Int)
    ·rw [if_pos h3,if_pos (by omega)];rfl
    ·rw [if_neg h3,if_neg (by omega)];rfl
   ·rw [if_neg h2,if_neg (by omega)];rfl
  ·rw [if_neg h1,if_neg (by omega)];rfl
 ·rfl
theorem vm{lo k i:Nat}(h:i < lo\/lo+k<=i):(List.range' lo k).contains i=false:=by
 have:=gY (H:=[]) h
 rw [List.append_nil] at this
 rw [this];rfl
theorem Fit.nil{n L:Nat}(h:L<=n):Fit n L []:=⟨h,Low.nil n⟩
theorem jh{σ:St}{pl:Bool}{esz n e:Nat}{a:Addr}{vs:List Value} : St.append σ pl esz (.slice (some a) n e) 0 vs=some (.slice (some a) n e,σ):=rfl
end AM
end Go.Proofs.YtgdpefeomemllaaGreat
end
section
namespace Go.Proofs.YtgdpefeomemllaaGreat
namespace AM
open Go Go.RowKit
def adk:=And.intro @Vj<|And.intro @Ir<|And.intro @M8<|And.intro @Na<|And.intro @E1<|And.intro @Nb<|And.intro @Iw<|And.intro @Nc<|And.intro @Vk<|And.intro @Qi<|And.intro @P7<|And.intro @E2<|And.intro @NN<|And.intro @NO<|And.intro @NP<|And.intro @Nd<|And.intro @Iz<|And.intro @P8<|And.intro @P9<|And.intro @Nf<|And.intro @Qa<|And.intro @Y2<|And.intro @Qb<|And.intro @Ng<|And.intro @Nh<|And.intro @Vl<|And.intro @Vm<|And.intro @Y3<|And.intro @Qc<|And.intro @Ni<|And.intro @IA<|And.intro @Nj<|And.intro @Nk<|And.intro @Nl<|And.intro @IB<|And.intro @Vn<|And.intro @Vo<|And.intro @Vp<|And.intro @Qd<|And.intro @Qe<|And.intro @Y4<|And.intro @Vq<|And.intro @Np<|And.intro @Nq<|And.intro @ID<|And.intro @IE<|And.intro @Qj<|And.intro @Nr<|And.intro @QT<|And.intro @AA<|And.intro @xN<|And.intro @xO<|And.intro @CA<|And.intro @Ns<|And.intro @IF<|And.intro @zU<|And.intro @IG<|And.intro @E3<|And.intro @II<|And.intro @Q6<|And.intro @Q7<|And.intro @Q8<|And.intro @I7<|And.intro @QZ<|And.intro @Fx<|And.intro @Jc<|And.intro @NH<|And.intro @Jd<|And.intro @NI<|And.intro @Q0<|And.intro @NJ<|And.intro @Jf<|And.intro @Je<|And.intro @NK<|And.intro @NL<|And.intro @NM<|And.intro @QX<|And.intro @Vx<|And.intro @Jm<|And.intro @Jn<|And.intro @Rx<|And.intro @w64<|And.intro @wu8<|And.intro @adi<|And.intro @Zb<|And.intro @zR<|And.intro @Qk<|And.intro @Ql<|And.intro @NU<|And.intro @NV<|And.intro @Jk<|And.intro @Fz<|And.intro @FA<|And.intro @Jl<|And.intro @Q2<|And.intro @Q3<|And.intro @Q4<|And.intro @Qm<|And.intro @Qr<|And.intro @Qs<|And.intro @FB<|And.intro @NQ<|And.intro @NR<|And.intro @NS<|And.intro @NT<|And.intro @Jg<|And.intro @CQ<|And.intro @yd<|And.intro @Re<|And.intro @Rf<|And.intro @Rg<|And.intro @Rh<|And.intro @Vy<|And.intro @Jh<|And.intro @Fy<|And.intro @Y9<|And.intro @Ri<|And.intro @Vz<|And.intro @QB<|And.intro @QC<|And.intro @Nw<|And.intro @QE<|And.intro @Vv<|And.intro @NA<|And.intro @Nz<|And.intro @QD<|And.intro @IV<|And.intro @jZ<|And.intro @Rj<|And.intro @Rk<|And.intro @NF<|And.intro @QW<|And.intro @Ja<|And.intro @Jb<|And.intro @Nt<|And.intro @gE<|And.intro @jf<|And.intro @AE<|And.intro @Ra<|And.intro @Rb<|And.intro @Rc<|And.intro @xY<|And.intro @uI<|And.intro @uJ<|And.intro @E4<|And.intro @Qp<|@E5
def adl:=And.intro @KL<|And.intro @E6<|And.intro @AF<|And.intro @AH<|And.intro @KN<|And.intro @Qv<|And.intro @Fb<|And.intro @KO<|And.intro @Fc<|And.intro @Qw<|And.intro @AI<|And.intro @AJ<|And.intro @KP<|And.intro @AK<|And.intro @ya<|And.intro @KQ<|And.intro @Fe<|And.intro @Nv<|And.intro @Y7<|And.intro @Qz<|And.intro @AL<|And.intro @IS<|And.intro @IT<|And.intro @Nx<|And.intro @Vu<|And.intro @IU<|And.intro @QF<|And.intro @QJ<|And.intro @QI<|And.intro @IY<|And.intro @IZ<|And.intro @Fk<|And.intro @QK<|And.intro @NB<|And.intro @I2<|And.intro @Fm<|And.intro @I3<|And.intro @QM<|And.intro @NC<|And.intro @IK<|And.intro @E7<|And.intro @oR<|And.intro @IL<|And.intro @Nu<|And.intro @IM<|And.intro @x8<|And.intro @uK<|And.intro @rG<|And.intro @AG<|And.intro @IP<|And.intro @x9<|And.intro @Ff<|And.intro @CF<|And.intro @Qx<|And.intro @Vr<|And.intro @Vs<|And.intro @Vt<|And.intro @IQ<|And.intro @Fg<|And.intro @CG<|And.intro @CH<|And.intro @Ny<|And.intro @CI<|And.intro @zV<|And.intro @IW<|And.intro @IX<|And.intro @Fi<|And.intro @zW<|And.intro @I0<|And.intro @Fl<|And.intro @CK<|And.intro @Ct<|And.intro @rE<|And.intro @P6<|And.intro @Is<|And.intro @Cu<|And.intro @M9<|And.intro @It<|And.intro @zS<|And.intro @zT<|And.intro @E0<|And.intro @CL<|And.intro @I1<|And.intro @I6<|And.intro @I4<|And.intro @I5<|And.intro @CM<|And.intro @Fp<|And.intro @Ft<|And.intro @yc<|And.intro @QO<|And.intro @write_eq<|And.intro @Fu<|And.intro @EK<|And.intro @EL<|And.intro @EM<|And.intro @EN<|And.intro @EO<|And.intro @EP<|And.intro @ER<|And.intro @ES<|And.intro @ET<|And.intro @xV<|And.intro @xW<|And.intro @EU<|And.intro @EV<|And.intro @NW<|And.intro @Rp<|And.intro @NX<|And.intro @Vi<|And.intro @Rq<|And.intro @Rt<|And.intro @Ru<|And.intro @Rl<|And.intro @Rm<|And.intro @Rn<|And.intro @VA<|And.intro @b7<|And.intro @bY<|And.intro @CO<|And.intro @fL<|And.intro @lI<|And.intro @FD<|And.intro @gY<|And.intro @vm<|And.intro @NZ<|And.intro @N0<|And.intro @FE<|And.intro @VC<|And.intro @jg<|And.intro @str_slice<|And.intro @N2<|And.intro @RA<|And.intro @RB<|And.intro @mG<|And.intro @aq<|And.intro @AQ<|And.intro @N3<|And.intro @Jq<|And.intro @Jp<|And.intro @N1<|And.intro @Jo<|And.intro @CP<|And.intro @ND<|And.intro @I9<|And.intro @Fv<|@NG
def syA:=And.intro adk adl
def syB:=And.intro @List.isEmpty_nil.{0}<|And.intro @List.isEmpty_cons.{0}<|And.intro @List.nil_append.{0}<|And.intro @Option.isNone_none.{0}<|And.intro @Option.isNone_some.{0}<|And.intro @Option.getD_some.{0}<|And.intro @Option.getD_none.{0}<|And.intro @decide_true<|And.intro @decide_false<|And.intro @decide_eq_true_eq<|And.intro @decide_eq_false_iff_not<|And.intro @decide_not<|And.intro @Bool.not_true<|And.intro @Bool.not_false<|And.intro @Bool.not_not<|And.intro @Bool.not_eq_true'<|And.intro @Bool.and_true<|And.intro @Bool.true_and<|And.intro @Bool.and_false<|And.intro @Bool.false_and<|And.intro @Bool.and_self<|And.intro @Bool.or_true<|And.intro @Bool.true_or<|And.intro @Bool.or_false<|And.intro @Bool.false_or<|And.intro @Bool.or_self<|And.intro @Bool.false_eq_true<|And.intro @Bool.and_eq_true<|And.intro @Bool.or_eq_true<|And.intro @and_true<|And.intro @true_and<|And.intro @and_false<|And.intro @false_and<|And.intro @or_true<|And.intro @true_or<|And.intro @or_false<|And.intro @false_or<|And.intro @not_true_eq_false<|And.intro @not_false_eq_true<|And.intro @Option.map_some.{0,0}<|And.intro @Option.map_none.{0,0}<|And.intro @Option.bind_some.{0,0}<|And.intro @Option.bind_none.{0,0}<|And.intro @Nat.testBit_eq_decide_div_mod_eq<|And.intro @Nat.zero_add<|And.intro @Nat.add_zero<|And.intro @Nat.sub_self<|And.intro @Nat.le_refl<|And.intro @Nat.lt_irrefl<|And.intro @Nat.mul_one<|And.intro @Int.mul_one<|And.intro @Int.one_mul<|And.intro @Int.sub_zero<|And.intro @Int.add_zero<|And.intro @Int.zero_add<|And.intro @beq_iff_eq.{0}<|And.intro @bne_iff_ne.{0}<|And.intro @bne_self_eq_false.{0}<|And.intro @bne_eq_false_iff_eq.{0}<|And.intro @beq_eq_false_iff_ne.{0}<|And.intro @ne_eq.{1}<|And.intro @beq_self_eq_true.{0}<|And.intro @List.all_cons.{0}<|And.intro @List.all_nil.{0}<|And.intro @List.flatMap_cons.{0,0}<|And.intro @List.flatMap_nil.{0,0}<|And.intro @List.append_nil.{0}<|And.intro @List.append_assoc.{0}<|And.intro @List.cons_append.{0}<|And.intro @List.length_append.{0}<|And.intro @List.length_set.{0}<|And.intro @Int.cast_ofNat_Int<|And.intro @List.length_cons.{0}<|And.intro @List.length_nil.{0}<|And.intro @List.getElem?_cons_zero.{0}<|And.intro @List.getElem?_cons_succ.{0}<|And.intro @List.set_cons_zero.{0}<|And.intro @List.set_cons_succ.{0}<|And.intro @List.take_succ_cons.{0}<|And.intro @List.take_zero.{0}<|And.intro @List.drop_zero.{0}<|And.intro @List.drop_succ_cons.{0}<|And.intro @List.contains_nil.{0}<|And.intro @Int.toNat_natCast<|And.intro @Int.lt_irrefl<|And.intro @Nat.min_eq_left<|@Nat.min_eq_right
theorem dis{p:Prop}(h:p:=by first | omega | (simp only [lnE]<;>omega) | (refine Fit.mono ‹Fit _ _ _› ?_<;>(simp only [lnE]<;>omega)) | (refine Fit.draw ‹Fit _ _ _› ?_ ?_<;>(simp only [lnE]<;>omega)) | (refine Fit.hid1 ‹Fit _ _ _› ?_ ?_<;>(simp only [lnE]<;>omega)) | (refine Fit.K0 ‹Fit _ _ _› ?_ ?_<;>(simp only [lnE]<;>omega)) | (refine Fit.Yi ‹Fit _ _ _› ?_ ?_ ?_<;>(simp only [lnE]<;>omega)) | (refine Fit.draw1 ‹Fit _ _ _› ?_ ?_ ?_<;>(simp only [lnE]<;>omega)) | (refine Fit.range0 ?_ ?_<;>(simp only [lnE]<;>omega)) | (intros;contradiction) | (intros;rename_i hx;injection hx;contradiction)):p:=h
def syC:=And.intro @cj.eq_1<|And.intro @cj.eq_2<|And.intro @bE.eq_1<|And.intro @eqF.eq_1<|And.intro @aeq.eq_1<|And.intro @aeq.eq_2<|And.intro @aeq.eq_3<|And.intro @aeq.eq_4<|And.intro @aeq.eq_5<|And.intro @aeq.eq_6<|And.intro @aeq.eq_7<|And.intro @aeq.eq_8<|And.intro @aeq.eq_9<|And.intro @aeq.eq_10<|And.intro @aeq.eq_11<|And.intro @aeq.eq_12<|And.intro @aeq.eq_13<|And.intro @bD.eq_1<|And.intro @bD.eq_2<|And.intro @bD.eq_3<|And.intro @jk.eq_1<|And.intro @jk.eq_2<|And.intro @jk.eq_3<|And.intro @jk.eq_4<|And.intro @bO.eq_1<|And.intro @bO.eq_2<|And.intro @cellsOf.eq_1<|And.intro @cellsOf.eq_2<|And.intro @fill.eq_1<|And.intro @fill.eq_2<|And.intro @putAt.eq_1<|And.intro @putAt.eq_2<|And.intro @aW.eq_1<|And.intro @aW.eq_2<|And.intro @aW.eq_3<|And.intro @aW.eq_4<|And.intro @aW.eq_5<|And.intro @sc.eq_1<|And.intro @sc.eq_2<|And.intro @sc.eq_3<|And.intro @sc.eq_4<|And.intro @sc.eq_5<|And.intro @sc.eq_6<|And.intro @sc.eq_7<|And.intro @sc.eq_8<|And.intro @sc.eq_9<|And.intro @sc.eq_10<|And.intro @sc.eq_11<|And.intro @Ae.eq_1<|And.intro @Ae.eq_2<|And.intro @refs.eq_1<|And.intro @refs.eq_2<|And.intro @aT.eq_1<|And.intro @aT.eq_2<|And.intro @aT.eq_3<|And.intro @aG.eq_1<|And.intro @aG.eq_2<|And.intro @aG.eq_3<|And.intro @aG.eq_4<|@aG.eq_5
theorem FJ:([]:List Blk).length=0:=rfl
def lnE:=And.intro (@List.length_append Blk)<|And.intro (@List.length_cons Blk)<|And.intro FJ<|And.intro (@List.length_set Blk)<|And.intro @AQ<|And.intro @aq<|And.intro (@List.length_set Nat)<|And.intro (@List.length_append Nat)<|And.intro (@List.length_append UInt8)<|And.intro (@List.length_cons Nat)<|And.intro @Qg<|And.intro @Nn<|And.intro @IC<|And.intro @Qh<|And.intro @No<|And.intro @Qf<|And.intro @Nm<|And.intro @or_false<|And.intro (@eq_self.{1} Nat)<|And.intro @or_true<|And.intro @true_or @and_true
end AM
end Go.Proofs.YtgdpefeomemllaaGreat
end
namespace Go.Proofs.YtgdpefeomemllaaGreat
namespace af
open Go AM
abbrev T(n:Nat):Operand:=.tmp n
abbrev C(v:Value):Operand:=.const v
abbrev Ki(n:Int):Operand:=.const (.int .i64 n)
abbrev Kb(b:Bool):Operand:=.const (.bool b)
abbrev D(d:Nat)(o:AOp):au:=⟨some d,none,0,true,o⟩
abbrev Mv(d x:Nat):au:=⟨some d,none,0,true,.mv (.tmp x)⟩
abbrev Gd(d g:Nat)(b:Bool)(o:AOp):au:=⟨some d,some (g,b),0,true,o⟩
abbrev E(o:AOp):au:=⟨none,none,0,true,o⟩
abbrev Fq(d b:Nat)(o:AOp):au:=⟨some d,none,b,false,o⟩
abbrev Gq(d g:Nat)(w:Bool)(b:Nat)(o:AOp):au:=⟨some d,some (g,w),b,false,o⟩
def sy:=And.intro @Fq.eq_1<|And.intro @Gq.eq_1<|And.intro syA<|And.intro syB<|And.intro syC<|And.intro @Mv.eq_1<|And.intro @Gd.eq_1<|And.intro @Ki.eq_1<|And.intro @Kb.eq_1<|And.intro @D.eq_1<|And.intro @E.eq_1<|And.intro @T.eq_1<|@C.eq_1
noncomputable def cfn(f:Func):AFn:=(aE Tryz.prog f).getD ⟨.skip,[]⟩
theorem aj{f:Func}(h:(aE Tryz.prog f).isSome=true:=by kernel_rfl):aE Tryz.prog f=some (cfn f):=by
 unfold cfn
 cases e:aE Tryz.prog f with
 | none=>rw [e] at h;cases h
 | some x=>rfl
theorem ek {l : List (Nat × AFn)} {i : Nat} {fn : AFn} {f : Func} (h1 : Tryz.prog.funcs[i]? = some f) (h3 : aE Tryz.prog f = some fn) (h : nS Tryz.prog (.base l)) (h2 : f.name ≠ "runtime.NumGoroutine" := by exact of_decide_eq_true (by kernel_rfl)) : nS Tryz.prog (.base ((i, fn) :: l)) := nS.cons h1 h3 h2 h
end af
namespace af
open Go AM
def Ze:aC:=(.block 3 (.seq (.region [
 Mv 55 12,
 D 56 (.call 46 [(T 55)]),
 Mv 16 56])
 (.seq (.region [
 Mv 58 12,
 D 59 (.call 47 [(T 58)]),
 Mv 57 59,
 D 60 (.ext (T 57) 0),
 D 61 (.ext (T 57) 1),
 D 62 (.ext (T 57) 2),
 Mv 17 60,
 Mv 18 61,
 Mv 19 62])
 (.seq (.region [
 Mv 64 3,
 Mv 65 12,
 D 66 (.call 49 [(T 65)]),
 D 67 (.call 48 [(T 64),(T 66)]),
 Mv 63 67,
 D 68 (.ext (T 63) 0),
 D 69 (.ext (T 63) 1),
 Mv 20 68,
 Mv 21 69])
 (.seq (.seq (.region [
 Mv 70 12,
 D 71 (.call 50 [(T 70)]),
 Mv 72 1,
 D 73 (.bin .gtr (T 71) (T 72)),
 Mv 74 73,
 Gd 75 74 false (.mv (T 21)),
 Gd 76 74 false (.bin .eql (T 75) (Ki 0)),
 Gd 77 74 false (.mv (T 76)),
 Gd 78 77 true (.mv (T 12)),
 Gd 79 77 true (.call 46 [(T 78)]),
 Gd 80 77 true (.mv (T 16)),
 Gd 81 77 true (.bin .sub (T 79) (T 80)),
 Gd 82 77 true (.mv (T 20)),
 Gd 83 77 true (.bin .gtr (T 81) (T 82)),
 Gd 84 74 false (.pick (T 77) (T 83) (Kb false)),
 D 85 (.pick (T 74) (Kb true) (T 84))])
 (.cond (T 85)
 (.seq (.region [
 D 8 (.mv (C (.slice none 0 0))),
 D 9 (.mv (C (.int .u8 0))),
 D 10 (.mv (Ki 0)),
 D 11 (.mv (Kb false))])
 .ret)
 .skip))
 (.seq (.seq (.region [
 Mv 86 18,
 D 87 (.bin .eql (T 86) (C (.int .u8 1)))])
 (.cond (T 87)
 (.seq (.region [
 Mv 88 14,
 Mv 89 17,
 D 90 (.bS true 1 1 [(.int .u8 0)] [(0,1,(T 89))]),
 D 91 (.append true 1 (T 88) (T 90)),
 Mv 14 91])
 (.exit 3))
 .skip))
 (.seq (.seq (.region [
 Mv 92 18,
 D 93 (.bin .neq (T 92) (C (.int .u8 2))),
 Mv 94 93,
 Gd 95 94 false (.mv (T 15)),
 Gd 96 94 false (.mv (T 0)),
 Gd 97 94 false (.len (T 96)),
 Gd 98 94 false (.bin .geq (T 95) (T 97)),
 D 99 (.pick (T 94) (Kb true) (T 98))])
 (.cond (T 99)
 (.seq (.region [
 Mv 100 14,
 Mv 101 18,
 Mv 102 19,
 Mv 103 18,
 D 104 (.bin .neq (T 103) (C (.int .u8 2))),
 Mv 8 100,
 Mv 9 101,
 Mv 10 102,
 Mv 11 104])
 .ret)
 .skip))
 (.exit 2))))))))
def ld:aC:=(.seq (.block 1 (.seq (.seq (.region [
 Mv 37 15,
 Mv 38 0,
 D 39 (.len (T 38)),
 D 40 (.bin .lss (T 37) (T 39))])
 (.cond (T 40)
 (.region [
 Mv 41 12,
 Mv 42 0,
 Mv 43 15,
 Mv 44 15,
 Mv 45 2,
 D 46 (.bin .add (T 44) (T 45)),
 Mv 47 0,
 D 48 (.len (T 47)),
 D 49 (.mm false [(T 46),(T 48)]),
 D 50 (.slice 1 (T 42) (some (T 43)) (some (T 49)) none),
 D 51 (.bS false 1 1 [(.slice none 0 0)] [(0,1,(T 50))]),
 D 52 (.call 44 [(T 41),(T 51)])])
 (.region [
 Mv 53 12,
 D 54 (.call 45 [(T 53)])])))
 (.block 2 (.loop [15,2,0,12,1,3,14] Ze))))
 (.region [
 Mv 34 15,
 Mv 35 2,
 D 36 (.bin .add (T 34) (T 35)),
 Mv 15 36]))
def FK:AFn:=⟨(.seq (.region [
 D 8 (.mv (C (.slice none 0 0))),
 D 9 (.mv (C (.int .u8 0))),
 D 10 (.mv (Ki 0)),
 D 11 (.mv (Kb false))])
 (.seq (.region [
 Mv 23 1,
 D 24 (.call 43 [(T 23)]),
 Mv 22 24,
 D 25 (.ext (T 22) 0),
 D 26 (.ext (T 22) 1),
 Mv 12 25,
 Mv 13 26])
 (.seq (.seq (.region [
 Mv 27 13,
 D 28 (.bin .neq (T 27) (Ki 0)),
 Mv 29 28,
 Gd 30 29 false (.mv (T 12)),
 Gd 31 29 false (.eqs false .ptr (T 30) (C (.pointer none))),
 D 32 (.pick (T 29) (Kb true) (T 31))])
 (.cond (T 32)
 (.seq (.region [
 Mv 33 13,
 D 8 (.mv (C (.slice none 0 0))),
 D 9 (.mv (C (.int .u8 0))),
 Mv 10 33,
 D 11 (.mv (Kb false))])
 .ret)
 .skip))
 (.seq (.region [
 D 14 (.mv (C (.slice none 0 0)))])
 (.seq (.region [
 D 15 (.mv (Ki 0))])
 (.block 0 (.loop [15,2,0,12,1,3,14] ld))))))),[.tmp 8,.tmp 9,.tmp 10,.tmp 11]⟩
theorem VE:aE Tryz.prog Tryz.f13=some FK:=by kernel_rfl
def ym:aC:=(.seq (.region [
 D 10 (.bin .lss (T 9) (T 8))])
 (.seq (.cond (T 10)
 .skip
 (.exit 0))
 (.seq (.block 1 (.seq (.region [
 Mv 11 9,
 D 12 (.aI 1 (T 7) (T 9)),
 D 13 (.load none (T 12)),
 Mv 4 11,
 Mv 5 13])
 (.seq (.seq (.region [
 Mv 14 5,
 D 15 (.bin .eql (T 14) (Ki 0))])
 (.cond (T 15)
 (.seq (.region [
 Mv 16 4,
 Mv 3 16])
 (.exit 1))
 .skip))
 (.region [
 Mv 17 2,
 Mv 18 0,
 Mv 19 5,
 D 20 (.bin .sub (T 19) (Ki 1)),
 D 21 (.aI 1 (T 18) (T 20)),
 D 22 (.load none (T 21)),
 D 23 (.bS true 1 1 [(.int .u8 0)] [(0,1,(T 22))]),
 D 24 (.append true 1 (T 17) (T 23)),
 Mv 2 24]))))
 (.region [
 D 25 (.bin .add (T 9) (Ki 1)),
 Mv 9 25]))))
def VF:AFn:=⟨(.seq (.region [
 D 2 (.mv (C (.slice none 0 0))),
 D 3 (.mv (Ki 0))])
 (.seq (.seq (.region [
 Mv 6 0,
 D 7 (.call 53 [(T 6)]),
 D 8 (.len (T 7)),
 D 9 (.mv (Ki 0))])
 (.block 0 (.loop [3,9,8,7,0,2] ym)))
 (.seq (.region [
 Mv 26 2,
 Mv 27 3,
 Mv 2 26,
 Mv 3 27])
 .ret))),[.tmp 2,.tmp 3]⟩
theorem VG:aE Tryz.prog Tryz.f15=some VF:=by kernel_rfl
def VH:AFn:=⟨(.seq (.region [
 D 2 (.mv (C (.slice none 0 0)))])
 (.seq (.region [
 Mv 6 0,
 D 7 (.call 23 [(T 6)]),
 Mv 5 7,
 D 8 (.ext (T 5) 0),
 D 9 (.ext (T 5) 1),
 Mv 3 8,
 Mv 4 9])
 (.seq (.region [
 Mv 10 3,
 D 11 (.call 26 [(T 10)]),
 Mv 2 11])
 .ret))),[.tmp 2]⟩
theorem VI:aE Tryz.prog Tryz.f18=some VH:=by kernel_rfl
def Zf:aC:=(.seq (.region [
 D 87 (.bin .lss (T 86) (T 85))])
 (.seq (.cond (T 87)
 .skip
 (.exit 4))
 (.seq (.block 5 (.seq (.region [
 D 88 (.aI 2 (T 84) (T 86)),
 D 89 (.load (some 2) (T 88)),
 D 13 (.alloc true [(.int .i64 0),(.bool false)]),
 E (.store 2 (T 13) (T 89))])
 (.seq (.region [
 D 90 (.aD 1 (T 13)),
 D 91 (.load none (T 90))])
 (.cond (T 91)
 (.seq (.region [
 Mv 92 6,
 Mv 93 11,
 D 94 (.aI 1 (T 92) (T 93)),
 D 95 (.load none (T 94)),
 D 96 (.cT 1 258 (T 4) (T 95)),
 D 97 (.load none (T 96)),
 D 98 (.bin .add (T 97) (C (.int .u8 1))),
 D 99 (.cT 1 258 (T 4) (T 95)),
 E (.store 1 (T 99) (T 98))])
 (.region [
 Mv 100 11,
 D 101 (.bin .add (T 100) (Ki 1)),
 Mv 11 101]))
 .skip))))
 (.region [
 D 102 (.bin .add (T 86) (Ki 1)),
 Mv 86 102]))))
def Zg:aC:=(.seq (.seq (.region [
 Mv 71 10,
 D 72 (.bin .geq (T 71) (Ki 0)),
 Mv 73 72,
 Gd 74 73 true (.mv (T 9)),
 Gd 75 73 true (.bin .gtr (T 74) (Ki 0)),
 D 76 (.pick (T 73) (T 75) (Kb false))])
 (.cond (T 76)
 .skip
 (.exit 2)))
 (.seq (.block 3 (.seq (.region [
 D 11 (.mv (Ki 0))])
 (.seq (.seq (.region [
 Mv 79 7,
 Mv 80 10,
 D 81 (.aI 1 (T 79) (T 80)),
 D 82 (.load none (T 81)),
 Mv 83 9,
 D 84 (.slice 2 (T 82) none (some (T 83)) none),
 D 85 (.len (T 84)),
 D 86 (.mv (Ki 0))])
 (.block 4 (.loop [11,86,85,7,10,9,84,6,4] Zf)))
 (.region [
 Mv 103 9,
 Mv 104 11,
 D 105 (.bin .sub (T 103) (T 104)),
 D 106 (.bin .mul (Ki 2) (T 105)),
 Mv 9 106]))))
 (.region [
 Mv 77 10,
 D 78 (.bin .sub (T 77) (Ki 1)),
 Mv 10 78])))
def Zh:aC:=(.seq (.seq (.region [
 Mv 48 8,
 Mv 49 1,
 D 50 (.bin .lss (T 48) (T 49))])
 (.cond (T 50)
 .skip
 (.exit 0)))
 (.seq (.block 1 (.drawn [
 Fq 53 0 (.mv (T 7)),
 Fq 54 0 (.mv (T 7)),
 Fq 55 2 (.aI 1 (T 54) (Ki 0)),
 Fq 56 6 (.load none (T 55)),
 Fq 57 0 (.mv (T 7)),
 Fq 58 0 (.mv (T 8)),
 Fq 59 32 (.bin .sub (T 58) (Ki 1)),
 Fq 60 112 (.aI 1 (T 57) (T 59)),
 Fq 61 240 (.load none (T 60)),
 ⟨(some 62),none,510,true,.call 65 [(T 56),(T 61)]⟩,
 Fq 63 1022 (.bS false 1 1 [(.slice none 0 0)] [(0,1,(T 62))]),
 ⟨(some 64),none,2047,true,.append false 1 (T 53) (T 63)⟩,
 Fq 7 4095 (.mv (T 64))]))
 (.region [
 Mv 51 8,
 D 52 (.bin .add (T 51) (Ki 1)),
 Mv 8 52])))
def Zi:AFn:=⟨(.seq (.region [
 D 2 (.box true (T 0)),
 D 4 (.alloc true (List.replicate 258 (.int .u8 0))),
 D 5 (.mv (Ki 0))])
 (.seq (.region [
 D 14 (.load (some 258) (T 2)),
 D 15 (.call 62 [(T 14)]),
 Mv 6 15])
 (.seq (.seq (.region [
 D 16 (.load (some 258) (T 2)),
 D 17 (.call 63 [(T 16)]),
 D 18 (.un .not (T 17)),
 Mv 19 18,
 Gd 20 19 false (.mv (T 1)),
 Gd 21 19 false (.bin .lss (T 20) (Ki 1)),
 D 22 (.pick (T 19) (Kb true) (T 21)),
 Mv 23 22,
 Gd 24 23 false (.mv (T 1)),
 Gd 25 23 false (.bin .gtr (T 24) (Ki 15)),
 D 26 (.pick (T 23) (Kb true) (T 25)),
 Mv 27 26,
 Gd 28 27 false (.mv (T 6)),
 Gd 29 27 false (.len (T 28)),
 Gd 30 27 false (.mv (T 1)),
 Gd 31 27 false (.conv .u64 (T 30)),
 Gd 32 27 false (.bin .shl (Ki 1) (T 31)),
 Gd 33 27 false (.bin .gtr (T 29) (T 32)),
 D 34 (.pick (T 27) (Kb true) (T 33))])
 (.cond (T 34)
 (.seq (.region [
 D 35 (.load (some 258) (T 4)),
 E (.store 258 (T 4) (T 35)),
 D 5 (.mv (Ki 2))])
 .ret)
 .skip))
 (.seq (.seq (.region [
 Mv 36 6,
 D 37 (.len (T 36)),
 D 38 (.bin .eql (T 37) (Ki 1))])
 (.cond (T 38)
 (.seq (.region [
 Mv 39 6,
 D 40 (.aI 1 (T 39) (Ki 0)),
 D 41 (.load none (T 40)),
 D 42 (.cT 1 258 (T 4) (T 41)),
 E (.store 1 (T 42) (C (.int .u8 1)))])
 (.seq (.region [
 D 43 (.load (some 258) (T 4)),
 E (.store 258 (T 4) (T 43)),
 D 5 (.mv (Ki 0))])
 .ret))
 .skip))
 (.seq (.region [
 D 44 (.load (some 258) (T 2)),
 Mv 45 6,
 D 46 (.call 64 [(T 44),(T 45)]),
 D 47 (.bS false 1 1 [(.slice none 0 0)] [(0,1,(T 46))]),
 Mv 7 47])
 (.seq (.seq (.region [
 D 8 (.mv (Ki 1))])
 (.block 0 (.loop [7,8,4,6,1] Zh)))
 (.seq (.region [
 Mv 65 6,
 D 66 (.len (T 65)),
 D 67 (.bin .mul (Ki 2) (T 66)),
 D 68 (.bin .sub (T 67) (Ki 2)),
 Mv 9 68])
 (.seq (.seq (.region [
 Mv 69 1,
 D 70 (.bin .sub (T 69) (Ki 1)),
 Mv 10 70])
 (.block 2 (.loop [7,10,9,6,4] Zg)))
 (.seq (.region [
 D 107 (.load (some 258) (T 4)),
 E (.store 258 (T 4) (T 107)),
 D 5 (.mv (Ki 0))])
 .ret))))))))),[.cell 4 (some 258),.tmp 5]⟩
theorem VJ:aE Tryz.prog Tryz.f20=some Zi:=by kernel_rfl
def VK:AFn:=⟨(.seq (.region [
 D 2 (.mv (C (.slice none 0 0))),
 D 3 (.mv (Ki 0))])
 (.seq (.region [
 Mv 4 0,
 D 5 (.call 68 [(T 4)]),
 D 6 (.call 15 [(T 5)]),
 D 7 (.ext (T 6) 0),
 D 8 (.ext (T 6) 1),
 Mv 2 7,
 Mv 3 8])
 .ret)),[.tmp 2,.tmp 3]⟩
theorem VL:aE Tryz.prog Tryz.f23=some VK:=by kernel_rfl
def iK:aC:=(.seq (.region [
 D 25 (.bin .lss (T 24) (T 23))])
 (.seq (.cond (T 25)
 .skip
 (.exit 0))
 (.seq (.block 1 (.seq (.region [
 Mv 26 24,
 D 27 (.aI 1 (T 22) (T 24)),
 D 28 (.load none (T 27)),
 Mv 8 26,
 Mv 9 28])
 (.seq (.region [
 D 30 (.load (some 260) (T 7)),
 Mv 31 9,
 D 32 (.call 70 [(T 30),(T 31)]),
 Mv 29 32,
 D 33 (.ext (T 29) 0),
 D 34 (.ext (T 29) 1),
 D 35 (.ext (T 29) 2),
 D 36 (.ext (T 29) 3),
 D 10 (.alloc true (List.replicate 256 (.int .u8 0)++[(.int .i64 0),(.int .i64 0),(.int .i64 0),(.bool false)])),
 E (.store 260 (T 10) (T 33)),
 Mv 11 34,
 Mv 12 35,
 Mv 13 36])
 (.seq (.seq (.region [
 Mv 37 13,
 D 38 (.bin .neq (T 37) (Ki 0))])
 (.cond (T 38)
 (.seq (.region [
 Mv 39 13,
 D 4 (.mv (C (.slice none 0 0))),
 D 5 (.mv (Ki 0)),
 Mv 6 39])
 .ret)
 .skip))
 (.seq (.seq (.region [
 Mv 40 4,
 Mv 41 11,
 D 42 (.append true 1 (T 40) (T 41)),
 Mv 4 42])
 (.seq (.region [
 Mv 43 12])
 (.cond (T 43)
 (.seq (.region [
 Mv 44 4,
 Mv 45 8,
 D 46 (.bin .add (T 45) (Ki 1)),
 Mv 4 44,
 Mv 5 46,
 D 6 (.mv (Ki 0))])
 .ret)
 .skip)))
 (.region [
 D 47 (.load (some 260) (T 10)),
 E (.store 260 (T 7) (T 47))]))))))
 (.region [
 D 48 (.bin .add (T 24) (Ki 1)),
 Mv 24 48]))))
def Jr:AFn:=⟨(.seq (.region [
 D 4 (.mv (C (.slice none 0 0))),
 D 5 (.mv (Ki 0)),
 D 6 (.mv (Ki 0))])
 (.seq (.seq (.region [
 Mv 14 0,
 D 15 (.bin .lss (T 14) (Ki 1)),
 Mv 16 15,
 Gd 17 16 false (.mv (T 0)),
 Gd 18 16 false (.bin .gtr (T 17) (Ki 65536)),
 D 19 (.pick (T 16) (Kb true) (T 18))])
 (.cond (T 19)
 (.seq (.region [
 D 4 (.mv (C (.slice none 0 0))),
 D 5 (.mv (Ki 0)),
 D 6 (.mv (Ki 2))])
 .ret)
 .skip))
 (.seq (.region [
 Mv 20 0,
 D 21 (.call 69 [(T 20)]),
 D 7 (.alloc true (List.replicate 256 (.int .u8 0)++[(.int .i64 0),(.int .i64 0),(.int .i64 0),(.bool false)])),
 E (.store 260 (T 7) (T 21))])
 (.seq (.seq (.region [
 Mv 22 1,
 D 23 (.len (T 22)),
 D 24 (.mv (Ki 0))])
 (.block 0 (.loop [24,23,22,7,4] iK)))
 (.seq (.region [
 D 4 (.mv (C (.slice none 0 0))),
 D 5 (.mv (Ki 0)),
 D 6 (.mv (Ki 160))])
 .ret))))),[.tmp 4,.tmp 5,.tmp 6]⟩
theorem VM:aE Tryz.prog Tryz.f24=some Jr:=by kernel_rfl
def yp:aC:=(.seq (.seq (.region [
 Mv 11 5,
 Mv 12 0,
 D 13 (.len (T 12)),
 D 14 (.bin .lss (T 11) (T 13))])
 (.cond (T 14)
 .skip
 (.exit 0)))
 (.seq (.block 1 (.seq (.drawn [
 Fq 17 0 (.mv (T 0)),
 Fq 18 0 (.mv (T 5)),
 Fq 19 3 (.aI 1 (T 17) (T 18)),
 Fq 20 7 (.load none (T 19)),
 Fq 21 0 (.mv (T 1)),
 Fq 22 0 (.mv (T 5)),
 Fq 23 48 (.aI 1 (T 21) (T 22)),
 Fq 24 112 (.load none (T 23)),
 Fq 25 255 (.bin .neq (T 20) (T 24))])
 (.cond (T 25)
 (.seq (.region [
 D 4 (.mv (Kb false))])
 .ret)
 .skip)))
 (.region [
 Mv 15 5,
 D 16 (.bin .add (T 15) (Ki 1)),
 Mv 5 16])))
def N4:AFn:=⟨(.seq (.region [
 D 4 (.mv (Kb false))])
 (.seq (.seq (.region [
 Mv 6 0,
 D 7 (.len (T 6)),
 Mv 8 1,
 D 9 (.len (T 8)),
 D 10 (.bin .neq (T 7) (T 9))])
 (.cond (T 10)
 (.seq (.region [
 D 4 (.mv (Kb false))])
 .ret)
 .skip))
 (.seq (.seq (.region [
 D 5 (.mv (Ki 0))])
 (.block 0 (.loop [1,0,5] yp)))
 (.seq (.region [
 D 4 (.mv (Kb true))])
 .ret)))),[.tmp 4]⟩
theorem VN:aE Tryz.prog Tryz.f25=some N4:=by kernel_rfl
def RD:AFn:=⟨(.seq (.region [
 D 2 (.mv (C (.slice none 0 0)))])
 (.seq (.region [
 D 9 (.call 72 []),
 Mv 10 0,
 D 11 (.call 71 [(T 9),(T 10)]),
 Mv 8 11,
 D 12 (.ext (T 8) 0),
 D 13 (.ext (T 8) 1),
 D 14 (.ext (T 8) 2),
 D 3 (.alloc true (List.replicate 256 (.int .u8 0)++[(.int .i64 0)])),
 E (.store 257 (T 3) (T 12)),
 Mv 4 13,
 Mv 5 14])
 (.seq (.region [
 D 16 (.load (some 257) (T 3)),
 D 17 (.call 73 [(T 16)]),
 Mv 15 17,
 D 18 (.ext (T 15) 0),
 D 19 (.ext (T 15) 1),
 Mv 6 18,
 Mv 7 19])
 (.seq (.region [
 Mv 20 4,
 Mv 21 6,
 D 22 (.append true 1 (T 20) (T 21)),
 Mv 2 22])
 .ret)))),[.tmp 2]⟩
theorem VO:aE Tryz.prog Tryz.f26=some RD:=by kernel_rfl
def Zj:aC:=(.seq (.seq (.region [
 Mv 26 1,
 D 27 (.len (T 26)),
 D 28 (.bin .gtr (T 27) (Ki 0))])
 (.cond (T 28)
 .skip
 (.exit 0)))
 (.block 1 (.seq (.drawn [
 Fq 29 0 (.mv (T 1)),
 Fq 30 1 (.len (T 29)),
 Fq 31 0 (.mv (T 0)),
 Fq 32 4 (.cG (T 31)),
 Fq 33 12 (.aD 0 (T 32)),
 Fq 34 28 (.load none (T 33)),
 Fq 35 0 (.mv (T 0)),
 Fq 36 64 (.cG (T 35)),
 Fq 37 192 (.aD 1 (T 36)),
 Fq 38 448 (.load none (T 37)),
 Fq 39 1020 (.bin .sub (T 34) (T 38)),
 Fq 40 2047 (.mm false [(T 30),(T 39)]),
 Fq 8 4095 (.mv (T 40))])
 (.seq (.drawn [
 Fq 41 0 (.mv (T 0)),
 Fq 42 1 (.cG (T 41)),
 Fq 43 3 (.aD 3 (T 42)),
 Fq 44 7 (.load none (T 43)),
 Fq 45 0 (.mv (T 0)),
 Fq 46 16 (.cG (T 45)),
 Fq 47 48 (.aD 4 (T 46)),
 Fq 48 112 (.load none (T 47)),
 Fq 49 240 (.aI 2 (T 48) (Ki 0)),
 Fq 50 496 (.load (some 2) (T 49)),
 Fq 51 0 (.mv (T 0)),
 Fq 52 1024 (.cG (T 51)),
 Fq 53 3072 (.aD 1 (T 52)),
 Fq 54 7168 (.load none (T 53)),
 Fq 55 0 (.mv (T 1)),
 Fq 56 0 (.mv (T 8)),
 Fq 57 49152 (.slice 1 (T 55) none (some (T 56)) none),
 ⟨(some 58),none,131071,true,.call 56 [(T 44),(T 50),(T 54),(T 57)]⟩])
 (.seq (.drawn [
 Fq 59 0 (.mv (T 0)),
 Fq 60 0 (.mv (T 0)),
 Fq 61 2 (.cG (T 60)),
 Fq 62 6 (.aD 5 (T 61)),
 ⟨(some 63),none,14,true,.load none (T 62)⟩,
 Fq 64 0 (.mv (T 1)),
 Fq 65 0 (.mv (T 8)),
 Fq 66 96 (.slice 1 (T 64) none (some (T 65)) none),
 Fq 67 224 (.bS false 1 1 [(.slice none 0 0)] [(0,1,(T 66))]),
 ⟨(some 68),none,510,true,.call 94 [(T 63),(T 67)]⟩,
 Fq 69 1023 (.cG (T 59)),
 Fq 70 2047 (.aD 5 (T 69)),
 ⟨none,none,4095,true,.store 1 (T 70) (T 68)⟩])
 (.seq (.seq (.region [
 Mv 71 0,
 D 72 (.cG (T 71)),
 D 73 (.aD 1 (T 72)),
 D 74 (.load none (T 73)),
 Mv 75 8,
 D 76 (.bin .add (T 74) (T 75)),
 D 77 (.cG (T 71)),
 D 78 (.aD 1 (T 77)),
 E (.store 1 (T 78) (T 76))])
 (.seq (.drawn [
 Fq 79 0 (.mv (T 0)),
 Fq 80 1 (.cG (T 79)),
 Fq 81 3 (.aD 1 (T 80)),
 Fq 82 7 (.load none (T 81)),
 Fq 83 0 (.mv (T 0)),
 Fq 84 16 (.cG (T 83)),
 Fq 85 48 (.aD 0 (T 84)),
 Fq 86 112 (.load none (T 85)),
 Fq 87 255 (.bin .eql (T 82) (T 86))])
 (.cond (T 87)
 (.region [
 Mv 88 6,
 Mv 89 0,
 D 90 (.call 100 [(T 89)]),
 D 91 (.append true 1 (T 88) (T 90)),
 Mv 6 91])
 .skip)))
 (.region [
 Mv 92 1,
 Mv 93 8,
 D 94 (.slice 1 (T 92) (some (T 93)) none none),
 Mv 1 94])))))))
def aa4:AFn:=⟨(.seq (.region [
 D 4 (.mv (C (.slice none 0 0))),
 D 5 (.mv (Ki 0))])
 (.seq (.region [
 Mv 10 0,
 D 11 (.call 99 [(T 10)]),
 Mv 9 11,
 D 12 (.ext (T 9) 0),
 D 13 (.ext (T 9) 1),
 Mv 6 12,
 Mv 7 13])
 (.seq (.seq (.region [
 Mv 14 7,
 D 15 (.un .not (T 14))])
 (.cond (T 15)
 (.seq (.region [
 D 4 (.mv (C (.slice none 0 0))),
 D 5 (.mv (Ki 280))])
 .ret)
 .skip))
 (.seq (.region [
 Mv 16 0,
 Mv 17 0,
 D 18 (.cG (T 17)),
 D 19 (.aD 6 (T 18)),
 D 20 (.load none (T 19)),
 Mv 21 1,
 D 22 (.bS false 1 1 [(.slice none 0 0)] [(0,1,(T 21))]),
 D 23 (.call 94 [(T 20),(T 22)]),
 D 24 (.cG (T 16)),
 D 25 (.aD 6 (T 24)),
 E (.store 1 (T 25) (T 23))])
 (.seq (.block 0 (.loop [6,1,0] Zj))
 (.seq (.region [
 Mv 95 6,
 Mv 4 95,
 D 5 (.mv (Ki 0))])
 .ret)))))),[.tmp 4,.tmp 5]⟩
theorem VP:aE Tryz.prog Tryz.f37=some aa4:=by kernel_rfl
def CT:aC:=(.seq (.region [
 D 15 (.bin .lss (T 14) (T 13))])
 (.seq (.cond (T 15)
 .skip
 (.exit 0))
 (.seq (.block 1 (.seq (.region [
 Mv 16 14,
 D 17 (.aI 1 (T 12) (T 14)),
 D 18 (.load none (T 17)),
 Mv 5 16,
 Mv 6 18])
 (.region [
 Mv 19 4,
 Mv 20 6,
 Mv 21 5,
 D 22 (.aI 1 (T 19) (T 20)),
 E (.store 1 (T 22) (T 21))])))
 (.region [
 D 23 (.bin .add (T 14) (Ki 1)),
 Mv 14 23]))))
def VQ:AFn:=⟨(.seq (.region [
 D 2 (.mv (C (.slice none 0 0)))])
 (.seq (.region [
 Mv 7 0,
 D 8 (.call 114 [(T 7)]),
 Mv 3 8])
 (.seq (.region [
 Mv 9 3,
 D 10 (.len (T 9)),
 D 11 (.gw true 1 [(.int .i64 0)] (T 10) (T 10)),
 Mv 4 11])
 (.seq (.seq (.region [
 Mv 12 3,
 D 13 (.len (T 12)),
 D 14 (.mv (Ki 0))])
 (.block 0 (.loop [14,13,12,4] CT)))
 (.seq (.region [
 Mv 24 4,
 Mv 2 24])
 .ret))))),[.tmp 2]⟩
theorem VR:aE Tryz.prog Tryz.f53=some VQ:=by kernel_rfl
def VS:AFn:=⟨(.seq (.region [
 D 2 (.mv (C (.slice none 0 0)))])
 (.seq (.region [
 Mv 3 0,
 D 4 (.call 118 [(T 3)]),
 Mv 0 4])
 (.seq (.region [
 Mv 5 0,
 D 6 (.call 135 [(T 5)])])
 (.seq (.region [
 Mv 7 0,
 Mv 2 7])
 .ret)))),[.tmp 2]⟩
theorem VT:aE Tryz.prog Tryz.f68=some VS:=by kernel_rfl
def VU:AFn:=⟨(.seq (.region [
 D 2 (.alloc true (List.replicate 256 (.int .u8 0)++[(.int .i64 0),(.int .i64 0),(.int .i64 0),(.bool false)]))])
 (.seq (.seq (.region [
 Mv 3 0,
 D 4 (.bin .lss (T 3) (Ki 1)),
 Mv 5 4,
 Gd 6 5 false (.mv (T 0)),
 Gd 7 5 false (.bin .gtr (T 6) (Ki 65536)),
 D 8 (.pick (T 5) (Kb true) (T 7))])
 (.cond (T 8)
 (.seq (.region [
 D 9 (.load (some 260) (T 2)),
 E (.store 260 (T 2) (T 9))])
 .ret)
 .skip))
 (.seq (.region [
 D 10 (.call 136 []),
 Mv 11 0,
 D 12 (.build (List.replicate 256 (.int .u8 0)++[(.int .i64 0),(.int .i64 0),(.int .i64 0),(.bool false)]) [(0,256,(T 10)),(256,1,(T 11))]),
 E (.store 260 (T 2) (T 12))])
 .ret))),[.cell 2 (some 260)]⟩
theorem VV:aE Tryz.prog Tryz.f69=some VU:=by kernel_rfl
def vn:AFn:=⟨(.seq (.region [
 D 2 (.box true (T 0)),
 D 4 (.alloc true (List.replicate 256 (.int .u8 0)++[(.int .i64 0),(.int .i64 0),(.int .i64 0),(.bool false)])),
 D 5 (.mv (C (.slice none 0 0))),
 D 6 (.mv (Kb false)),
 D 7 (.mv (Ki 0))])
 (.seq (.seq (.region [
 D 9 (.load (some 260) (T 2)),
 D 10 (.call 137 [(T 9)]),
 D 11 (.un .not (T 10)),
 Mv 12 11,
 Gd 13 12 false (.aD 259 (T 2)),
 Gd 14 12 false (.load none (T 13)),
 D 15 (.pick (T 12) (Kb true) (T 14)),
 Mv 16 15,
 Gd 17 16 false (.mv (T 1)),
 Gd 18 16 false (.bin .lss (T 17) (Ki 0)),
 D 19 (.pick (T 16) (Kb true) (T 18)),
 Mv 20 19,
 Gd 21 20 false (.mv (T 1)),
 Gd 22 20 false (.bin .gtr (T 21) (Ki 257)),
 D 23 (.pick (T 20) (Kb true) (T 22))])
 (.cond (T 23)
 (.seq (.region [
 D 24 (.load (some 260) (T 2)),
 E (.store 260 (T 4) (T 24)),
 D 5 (.mv (C (.slice none 0 0))),
 D 6 (.mv (Kb false)),
 D 7 (.mv (Ki 2))])
 .ret)
 .skip))
 (.seq (.region [
 D 26 (.load (some 260) (T 2)),
 Mv 27 1,
 D 28 (.call 138 [(T 26),(T 27)]),
 Mv 25 28,
 D 29 (.ext (T 25) 0),
 D 30 (.ext (T 25) 1),
 D 31 (.ext (T 25) 2),
 E (.store 260 (T 4) (T 29)),
 Mv 5 30,
 Mv 8 31])
 (.seq (.seq (.region [
 Mv 32 8,
 D 33 (.un .not (T 32))])
 (.cond (T 33)
 (.seq (.region [
 D 34 (.load (some 260) (T 2)),
 E (.store 260 (T 4) (T 34)),
 D 5 (.mv (C (.slice none 0 0))),
 D 6 (.mv (Kb false)),
 D 7 (.mv (Ki 160))])
 .ret)
 .skip))
 (.seq (.region [
 D 35 (.load (some 260) (T 4)),
 Mv 36 5,
 D 37 (.aD 259 (T 4)),
 D 38 (.load none (T 37)),
 E (.store 260 (T 4) (T 35)),
 Mv 5 36,
 Mv 6 38,
 D 7 (.mv (Ki 0))])
 .ret))))),[.cell 4 (some 260),.tmp 5,.tmp 6,.tmp 7]⟩
theorem VW:aE Tryz.prog Tryz.f70=some vn:=by kernel_rfl
def mH:aC:=(.seq (.region [
 D 28 (.bin .lss (T 27) (T 26))])
 (.seq (.cond (T 28)
 .skip
 (.exit 0))
 (.seq (.block 1 (.seq (.region [
 D 29 (.aI 1 (T 25) (T 27)),
 D 30 (.load none (T 29)),
 Mv 10 30])
 (.seq (.seq (.region [
 D 32 (.aD 0 (T 2)),
 D 33 (.load (some 256) (T 32)),
 Mv 34 10,
 D 35 (.call 140 [(T 33),(T 34)]),
 Mv 31 35,
 D 36 (.ext (T 31) 0),
 D 37 (.ext (T 31) 1),
 D 38 (.aD 0 (T 2)),
 E (.store 256 (T 38) (T 36)),
 Mv 8 37])
 (.seq (.region [
 Mv 39 8,
 D 40 (.bin .eql (T 39) (Ki 0))])
 (.cond (T 40)
 (.seq (.region [
 D 41 (.aD 256 (T 2)),
 D 42 (.load none (T 41)),
 D 43 (.bin .add (T 42) (Ki 1)),
 D 44 (.aD 256 (T 2)),
 E (.store 1 (T 44) (T 43))])
 (.exit 1))
 .skip)))
 (.seq (.region [
 D 46 (.aD 256 (T 2)),
 D 47 (.load none (T 46)),
 D 48 (.call 141 [(T 47)]),
 Mv 45 48,
 D 49 (.ext (T 45) 0),
 D 50 (.ext (T 45) 1),
 Mv 11 49,
 Mv 12 50])
 (.seq (.region [
 Mv 51 7,
 Mv 52 11,
 D 53 (.append true 1 (T 51) (T 52)),
 Mv 54 8,
 D 55 (.bin .add (T 54) (Ki 1)),
 D 56 (.bS true 1 1 [(.int .i64 0)] [(0,1,(T 55))]),
 D 57 (.append true 1 (T 53) (T 56)),
 Mv 7 57])
 (.region [
 D 58 (.aD 256 (T 2)),
 E (.store 1 (T 58) (Ki 0))]))))))
 (.region [
 D 59 (.bin .add (T 27) (Ki 1)),
 Mv 27 59]))))
def RE:AFn:=⟨(.seq (.region [
 D 2 (.box true (T 0)),
 D 4 (.alloc true (List.replicate 256 (.int .u8 0)++[(.int .i64 0)])),
 D 5 (.mv (C (.slice none 0 0))),
 D 6 (.mv (Ki 0))])
 (.seq (.seq (.region [
 D 13 (.load (some 257) (T 2)),
 D 14 (.call 139 [(T 13)]),
 D 15 (.un .not (T 14)),
 Mv 16 15,
 Gd 17 16 false (.mv (T 1)),
 Gd 18 16 false (.len (T 17)),
 Gd 19 16 false (.aD 256 (T 2)),
 Gd 20 16 false (.load none (T 19)),
 Gd 21 16 false (.bin .sub (Ki 2147483647) (T 20)),
 Gd 22 16 false (.bin .gtr (T 18) (T 21)),
 D 23 (.pick (T 16) (Kb true) (T 22))])
 (.cond (T 23)
 (.seq (.region [
 D 24 (.load (some 257) (T 2)),
 E (.store 257 (T 4) (T 24)),
 D 5 (.mv (C (.slice none 0 0))),
 D 6 (.mv (Ki 2))])
 .ret)
 .skip))
 (.seq (.region [
 D 7 (.mv (C (.slice none 0 0)))])
 (.seq (.region [
 D 8 (.mv (Ki 0))])
 (.seq (.seq (.region [
 Mv 25 1,
 D 26 (.len (T 25)),
 D 27 (.mv (Ki 0))])
 (.block 0 (.loop [27,26,4,25,7,2] mH)))
 (.seq (.region [
 D 60 (.load (some 257) (T 2)),
 Mv 61 7,
 E (.store 257 (T 4) (T 60)),
 Mv 5 61,
 D 6 (.mv (Ki 0))])
 .ret)))))),[.cell 4 (some 257),.tmp 5,.tmp 6]⟩
theorem VX:aE Tryz.prog Tryz.f71=some RE:=by kernel_rfl
def VY:AFn:=⟨(.seq (.region [
 D 0 (.alloc true (List.replicate 256 (.int .u8 0)++[(.int .i64 0)]))])
 (.seq (.region [
 D 1 (.call 136 []),
 D 2 (.build (List.replicate 256 (.int .u8 0)++[(.int .i64 0)]) [(0,256,(T 1))]),
 E (.store 257 (T 0) (T 2))])
 .ret)),[.cell 0 (some 257)]⟩
theorem VZ:aE Tryz.prog Tryz.f72=some VY:=by kernel_rfl
def RF:AFn:=⟨(.seq (.region [
 D 1 (.box true (T 0)),
 D 2 (.mv (C (.slice none 0 0))),
 D 3 (.mv (Ki 0))])
 (.seq (.seq (.region [
 D 6 (.load (some 257) (T 1)),
 D 7 (.call 139 [(T 6)]),
 D 8 (.un .not (T 7))])
 (.cond (T 8)
 (.seq (.region [
 D 2 (.mv (C (.slice none 0 0))),
 D 3 (.mv (Ki 2))])
 .ret)
 .skip))
 (.seq (.region [
 D 10 (.aD 256 (T 1)),
 D 11 (.load none (T 10)),
 D 12 (.call 141 [(T 11)]),
 Mv 9 12,
 D 13 (.ext (T 9) 0),
 D 14 (.ext (T 9) 1),
 Mv 4 13,
 Mv 5 14])
 (.seq (.region [
 Mv 15 4,
 D 16 (.bS true 1 1 [(.int .i64 0)] [(0,1,(Ki 257))]),
 D 17 (.append true 1 (T 15) (T 16)),
 Mv 2 17,
 D 3 (.mv (Ki 0))])
 .ret)))),[.tmp 2,.tmp 3]⟩
theorem V0:aE Tryz.prog Tryz.f73=some RF:=by kernel_rfl
def vL:aC:=(.seq (.region [
 D 43 (.bin .lss (T 42) (T 41))])
 (.seq (.cond (T 43)
 .skip
 (.exit 4))
 (.seq (.block 5 (.seq (.region [
 Mv 44 42,
 Mv 9 44])
 (.seq (.region [
 Mv 45 3,
 Mv 46 9,
 Mv 47 6,
 Mv 48 9,
 D 49 (.aI 1 (T 47) (T 48)),
 D 50 (.load none (T 49)),
 D 51 (.build [(.int .i64 0),(.int .i64 0)] [(0,1,(T 50)),(1,1,(Ki (-1)))]),
 D 52 (.aI 2 (T 45) (T 46)),
 E (.store 2 (T 52) (T 51))])
 (.seq (.region [
 Mv 53 9,
 Mv 54 8,
 D 55 (.bin .add (T 53) (T 54)),
 Mv 56 3,
 D 57 (.len (T 56)),
 D 58 (.bin .lss (T 55) (T 57))])
 (.cond (T 58)
 (.region [
 Mv 59 3,
 Mv 60 9,
 Mv 61 6,
 Mv 62 9,
 Mv 63 8,
 D 64 (.bin .add (T 62) (T 63)),
 D 65 (.aI 1 (T 61) (T 64)),
 D 66 (.load none (T 65)),
 D 67 (.aI 2 (T 59) (T 60)),
 D 68 (.aD 1 (T 67)),
 E (.store 1 (T 68) (T 66))])
 .skip)))))
 (.region [
 D 69 (.bin .add (T 42) (Ki 1)),
 Mv 42 69]))))
def mI:aC:=(.seq (.seq (.region [
 Mv 34 7,
 Mv 35 3,
 D 36 (.len (T 35)),
 D 37 (.bin .lss (T 34) (T 36))])
 (.cond (T 37)
 .skip
 (.exit 2)))
 (.seq (.block 3 (.seq (.seq (.region [
 Mv 40 3,
 D 41 (.len (T 40)),
 D 42 (.mv (Ki 0))])
 (.block 4 (.loop [42,41,3,6,8] vL)))
 (.region [
 Mv 71 3,
 D 72 (.call 173 [(T 71)]),
 Mv 70 72,
 D 73 (.ext (T 70) 0),
 D 74 (.ext (T 70) 1),
 Mv 6 73,
 Mv 7 74])))
 (.region [
 Mv 38 8,
 D 39 (.bin .shl (T 38) (C (.int .u64 1))),
 Mv 8 39])))
def vM:aC:=(.seq (.region [
 D 17 (.bin .lss (T 16) (T 15))])
 (.seq (.cond (T 17)
 .skip
 (.exit 0))
 (.seq (.block 1 (.seq (.region [
 Mv 18 16,
 D 19 (.aI 1 (T 14) (T 16)),
 D 20 (.load none (T 19)),
 Mv 4 18,
 Mv 5 20])
 (.region [
 Mv 21 3,
 Mv 22 4,
 Mv 23 5,
 D 24 (.conv .i64 (T 23)),
 D 25 (.bin .add (Ki 1) (T 24)),
 D 26 (.aI 2 (T 21) (T 22)),
 D 27 (.aD 0 (T 26)),
 E (.store 1 (T 27) (T 25))])))
 (.region [
 D 28 (.bin .add (T 16) (Ki 1)),
 Mv 16 28]))))
def AR:AFn:=⟨(.seq (.region [
 D 2 (.mv (C (.slice none 0 0)))])
 (.seq (.region [
 Mv 10 0,
 D 11 (.len (T 10)),
 D 12 (.bin .add (T 11) (Ki 1)),
 D 13 (.gw true 2 [(.int .i64 0),(.int .i64 0)] (T 12) (T 12)),
 Mv 3 13])
 (.seq (.seq (.region [
 Mv 14 0,
 D 15 (.len (T 14)),
 D 16 (.mv (Ki 0))])
 (.block 0 (.loop [16,15,14,3] vM)))
 (.seq (.region [
 Mv 30 3,
 D 31 (.call 173 [(T 30)]),
 Mv 29 31,
 D 32 (.ext (T 29) 0),
 D 33 (.ext (T 29) 1),
 Mv 6 32,
 Mv 7 33])
 (.seq (.seq (.region [
 D 8 (.mv (Ki 1))])
 (.block 2 (.loop [7,3,6,8] mI)))
 (.seq (.region [
 Mv 75 6,
 Mv 2 75])
 .ret)))))),[.tmp 2]⟩
theorem RG:aE Tryz.prog Tryz.f114=some AR:=by kernel_rfl
def FL:AFn:=⟨(.seq (.region [
 D 3 (.box true (T 1)),
 D 4 (.mv (Kb false))])
 (.seq (.drawn [
 Fq 5 0 (.mv (T 0)),
 Fq 6 1 (.eqs true .ptr (T 5) (C (.pointer none))),
 Fq 7 3 (.mv (T 6)),
 Gq 8 7 true 7 (.aD 0 (T 3)),
 ⟨(some 9),(some (7,true)),15,true,.load none (T 8)⟩,
 Gq 10 7 true 31 (.bin .geq (T 9) (Ki 0)),
 Fq 11 63 (.pick (T 7) (T 10) (Kb false)),
 Fq 12 127 (.mv (T 11)),
 Gq 13 12 true 255 (.aD 1 (T 3)),
 ⟨(some 14),(some (12,true)),511,true,.load none (T 13)⟩,
 Gq 15 12 true 1023 (.bin .geq (T 14) (Ki 0)),
 Fq 16 2047 (.pick (T 12) (T 15) (Kb false)),
 Fq 17 4095 (.mv (T 16)),
 Gq 18 17 true 8191 (.aD 0 (T 3)),
 Gq 19 17 true 16383 (.load none (T 18)),
 Gq 20 17 true 8191 (.mv (T 0)),
 Gq 21 17 true 40959 (.cG (T 20)),
 Gq 22 17 true 106495 (.aD 1 (T 21)),
 Gq 23 17 true 237567 (.load none (T 22)),
 Gq 24 17 true 524287 (.bin .leq (T 19) (T 23)),
 Fq 25 1048575 (.pick (T 17) (T 24) (Kb false)),
 Fq 26 2097151 (.mv (T 25)),
 Gq 27 26 true 4194303 (.aD 1 (T 3)),
 Gq 28 26 true 8388607 (.load none (T 27)),
 Gq 29 26 true 4194303 (.mv (T 0)),
 Gq 30 26 true 20971519 (.cG (T 29)),
 Gq 31 26 true 54525951 (.aD 1 (T 30)),
 Gq 32 26 true 121634815 (.load none (T 31)),
 Gq 33 26 true 4194303 (.aD 0 (T 3)),
 Gq 34 26 true 272629759 (.load none (T 33)),
 Gq 35 26 true 1061158911 (.bin .sub (T 32) (T 34)),
 Gq 36 26 true 2147483647 (.bin .leq (T 28) (T 35)),
 Fq 37 4294967295 (.pick (T 26) (T 36) (Kb false)),
 Fq 4 8589934591 (.mv (T 37))])
 .ret)),[.tmp 4]⟩
theorem RH:aE Tryz.prog Tryz.f115=some FL:=by kernel_rfl
def K6:AFn:=⟨(.seq (.region [
 D 2 (.mv (C (.slice none 0 0)))])
 (.seq (.seq (.region [
 Mv 3 0,
 D 4 (.eqs false .slice (T 3) (C (.slice none 0 0)))])
 (.cond (T 4)
 (.seq (.region [
 D 2 (.mv (C (.slice none 0 0)))])
 .ret)
 .skip))
 (.seq (.region [
 D 5 (.bS true 1 0 [] []),
 Mv 6 0,
 D 7 (.append true 1 (T 5) (T 6)),
 Mv 2 7])
 .ret))),[.tmp 2]⟩
theorem RI:aE Tryz.prog Tryz.f118=some K6:=by kernel_rfl
def AS:AFn:=⟨(.seq (.region [
 D 4 (.box true (T 1)),
 D 6 (.mv (C (.int .u8 0))),
 D 7 (.mv (Kb false))])
 (.seq (.region [
 Mv 9 0,
 D 10 (.load (some 2) (T 4)),
 Mv 11 2,
 D 12 (.call 180 [(T 9),(T 10),(T 11),(Ki 1)]),
 Mv 8 12])
 (.seq (.seq (.region [
 Mv 13 8,
 D 14 (.eqs false .slice (T 13) (C (.slice none 0 0)))])
 (.cond (T 14)
 (.seq (.region [
 D 6 (.mv (C (.int .u8 0))),
 D 7 (.mv (Kb false))])
 .ret)
 .skip))
 (.seq (.region [
 Mv 15 8,
 D 16 (.aI 1 (T 15) (Ki 0)),
 D 17 (.load none (T 16)),
 Mv 6 17,
 D 7 (.mv (Kb true))])
 .ret)))),[.tmp 6,.tmp 7]⟩
theorem RJ:aE Tryz.prog Tryz.f125=some AS:=by kernel_rfl
def AT:AFn:=⟨(.seq (.region [
 D 4 (.mv (Ki 0))])
 (.seq (.region [
 Mv 7 0,
 D 8 (.call 182 [(T 7)]),
 Mv 5 8])
 (.seq (.region [
 Mv 9 1,
 D 10 (.call 182 [(T 9)]),
 Mv 6 10])
 (.seq (.seq (.region [
 Mv 11 5])
 (.cond (T 11)
 (.seq (.seq (.region [
 Mv 12 6])
 (.cond (T 12)
 (.seq (.region [
 D 4 (.mv (Ki 0))])
 .ret)
 .skip))
 (.seq (.region [
 D 4 (.mv (Ki (-1)))])
 .ret))
 .skip))
 (.seq (.seq (.region [
 Mv 13 6])
 (.cond (T 13)
 (.seq (.region [
 D 4 (.mv (Ki 1))])
 .ret)
 .skip))
 (.seq (.seq (.region [
 Mv 14 0,
 Mv 15 1,
 D 16 (.bin .lss (T 14) (T 15))])
 (.cond (T 16)
 (.seq (.region [
 D 4 (.mv (Ki (-1)))])
 .ret)
 .skip))
 (.seq (.seq (.region [
 Mv 17 0,
 Mv 18 1,
 D 19 (.bin .gtr (T 17) (T 18))])
 (.cond (T 19)
 (.seq (.region [
 D 4 (.mv (Ki 1))])
 .ret)
 .skip))
 (.seq (.region [
 D 4 (.mv (Ki 0))])
 .ret)))))))),[.tmp 4]⟩
theorem RK:aE Tryz.prog Tryz.f132=some AT:=by kernel_rfl
def vN:aC:=(.seq (.seq (.region [
 Mv 7 2,
 Mv 8 3,
 D 9 (.bin .lss (T 7) (T 8))])
 (.cond (T 9)
 .skip
 (.exit 0)))
 (.seq (.block 1 (.drawn [
 Fq 14 0 (.mv (T 0)),
 Fq 15 0 (.mv (T 2)),
 Fq 16 0 (.mv (T 0)),
 Fq 17 0 (.mv (T 3)),
 Fq 18 0 (.mv (T 0)),
 Fq 19 0 (.mv (T 3)),
 Fq 20 48 (.aI 1 (T 18) (T 19)),
 Fq 21 112 (.load none (T 20)),
 Fq 22 0 (.mv (T 0)),
 Fq 23 0 (.mv (T 2)),
 Fq 24 768 (.aI 1 (T 22) (T 23)),
 Fq 25 1792 (.load none (T 24)),
 Fq 26 4083 (.aI 1 (T 14) (T 15)),
 ⟨none,none,8179,true,.store 1 (T 26) (T 21)⟩,
 Fq 27 16383 (.aI 1 (T 16) (T 17)),
 ⟨none,none,32767,true,.store 1 (T 27) (T 25)⟩]))
 (.region [
 Mv 10 2,
 D 11 (.bin .add (T 10) (Ki 1)),
 Mv 12 3,
 D 13 (.bin .sub (T 12) (Ki 1)),
 Mv 2 11,
 Mv 3 13])))
def K7:AFn:=⟨(.seq (.region [
 Mv 4 0,
 D 5 (.len (T 4)),
 D 6 (.bin .sub (T 5) (Ki 1)),
 D 2 (.mv (Ki 0)),
 Mv 3 6])
 (.block 0 (.loop [2,3,0] vN))),[]⟩
theorem RL:aE Tryz.prog Tryz.f135=some K7:=by kernel_rfl
def vO:aC:=(.seq (.region [
 D 3 (.bin .lss (T 2) (Ki 256))])
 (.seq (.cond (T 3)
 .skip
 (.exit 0))
 (.seq (.block 1 (.seq (.region [
 Mv 4 2,
 Mv 1 4])
 (.region [
 Mv 5 1,
 Mv 6 1,
 D 7 (.conv .u8 (T 6)),
 D 8 (.cT 1 256 (T 0) (T 5)),
 E (.store 1 (T 8) (T 7))])))
 (.region [
 D 9 (.bin .add (T 2) (Ki 1)),
 Mv 2 9]))))
def K8:AFn:=⟨(.seq (.region [
 D 0 (.alloc true (List.replicate 256 (.int .u8 0)))])
 (.seq (.seq (.region [
 D 2 (.mv (Ki 0))])
 (.block 0 (.loop [2,0] vO)))
 (.seq (.region [
 D 10 (.load (some 256) (T 0)),
 E (.store 256 (T 0) (T 10))])
 .ret))),[.cell 0 (some 256)]⟩
theorem FM:aE Tryz.prog Tryz.f136=some K8:=by kernel_rfl
def FN:AFn:=⟨(.seq (.region [
 D 1 (.box true (T 0)),
 D 2 (.mv (Kb false))])
 (.seq (.seq (.region [
 D 4 (.aD 0 (T 1)),
 D 5 (.load (some 256) (T 4)),
 D 6 (.call 184 [(T 5)]),
 D 7 (.un .not (T 6)),
 Mv 8 7,
 Gd 9 8 false (.aD 256 (T 1)),
 Gd 10 8 false (.load none (T 9)),
 Gd 11 8 false (.bin .lss (T 10) (Ki 0)),
 D 12 (.pick (T 8) (Kb true) (T 11)),
 Mv 13 12,
 Gd 14 13 false (.aD 256 (T 1)),
 Gd 15 13 false (.load none (T 14)),
 Gd 16 13 false (.bin .gtr (T 15) (Ki 65536)),
 D 17 (.pick (T 13) (Kb true) (T 16)),
 Mv 18 17,
 Gd 19 18 false (.aD 257 (T 1)),
 Gd 20 18 false (.load none (T 19)),
 Gd 21 18 false (.bin .lss (T 20) (Ki 0)),
 D 22 (.pick (T 18) (Kb true) (T 21)),
 Mv 23 22,
 Gd 24 23 false (.aD 257 (T 1)),
 Gd 25 23 false (.load none (T 24)),
 Gd 26 23 false (.aD 256 (T 1)),
 Gd 27 23 false (.load none (T 26)),
 Gd 28 23 false (.bin .gtr (T 25) (T 27)),
 D 29 (.pick (T 23) (Kb true) (T 28)),
 Mv 30 29,
 Gd 31 30 false (.aD 258 (T 1)),
 Gd 32 30 false (.load none (T 31)),
 Gd 33 30 false (.bin .lss (T 32) (Ki 0)),
 D 34 (.pick (T 30) (Kb true) (T 33)),
 Mv 35 34,
 Gd 36 35 false (.aD 258 (T 1)),
 Gd 37 35 false (.load none (T 36)),
 Gd 38 35 false (.bin .gtr (T 37) (Ki 16)),
 D 39 (.pick (T 35) (Kb true) (T 38))])
 (.cond (T 39)
 (.seq (.region [
 D 2 (.mv (Kb false))])
 .ret)
 .skip))
 (.seq (.region [
 D 40 (.aD 258 (T 1)),
 D 41 (.load none (T 40)),
 D 42 (.bin .shl (Ki 1) (T 41)),
 D 43 (.bin .sub (T 42) (Ki 1)),
 Mv 3 43])
 (.seq (.seq (.region [
 D 44 (.aD 257 (T 1)),
 D 45 (.load none (T 44)),
 Mv 46 3,
 D 47 (.bin .lss (T 45) (T 46)),
 Mv 48 47,
 Gd 49 48 false (.aD 257 (T 1)),
 Gd 50 48 false (.load none (T 49)),
 Gd 51 48 false (.mv (T 3)),
 Gd 52 48 false (.bin .mul (Ki 2) (T 51)),
 Gd 53 48 false (.bin .gtr (T 50) (T 52)),
 D 54 (.pick (T 48) (Kb true) (T 53))])
 (.cond (T 54)
 (.seq (.region [
 D 2 (.mv (Kb false))])
 .ret)
 .skip))
 (.seq (.region [
 D 55 (.aD 259 (T 1)),
 D 56 (.load none (T 55)),
 D 57 (.un .not (T 56)),
 Mv 58 57,
 Gd 59 58 false (.load (some 260) (T 1)),
 Gd 60 58 false (.aD 0 (T 1)),
 Gd 61 58 false (.load (some 256) (T 60)),
 Gd 62 58 false (.build (List.replicate 256 (.int .u8 0)++[(.int .i64 0),(.int .i64 0),(.int .i64 0),(.bool false)]) [(0,256,(T 61)),(259,1,(Kb true))]),
 Gd 63 58 false (.eqs false (.agg [.nu,.nu,.nu,.nu,.nu,.nu,.nu,.nu,.nu,.nu,.nu,.nu,.nu,.nu,.nu,.nu,.nu,.nu,.nu,.nu,.nu,.nu,.nu,.nu,.nu,.nu,.nu,.nu,.nu,.nu,.nu,.nu,.nu,.nu,.nu,.nu,.nu,.nu,.nu,.nu,.nu,.nu,.nu,.nu,.nu,.nu,.nu,.nu,.nu,.nu,.nu,.nu,.nu,.nu,.nu,.nu,.nu,.nu,.nu,.nu,.nu,.nu,.nu,.nu,.nu,.nu,.nu,.nu,.nu,.nu,.nu,.nu,.nu,.nu,.nu,.nu,.nu,.nu,.nu,.nu,.nu,.nu,.nu,.nu,.nu,.nu,.nu,.nu,.nu,.nu,.nu,.nu,.nu,.nu,.nu,.nu,.nu,.nu,.nu,.nu,.nu,.nu,.nu,.nu,.nu,.nu,.nu,.nu,.nu,.nu,.nu,.nu,.nu,.nu,.nu,.nu,.nu,.nu,.nu,.nu,.nu,.nu,.nu,.nu,.nu,.nu,.nu,.nu,.nu,.nu,.nu,.nu,.nu,.nu,.nu,.nu,.nu,.nu,.nu,.nu,.nu,.nu,.nu,.nu,.nu,.nu,.nu,.nu,.nu,.nu,.nu,.nu,.nu,.nu,.nu,.nu,.nu,.nu,.nu,.nu,.nu,.nu,.nu,.nu,.nu,.nu,.nu,.nu,.nu,.nu,.nu,.nu,.nu,.nu,.nu,.nu,.nu,.nu,.nu,.nu,.nu,.nu,.nu,.nu,.nu,.nu,.nu,.nu,.nu,.nu,.nu,.nu,.nu,.nu,.nu,.nu,.nu,.nu,.nu,.nu,.nu,.nu,.nu,.nu,.nu,.nu,.nu,.nu,.nu,.nu,.nu,.nu,.nu,.nu,.nu,.nu,.nu,.nu,.nu,.nu,.nu,.nu,.nu,.nu,.nu,.nu,.nu,.nu,.nu,.nu,.nu,.nu,.nu,.nu,.nu,.nu,.nu,.nu,.nu,.nu,.nu,.nu,.nu,.nu,.nu,.nu,.nu,.nu,.nu,.nu,.nu,.nu,.nu,.nu,.nu,.nu,.nu,.nu,.nu,.bo]) (T 59) (T 62)),
 D 64 (.pick (T 58) (Kb true) (T 63)),
 Mv 2 64])
 .ret))))),[.tmp 2]⟩
theorem RM:aE Tryz.prog Tryz.f137=some FN:=by kernel_rfl
def nW:AFn:=⟨(.seq (.region [
 D 2 (.box true (T 0)),
 D 4 (.alloc true (List.replicate 256 (.int .u8 0)++[(.int .i64 0),(.int .i64 0),(.int .i64 0),(.bool false)])),
 D 5 (.mv (C (.slice none 0 0))),
 D 6 (.mv (Kb false))])
 (.seq (.block 0 (.seq (.region [
 Mv 11 1,
 D 12 (.bin .eql (T 11) (Ki 0)),
 Mv 13 12,
 Gd 14 13 false (.mv (T 1)),
 Gd 15 13 false (.bin .eql (T 14) (Ki 1)),
 D 16 (.pick (T 13) (Kb true) (T 15)),
 Mv 10 16])
 (.cond (T 10)
 (.seq (.region [
 D 18 (.aD 257 (T 2)),
 D 19 (.load none (T 18)),
 D 20 (.aD 258 (T 2)),
 D 21 (.load none (T 20)),
 Mv 22 1,
 D 23 (.call 185 [(T 19),(T 21),(T 22)]),
 Mv 17 23,
 D 24 (.ext (T 17) 0),
 D 25 (.ext (T 17) 1),
 D 26 (.aD 257 (T 2)),
 E (.store 1 (T 26) (T 24))])
 (.seq (.region [
 D 27 (.aD 258 (T 2)),
 D 28 (.load none (T 27)),
 D 29 (.bin .add (T 28) (Ki 1)),
 D 30 (.aD 258 (T 2)),
 E (.store 1 (T 30) (T 29))])
 (.seq (.lq [] false [
 Fq 31 0 (.load (some 260) (T 2)),
 Fq 32 0 (.aD 257 (T 2)),
 Fq 33 0 (.load none (T 32)),
 Fq 34 0 (.aD 256 (T 2)),
 Fq 35 0 (.load none (T 34)),
 Fq 36 0 (.bin .leq (T 33) (T 35)),
 ⟨none,none,0,false,.store 260 (T 4) (T 31)⟩,
 Fq 5 0 (.mv (C (.slice none 0 0))),
 Fq 6 0 (.mv (T 36))])
 .ret)))
 (.seq (.region [
 Mv 38 1,
 D 39 (.bin .eql (T 38) (Ki 257)),
 Mv 37 39])
 (.cond (T 37)
 (.seq (.lq [4,2] true [
 Fq 40 0 (.aD 0 (T 2)),
 Fq 41 0 (.load (some 256) (T 40)),
 Fq 42 0 (.build (List.replicate 256 (.int .u8 0)++[(.int .i64 0),(.int .i64 0),(.int .i64 0),(.bool false)]) [(0,256,(T 41)),(259,1,(Kb true))]),
 Fq 43 0 (.load (some 260) (T 2)),
 D 44 (.call 186 [(T 43)]),
 Fq 45 0 (.aD 257 (T 2)),
 Fq 46 0 (.load none (T 45)),
 Fq 47 0 (.aD 256 (T 2)),
 Fq 48 0 (.load none (T 47)),
 Fq 49 0 (.bin .eql (T 46) (T 48)),
 ⟨none,none,0,false,.store 260 (T 4) (T 42)⟩,
 Fq 5 0 (.mv (T 44)),
 Fq 6 0 (.mv (T 49))])
 .ret)
 (.seq (.region [
 D 51 (.aD 257 (T 2)),
 D 52 (.load none (T 51)),
 D 53 (.aD 256 (T 2)),
 D 54 (.load none (T 53)),
 D 55 (.bin .eql (T 52) (T 54)),
 Mv 50 55])
 (.cond (T 50)
 (.seq (.region [
 D 56 (.load (some 260) (T 2)),
 E (.store 260 (T 4) (T 56)),
 D 5 (.mv (C (.slice none 0 0))),
 D 6 (.mv (Kb false))])
 .ret)
 .skip)))))))
 (.seq (.region [
 D 58 (.aD 0 (T 2)),
 D 59 (.load (some 256) (T 58)),
 Mv 60 1,
 D 61 (.bin .sub (T 60) (Ki 1)),
 D 62 (.call 187 [(T 59),(T 61)]),
 Mv 57 62,
 D 63 (.ext (T 57) 0),
 D 64 (.ext (T 57) 1),
 D 65 (.ext (T 57) 2),
 D 7 (.alloc true (List.replicate 256 (.int .u8 0))),
 E (.store 256 (T 7) (T 63)),
 Mv 8 64,
 Mv 9 65])
 (.seq (.region [
 D 66 (.load (some 260) (T 2)),
 D 67 (.call 186 [(T 66)]),
 Mv 68 8,
 D 69 (.bS true 1 1 [(.int .u8 0)] [(0,1,(T 68))]),
 D 70 (.append true 1 (T 67) (T 69)),
 Mv 5 70])
 (.seq (.region [
 D 71 (.load (some 256) (T 7)),
 D 72 (.aD 256 (T 2)),
 D 73 (.load none (T 72)),
 Mv 74 5,
 D 75 (.len (T 74)),
 D 76 (.bin .sub (T 73) (T 75)),
 D 77 (.build (List.replicate 256 (.int .u8 0)++[(.int .i64 0),(.int .i64 0),(.int .i64 0),(.bool false)]) [(0,256,(T 71)),(256,1,(T 76))]),
 Mv 78 5,
 E (.store 260 (T 4) (T 77)),
 Mv 5 78,
 D 6 (.mv (Kb true))])
 .ret))))),[.cell 4 (some 260),.tmp 5,.tmp 6]⟩
theorem RN:aE Tryz.prog Tryz.f138=some nW:=by kernel_rfl
def FO:AFn:=⟨(.seq (.region [
 D 1 (.box true (T 0)),
 D 2 (.mv (Kb false))])
 (.seq (.drawn [
 Fq 3 0 (.load (some 257) (T 1)),
 Fq 4 0 (.call 72 []),
 Fq 5 3 (.eqs false (.agg (List.replicate 257 .nu)) (T 3) (T 4)),
 Fq 6 7 (.mv (T 5)),
 Gq 7 6 false 15 (.aD 256 (T 1)),
 ⟨(some 8),(some (6,false)),31,true,.load none (T 7)⟩,
 Gq 9 6 false 63 (.bin .geq (T 8) (Ki 0)),
 Gq 10 6 false 127 (.mv (T 9)),
 Gq 11 10 true 255 (.aD 256 (T 1)),
 ⟨(some 12),(some (10,true)),511,true,.load none (T 11)⟩,
 Gq 13 10 true 1023 (.bin .leq (T 12) (Ki 2147483647)),
 Gq 14 6 false 2047 (.pick (T 10) (T 13) (Kb false)),
 Gq 15 6 false 4095 (.mv (T 14)),
 Gq 16 15 true 8191 (.aD 0 (T 1)),
 ⟨(some 17),(some (15,true)),16383,true,.load (some 256) (T 16)⟩,
 ⟨(some 18),(some (15,true)),32767,true,.call 184 [(T 17)]⟩,
 Gq 19 6 false 65535 (.pick (T 15) (T 18) (Kb false)),
 Fq 20 131071 (.pick (T 6) (Kb true) (T 19)),
 Fq 2 262143 (.mv (T 20))])
 .ret)),[.tmp 2]⟩
theorem RO:aE Tryz.prog Tryz.f139=some FO:=by kernel_rfl
def K9:AFn:=⟨(.seq (.region [
 D 2 (.box true (T 0)),
 D 4 (.alloc true (List.replicate 256 (.int .u8 0))),
 D 5 (.mv (Ki 0))])
 (.seq (.region [
 D 6 (.iB 1 256 (T 2) none none none),
 Mv 7 1,
 D 8 (.call 188 [(T 6),(T 7)]),
 Mv 5 8])
 (.seq (.region [
 D 10 (.load (some 256) (T 2)),
 Mv 11 5,
 D 12 (.call 187 [(T 10),(T 11)]),
 Mv 9 12,
 D 13 (.ext (T 9) 0),
 D 14 (.ext (T 9) 1),
 D 15 (.ext (T 9) 2),
 E (.store 256 (T 4) (T 13))])
 (.seq (.region [
 D 16 (.load (some 256) (T 4)),
 Mv 17 5,
 E (.store 256 (T 4) (T 16)),
 Mv 5 17])
 .ret)))),[.cell 4 (some 256),.tmp 5]⟩
theorem RP:aE Tryz.prog Tryz.f140=some K9:=by kernel_rfl
def vP:aC:=(.seq (.seq (.region [
 D 3 (.load none (T 1)),
 D 4 (.bin .gtr (T 3) (Ki 0))])
 (.cond (T 4)
 .skip
 (.exit 0)))
 (.seq (.block 1 (.seq (.region [
 Mv 8 0,
 D 9 (.load none (T 1)),
 D 10 (.bin .sub (T 9) (Ki 1)),
 D 11 (.bin .and (T 10) (Ki 1)),
 D 12 (.cW (T 8) [(T 11)]),
 D 13 (.un .not (T 12))])
 (.cond (T 13)
 .ret
 .skip)))
 (.region [
 D 5 (.load none (T 1)),
 D 6 (.bin .sub (T 5) (Ki 1)),
 D 7 (.bin .shr (T 6) (C (.int .u64 1))),
 E (.store 1 (T 1) (T 7))])))
def La:AFn:=⟨(.seq (.region [
 D 2 (.alloc false [(.slice none 0 0)]),
 D 3 (.mv (Ki 0))])
 (.seq (.seq (.region [
 Mv 5 0,
 D 6 (.bin .lss (T 5) (Ki 0)),
 Mv 7 6,
 Gd 8 7 false (.mv (T 0)),
 Gd 9 7 false (.bin .gtr (T 8) (Ki 2147483647)),
 D 10 (.pick (T 7) (Kb true) (T 9))])
 (.cond (T 10)
 (.seq (.region [
 E (.store 1 (T 2) (C (.slice none 0 0))),
 D 3 (.mv (Ki 2))])
 .ret)
 .skip))
 (.seq (.seq (.region [
 Mv 11 0,
 D 12 (.call 189 [(T 11)])])
 (.block 0 (.each (T 12) 232
 (.block 0 (.loop [1,0] vP))
 [13]
 (.region [
 Mv 4 13])
 (.block 1 (.region [
 D 14 (.load none (T 2)),
 Mv 15 4,
 D 16 (.bS true 1 1 [(.int .i64 0)] [(0,1,(T 15))]),
 D 17 (.append true 1 (T 14) (T 16)),
 E (.store 1 (T 2) (T 17))])))))
 (.seq (.region [
 D 18 (.load none (T 2)),
 E (.store 1 (T 2) (T 18)),
 D 3 (.mv (Ki 0))])
 .ret)))),[.cell 2 none,.tmp 3]⟩
theorem RQ:aE Tryz.prog Tryz.f141=some La:=by kernel_rfl
def uM:AFn:=⟨(.seq (.region [
 D 2 (.box true (T 0)),
 D 4 (.alloc true (List.replicate 258 (.int .u8 0)++[(.int .i64 0),(.int .i64 0),(.int .i64 0),(.int .i64 0)])),
 D 5 (.mv (Kb false)),
 D 6 (.mv (Ki 0))])
 (.seq (.seq (.region [
 D 8 (.load (some 262) (T 2)),
 D 9 (.call 204 [(T 8)]),
 D 10 (.un .not (T 9)),
 Mv 11 10,
 Gd 12 11 false (.aD 258 (T 2)),
 Gd 13 11 false (.load none (T 12)),
 Gd 14 11 false (.bin .eql (T 13) (Ki 258)),
 D 15 (.pick (T 11) (Kb true) (T 14)),
 Mv 16 15,
 Gd 17 16 false (.mv (T 1)),
 Gd 18 16 false (.bin .shr (T 17) (C (.int .u64 1))),
 Gd 19 16 false (.bin .neq (T 18) (Ki 0)),
 D 20 (.pick (T 16) (Kb true) (T 19))])
 (.cond (T 20)
 (.seq (.region [
 D 21 (.load (some 262) (T 4)),
 E (.store 262 (T 4) (T 21)),
 D 5 (.mv (Kb false)),
 D 6 (.mv (Ki 2))])
 .ret)
 .skip))
 (.seq (.region [
 D 23 (.load (some 262) (T 2)),
 Mv 24 1,
 D 25 (.call 205 [(T 23),(T 24)]),
 Mv 22 25,
 D 26 (.ext (T 22) 0),
 D 27 (.ext (T 22) 1),
 E (.store 262 (T 2) (T 26)),
 Mv 7 27])
 (.seq (.seq (.region [
 Mv 28 7,
 D 29 (.un .not (T 28))])
 (.cond (T 29)
 (.seq (.region [
 D 30 (.load (some 262) (T 4)),
 E (.store 262 (T 4) (T 30)),
 D 5 (.mv (Kb false)),
 D 6 (.mv (Ki 100))])
 .ret)
 .skip))
 (.seq (.lq [] false [
 Fq 31 0 (.load (some 262) (T 2)),
 Fq 32 0 (.aD 258 (T 2)),
 Fq 33 0 (.load none (T 32)),
 Fq 34 0 (.bin .eql (T 33) (Ki 258)),
 ⟨none,none,0,false,.store 262 (T 4) (T 31)⟩,
 Fq 5 0 (.mv (T 34)),
 Fq 6 0 (.mv (Ki 0))])
 .ret))))),[.cell 4 (some 262),.tmp 5,.tmp 6]⟩
theorem RR:aE Tryz.prog Tryz.f154=some uM:=by kernel_rfl
def V1:aC:=(.seq (.region [
 D 3 (.bin .lss (T 2) (Ki 256))])
 (.seq (.cond (T 3)
 .skip
 (.exit 0))
 (.seq (.block 1 (.seq (.region [
 Mv 4 2,
 Mv 1 4])
 (.region [
 Mv 5 1,
 Mv 6 1,
 D 7 (.conv .u8 (T 6)),
 D 8 (.call 210 [(T 7)]),
 D 9 (.cT 1 256 (T 0) (T 5)),
 E (.store 1 (T 9) (T 8))])))
 (.region [
 D 10 (.bin .add (T 2) (Ki 1)),
 Mv 2 10]))))
def RS:AFn:=⟨(.seq (.region [
 D 0 (.alloc true (List.replicate 256 (.int .u32 0)))])
 (.seq (.seq (.region [
 D 2 (.mv (Ki 0))])
 (.block 0 (.loop [2,0] V1)))
 (.seq (.region [
 D 11 (.load (some 256) (T 0)),
 E (.store 256 (T 0) (T 11))])
 .ret))),[.cell 0 (some 256)]⟩
theorem FP:aE Tryz.prog Tryz.f160=some RS:=by kernel_rfl
def vQ:aC:=(.seq (.region [
 D 39 (.bin .lss (T 38) (T 37))])
 (.seq (.cond (T 39)
 .skip
 (.exit 2))
 (.seq (.block 3 (.seq (.region [
 D 40 (.aI 2 (T 36) (T 38)),
 D 41 (.load (some 2) (T 40)),
 D 11 (.alloc true [(.int .i64 0),(.int .i64 0)]),
 E (.store 2 (T 11) (T 41))])
 (.region [
 Mv 42 2,
 Mv 43 5,
 D 44 (.load (some 2) (T 11)),
 D 45 (.wG true [.nu,.nu] (.int .i64 0) false (T 43) (T 44)),
 D 46 (.bS true 1 1 [(.int .i64 0)] [(0,1,(T 45))]),
 D 47 (.append true 1 (T 42) (T 46)),
 Mv 2 47])))
 (.region [
 D 48 (.bin .add (T 38) (Ki 1)),
 Mv 38 48]))))
def vR:aC:=(.seq (.region [
 D 20 (.bin .lss (T 19) (T 18))])
 (.seq (.cond (T 20)
 .skip
 (.exit 0))
 (.seq (.block 1 (.seq (.region [
 D 21 (.aI 2 (T 17) (T 19)),
 D 22 (.load (some 2) (T 21)),
 D 7 (.alloc true [(.int .i64 0),(.int .i64 0)]),
 E (.store 2 (T 7) (T 22))])
 (.seq (.region [
 Mv 24 5,
 D 25 (.load (some 2) (T 7)),
 D 26 (.wG true [.nu,.nu] (.int .i64 0) true (T 24) (T 25)),
 Mv 23 26,
 D 27 (.ext (T 23) 0),
 D 28 (.ext (T 23) 1),
 Mv 8 27,
 Mv 9 28])
 (.seq (.region [
 Mv 29 9,
 D 30 (.un .not (T 29))])
 (.cond (T 30)
 (.region [
 Mv 31 5,
 D 32 (.load (some 2) (T 7)),
 Mv 33 5,
 D 34 (.wH (T 33)),
 E (.ef true [.nu,.nu] (T 31) (T 32) (T 34))])
 .skip)))))
 (.region [
 D 35 (.bin .add (T 19) (Ki 1)),
 Mv 19 35]))))
def FQ:AFn:=⟨(.seq (.region [
 D 2 (.mv (C (.slice none 0 0))),
 D 3 (.mv (Ki 0))])
 (.seq (.region [
 Mv 12 0,
 D 13 (.call 221 [(T 12)]),
 Mv 4 13])
 (.seq (.region [
 Mv 14 4,
 D 15 (.call 222 [(T 14),(.func 223)])])
 (.seq (.region [
 D 16 (.iY),
 Mv 5 16])
 (.seq (.seq (.region [
 Mv 17 4,
 D 18 (.len (T 17)),
 D 19 (.mv (Ki 0))])
 (.block 0 (.loop [19,18,2,0,17,5] vR)))
 (.seq (.seq (.region [
 Mv 36 0,
 D 37 (.len (T 36)),
 D 38 (.mv (Ki 0))])
 (.block 2 (.loop [2,38,37,36,5] vQ)))
 (.seq (.region [
 Mv 49 2,
 Mv 50 5,
 D 51 (.wH (T 50)),
 Mv 2 49,
 Mv 3 51])
 .ret))))))),[.tmp 2,.tmp 3]⟩
theorem RT:aE Tryz.prog Tryz.f173=some FQ:=by kernel_rfl
def mJ:aC:=(.seq (.region [
 D 18 (.bin .lss (T 17) (T 16))])
 (.seq (.cond (T 18)
 .skip
 (.exit 0))
 (.seq (.block 1 (.seq (.region [
 Mv 19 17,
 D 20 (.aI 1 (T 15) (T 17)),
 D 21 (.load none (T 20)),
 Mv 9 19,
 Mv 10 21])
 (.region [
 Mv 22 6,
 Mv 23 10,
 D 24 (.conv .u32 (T 23)),
 Mv 25 9,
 D 26 (.bin .mul (Ki 8) (T 25)),
 D 27 (.bin .shl (T 24) (T 26)),
 D 28 (.bin .or (T 22) (T 27)),
 Mv 6 28])))
 (.region [
 D 29 (.bin .add (T 17) (Ki 1)),
 Mv 17 29]))))
def FR:AFn:=⟨(.seq (.region [
 D 4 (.box true (T 1)),
 D 6 (.mv (C (.int .u32 0))),
 D 7 (.mv (Kb false))])
 (.seq (.region [
 Mv 11 0,
 D 12 (.load (some 2) (T 4)),
 Mv 13 2,
 D 14 (.call 226 [(T 11),(T 12),(T 13)]),
 Mv 8 14])
 (.seq (.seq (.region [
 Mv 15 8,
 D 16 (.len (T 15)),
 D 17 (.mv (Ki 0))])
 (.block 0 (.loop [6,17,16,8,15] mJ)))
 (.seq (.region [
 Mv 30 6,
 Mv 31 8,
 D 32 (.eqs true .slice (T 31) (C (.slice none 0 0))),
 Mv 6 30,
 Mv 7 32])
 .ret)))),[.tmp 6,.tmp 7]⟩
theorem RU:aE Tryz.prog Tryz.f179=some FR:=by kernel_rfl
def uN:AFn:=⟨(.seq (.region [
 D 5 (.box true (T 1)),
 D 8 (.mv (C (.slice none 0 0)))])
 (.seq (.seq (.region [
 Mv 9 0,
 D 10 (.load (some 2) (T 5)),
 D 11 (.call 115 [(T 9),(T 10)]),
 D 12 (.un .not (T 11)),
 Mv 13 12,
 Gd 14 13 false (.mv (T 2)),
 Gd 15 13 false (.bin .lss (T 14) (Ki 0)),
 D 16 (.pick (T 13) (Kb true) (T 15)),
 Mv 17 16,
 Gd 18 17 false (.mv (T 2)),
 Gd 19 17 false (.aD 1 (T 5)),
 Gd 20 17 false (.load none (T 19)),
 Gd 21 17 false (.mv (T 3)),
 Gd 22 17 false (.bin .sub (T 20) (T 21)),
 Gd 23 17 false (.bin .gtr (T 18) (T 22)),
 D 24 (.pick (T 17) (Kb true) (T 23))])
 (.cond (T 24)
 (.seq (.region [
 D 8 (.mv (C (.slice none 0 0)))])
 .ret)
 .skip))
 (.seq (.region [
 Mv 25 2,
 D 26 (.aD 0 (T 5)),
 D 27 (.load none (T 26)),
 D 28 (.bin .add (T 25) (T 27)),
 Mv 2 28])
 (.seq (.region [
 Mv 29 0,
 D 30 (.cG (T 29)),
 D 31 (.aD 0 (T 30)),
 D 32 (.load none (T 31)),
 Mv 33 2,
 Mv 34 2,
 Mv 35 3,
 D 36 (.bin .add (T 34) (T 35)),
 Mv 37 2,
 Mv 38 3,
 D 39 (.bin .add (T 37) (T 38)),
 D 40 (.slice 1 (T 32) (some (T 33)) (some (T 36)) (some (T 39))),
 Mv 8 40])
 .ret)))),[.tmp 8]⟩
theorem RV:aE Tryz.prog Tryz.f180=some uN:=by kernel_rfl
def Lb:AFn:=⟨(.seq (.region [
 D 2 (.mv (Kb false))])
 (.seq (.region [
 Mv 3 0,
 Mv 4 0,
 D 5 (.bin .neq (T 3) (T 4)),
 Mv 2 5])
 .ret)),[.tmp 2]⟩
theorem RW:aE Tryz.prog Tryz.f182=some Lb:=by kernel_rfl
def vS:aC:=(.seq (.region [
 D 8 (.bin .lss (T 7) (Ki 256))])
 (.seq (.cond (T 8)
 .skip
 (.exit 0))
 (.seq (.block 1 (.seq (.region [
 D 9 (.idx 1 256 none (T 6) (T 7)),
 Mv 5 9])
 (.region [
 Mv 10 5,
 D 11 (.cT 1 256 (T 3) (T 10)),
 E (.store 1 (T 11) (Ki 1))])))
 (.region [
 D 12 (.bin .add (T 7) (Ki 1)),
 Mv 7 12]))))
def FT:AFn:=⟨(.seq (.region [
 D 1 (.box true (T 0)),
 D 2 (.mv (Kb false))])
 (.seq (.region [
 D 3 (.alloc true (List.replicate 256 (.int .i64 0)))])
 (.seq (.seq (.region [
 D 6 (.load (some 256) (T 1)),
 D 7 (.mv (Ki 0))])
 (.block 0 (.loop [7,6,3] vS)))
 (.seq (.drawn [
 Fq 13 0 (.load (some 256) (T 3)),
 Fq 14 0 (.call 229 []),
 Fq 15 3 (.eqs false (.agg (List.replicate 256 .nu)) (T 13) (T 14)),
 Fq 2 7 (.mv (T 15))])
 .ret)))),[.tmp 2]⟩
theorem RX:aE Tryz.prog Tryz.f184=some FT:=by kernel_rfl
def FU:AFn:=⟨(.seq (.region [
 D 6 (.mv (Ki 0)),
 D 7 (.mv (Ki 0))])
 (.seq (.seq (.region [
 Mv 8 0,
 D 9 (.bin .lss (T 8) (Ki 0)),
 Mv 10 9,
 Gd 11 10 false (.mv (T 0)),
 Gd 12 10 false (.bin .gtr (T 11) (Ki 2147483647)),
 D 13 (.pick (T 10) (Kb true) (T 12)),
 Mv 14 13,
 Gd 15 14 false (.mv (T 1)),
 Gd 16 14 false (.bin .lss (T 15) (Ki 0)),
 D 17 (.pick (T 14) (Kb true) (T 16)),
 Mv 18 17,
 Gd 19 18 false (.mv (T 1)),
 Gd 20 18 false (.bin .gtr (T 19) (Ki 30)),
 D 21 (.pick (T 18) (Kb true) (T 20)),
 Mv 22 21,
 Gd 23 22 false (.mv (T 2)),
 Gd 24 22 false (.bin .neq (T 23) (Ki 0)),
 Gd 25 22 false (.mv (T 24)),
 Gd 26 25 true (.mv (T 2)),
 Gd 27 25 true (.bin .neq (T 26) (Ki 1)),
 Gd 28 22 false (.pick (T 25) (T 27) (Kb false)),
 D 29 (.pick (T 22) (Kb true) (T 28))])
 (.cond (T 29)
 (.seq (.region [
 D 6 (.mv (Ki 0)),
 D 7 (.mv (Ki 2))])
 .ret)
 .skip))
 (.seq (.seq (.region [
 Mv 30 0,
 Mv 31 2,
 D 32 (.bin .add (Ki 1) (T 31)),
 Mv 33 1,
 D 34 (.bin .shl (T 32) (T 33)),
 D 35 (.bin .add (T 30) (T 34)),
 Mv 0 35])
 (.seq (.region [
 Mv 36 0,
 D 37 (.bin .gtr (T 36) (Ki 2147483647))])
 (.cond (T 37)
 (.seq (.region [
 D 6 (.mv (Ki 0)),
 D 7 (.mv (Ki 2))])
 .ret)
 .skip)))
 (.seq (.region [
 Mv 38 0,
 Mv 6 38,
 D 7 (.mv (Ki 0))])
 .ret)))),[.tmp 6,.tmp 7]⟩
theorem RY:aE Tryz.prog Tryz.f185=some FU:=by kernel_rfl
def FV:AFn:=⟨(.seq (.region [
 D 1 (.box true (T 0)),
 D 2 (.mv (C (.slice none 0 0)))])
 (.seq (.drawn [
 Fq 3 0 (.aD 0 (T 1)),
 Fq 4 1 (.iB 1 256 (T 3) none (some (Ki 1)) none),
 Fq 5 0 (.aD 257 (T 1)),
 ⟨(some 6),none,4,true,.load none (T 5)⟩,
 ⟨(some 7),none,15,true,.call 230 [(T 4),(T 6)]⟩,
 Fq 2 31 (.mv (T 7))])
 .ret)),[.tmp 2]⟩
theorem RZ:aE Tryz.prog Tryz.f186=some FV:=by kernel_rfl
def AU:AFn:=⟨(.seq (.region [
 D 2 (.box true (T 0)),
 D 4 (.alloc true (List.replicate 256 (.int .u8 0))),
 D 5 (.mv (C (.int .u8 0))),
 D 6 (.mv (Kb false))])
 (.seq (.seq (.region [
 Mv 7 1,
 D 8 (.bin .lss (T 7) (Ki 0)),
 Mv 9 8,
 Gd 10 9 false (.mv (T 1)),
 Gd 11 9 false (.bin .geq (T 10) (Ki 256)),
 D 12 (.pick (T 9) (Kb true) (T 11))])
 (.cond (T 12)
 (.seq (.region [
 D 13 (.load (some 256) (T 2)),
 E (.store 256 (T 4) (T 13)),
 D 5 (.mv (C (.int .u8 0))),
 D 6 (.mv (Kb false))])
 .ret)
 .skip))
 (.seq (.drawn [
 Fq 14 0 (.load (some 256) (T 2)),
 Fq 15 0 (.mv (T 1)),
 Fq 16 2 (.cT 1 256 (T 2) (T 15)),
 Fq 17 6 (.load none (T 16)),
 ⟨none,none,15,true,.store 256 (T 4) (T 14)⟩,
 Fq 5 31 (.mv (T 17))])
 (.seq (.drawn [
 Fq 18 0 (.mv (T 1)),
 Fq 19 1 (.bin .add (T 18) (Ki 1)),
 Fq 20 3 (.iB 1 256 (T 4) (some (Ki 1)) (some (T 19)) none),
 Fq 21 0 (.mv (T 1)),
 Fq 22 8 (.iB 1 256 (T 2) none (some (T 21)) none),
 ⟨(some 23),none,31,true,.copy 1 (T 20) (T 22)⟩])
 (.seq (.region [
 Mv 24 5,
 D 25 (.cT 1 256 (T 4) (Ki 0)),
 E (.store 1 (T 25) (T 24))])
 (.seq (.region [
 D 26 (.load (some 256) (T 4)),
 Mv 27 5,
 E (.store 256 (T 4) (T 26)),
 Mv 5 27,
 D 6 (.mv (Kb true))])
 .ret)))))),[.cell 4 (some 256),.tmp 5,.tmp 6]⟩
theorem R1:aE Tryz.prog Tryz.f187=some AU:=by kernel_rfl
def Lc:AFn:=⟨(.seq (.region [
 D 4 (.mv (Ki 0))])
 (.seq (.region [
 Mv 5 0,
 Mv 6 1,
 D 7 (.zI (T 5) (T 6)),
 Mv 4 7])
 .ret)),[.tmp 4]⟩
theorem R2:aE Tryz.prog Tryz.f188=some Lc:=by kernel_rfl
def Ld:AFn:=⟨(.seq (.region [
 D 1 (.box true (T 0)),
 D 2 (.mv (C .nilFunc))])
 (.seq (.region [
 D 3 (.zG 232 [] [(T 1)]),
 Mv 2 3])
 .ret)),[.tmp 2]⟩
theorem R3:aE Tryz.prog Tryz.f189=some Ld:=by kernel_rfl
def V2:aC:=(.seq (.seq (.region [
 D 8 (.load none (T 2)),
 D 9 (.load none (T 1)),
 D 10 (.bin .neq (T 8) (T 9))])
 (.cond (T 10)
 .skip
 (.exit 0)))
 (.seq (.block 1 (.seq (.region [
 Mv 16 0,
 D 17 (.cW (T 16) [(Ki 1)]),
 D 18 (.un .not (T 17)),
 Mv 19 18,
 Gd 20 19 false (.mv (T 0)),
 Gd 21 19 false (.mv (T 4)),
 Gd 22 19 false (.cW (T 20) [(T 21)]),
 Gd 23 19 false (.un .not (T 22)),
 D 24 (.pick (T 19) (Kb true) (T 23))])
 (.cond (T 24)
 .ret
 .skip)))
 (.region [
 D 11 (.load none (T 2)),
 Mv 12 4,
 D 13 (.bin .mul (Ki 2) (T 12)),
 D 14 (.bin .sub (Ki 1) (T 13)),
 D 15 (.bin .add (T 11) (T 14)),
 E (.store 1 (T 2) (T 15))])))
def V3:aC:=(.seq (.region [
 D 29 (.bin .lss (T 28) (Ki 258))])
 (.seq (.cond (T 29)
 .skip
 (.exit 2))
 (.seq (.block 3 (.seq (.region [
 D 30 (.idx 1 258 none (T 27) (T 28)),
 Mv 7 30])
 (.seq (.seq (.region [
 Mv 31 4,
 Mv 32 7,
 D 33 (.conv .i64 (T 32)),
 D 34 (.call 234 [(T 31),(T 33)])])
 (.block 4 (.each (T 34) 260
 (.seq (.region [
 D 4 (.mv (Ki 0))])
 (.seq (.seq (.region [
 D 5 (.load none (T 1)),
 D 6 (.load none (T 2)),
 D 7 (.bin .lss (T 5) (T 6))])
 (.cond (T 7)
 (.region [
 D 4 (.mv (Ki 1))])
 .skip))
 (.seq (.block 0 (.loop [4,2,0,1] V2))
 (.region [
 Mv 25 0,
 D 26 (.cW (T 25) [(Ki 0)])]))))
 [35]
 (.region [
 Mv 8 35])
 (.block 5 (.region [
 D 36 (.load none (T 2)),
 Mv 37 8,
 D 38 (.bS true 1 1 [(.int .i64 0)] [(0,1,(T 37))]),
 D 39 (.append true 1 (T 36) (T 38)),
 E (.store 1 (T 2) (T 39))])))))
 (.region [
 Mv 40 7,
 D 41 (.conv .i64 (T 40)),
 Mv 4 41]))))
 (.region [
 D 42 (.bin .add (T 28) (Ki 1)),
 Mv 28 42]))))
def V4:aC:=(.seq (.region [
 D 16 (.bin .lss (T 15) (Ki 4))])
 (.seq (.cond (T 16)
 .skip
 (.exit 0))
 (.seq (.block 1 (.seq (.region [
 Mv 17 15,
 Mv 5 17])
 (.drawn [
 D 18 (.load none (T 2)),
 Fq 19 0 (.mv (T 4)),
 Fq 20 0 (.mv (T 5)),
 Fq 21 4 (.bin .sub (Ki 3) (T 20)),
 Fq 22 14 (.bin .shr (T 19) (T 21)),
 Fq 23 30 (.bin .and (T 22) (Ki 1)),
 Fq 24 62 (.bS true 1 1 [(.int .i64 0)] [(0,1,(T 23))]),
 ⟨(some 25),none,127,true,.append true 1 (T 18) (T 24)⟩,
 ⟨none,none,255,true,.store 1 (T 2) (T 25)⟩])))
 (.region [
 D 26 (.bin .add (T 15) (Ki 1)),
 Mv 15 26]))))
def R4:AFn:=⟨(.seq (.region [
 D 1 (.box true (T 0)),
 D 2 (.alloc false [(.slice none 0 0)]),
 D 3 (.mv (Ki 0))])
 (.seq (.seq (.region [
 D 9 (.load (some 258) (T 1)),
 D 10 (.call 206 [(T 9)]),
 D 11 (.un .not (T 10))])
 (.cond (T 11)
 (.seq (.region [
 E (.store 1 (T 2) (C (.slice none 0 0))),
 D 3 (.mv (Ki 2))])
 .ret)
 .skip))
 (.seq (.region [
 D 12 (.cT 1 258 (T 1) (Ki 0)),
 D 13 (.load none (T 12)),
 D 14 (.conv .i64 (T 13)),
 Mv 4 14])
 (.seq (.seq (.region [
 D 15 (.mv (Ki 0))])
 (.block 0 (.loop [15,1,4,2] V4)))
 (.seq (.seq (.region [
 D 27 (.load (some 258) (T 1)),
 D 28 (.mv (Ki 0))])
 (.block 2 (.loop [4,28,27,2] V3)))
 (.seq (.region [
 D 43 (.load none (T 2)),
 E (.store 1 (T 2) (T 43)),
 D 3 (.mv (Ki 0))])
 .ret)))))),[.cell 2 none,.tmp 3]⟩
theorem R5:aE Tryz.prog Tryz.f192=some R4:=by kernel_rfl
def iA:AFn:=⟨(.seq (.region [
 D 1 (.box true (T 0)),
 D 2 (.mv (Kb false))])
 (.seq (.seq (.region [
 D 3 (.load (some 262) (T 1)),
 D 4 (.call 244 [(T 3)])])
 (.cond (T 4)
 (.seq (.region [
 D 2 (.mv (Kb true))])
 .ret)
 .skip))
 (.seq (.seq (.region [
 D 5 (.aD 259 (T 1)),
 D 6 (.load none (T 5)),
 D 7 (.call 245 [(T 6),(Ki 4),(Ki 5)]),
 D 8 (.un .not (T 7)),
 Mv 9 8,
 Gd 10 9 false (.aD 258 (T 1)),
 Gd 11 9 false (.load none (T 10)),
 Gd 12 9 false (.call 245 [(T 11),(Ki 0),(Ki 258)]),
 Gd 13 9 false (.un .not (T 12)),
 D 14 (.pick (T 9) (Kb true) (T 13)),
 Mv 15 14,
 Gd 16 15 false (.aD 260 (T 1)),
 Gd 17 15 false (.load none (T 16)),
 Gd 18 15 false (.call 245 [(T 17),(Ki 0),(Ki 15)]),
 Gd 19 15 false (.un .not (T 18)),
 D 20 (.pick (T 15) (Kb true) (T 19)),
 Mv 21 20,
 Gd 22 21 false (.aD 261 (T 1)),
 Gd 23 21 false (.load none (T 22)),
 Gd 24 21 false (.call 245 [(T 23),(Ki 0),(Ki 2)]),
 Gd 25 21 false (.un .not (T 24)),
 D 26 (.pick (T 21) (Kb true) (T 25)),
 Mv 27 26,
 Gd 28 27 false (.load (some 262) (T 1)),
 Gd 29 27 false (.call 246 [(T 28)]),
 Gd 30 27 false (.un .not (T 29)),
 D 31 (.pick (T 27) (Kb true) (T 30))])
 (.cond (T 31)
 (.seq (.region [
 D 2 (.mv (Kb false))])
 .ret)
 .skip))
 (.seq (.seq (.region [
 D 32 (.aD 258 (T 1)),
 D 33 (.load none (T 32))])
 (.block 0 (.seq (.region [
 D 35 (.bin .eql (T 33) (Ki 0)),
 Mv 34 35])
 (.cond (T 34)
 (.seq (.region [
 D 36 (.aD 261 (T 1)),
 D 37 (.load none (T 36)),
 D 38 (.bin .eql (T 37) (Ki 0)),
 Mv 39 38,
 Gd 40 39 false (.aD 261 (T 1)),
 Gd 41 39 false (.load none (T 40)),
 Gd 42 39 false (.bin .eql (T 41) (Ki 1)),
 Gd 43 39 false (.mv (T 42)),
 Gd 44 43 true (.aD 260 (T 1)),
 Gd 45 43 true (.load none (T 44)),
 Gd 46 43 true (.bin .gtr (T 45) (Ki 0)),
 Gd 47 39 false (.pick (T 43) (T 46) (Kb false)),
 D 48 (.pick (T 39) (Kb true) (T 47)),
 Mv 49 48,
 Gd 50 49 false (.aD 261 (T 1)),
 Gd 51 49 false (.load none (T 50)),
 Gd 52 49 false (.bin .eql (T 51) (Ki 2)),
 Gd 53 49 false (.mv (T 52)),
 Gd 54 53 true (.aD 260 (T 1)),
 Gd 55 53 true (.load none (T 54)),
 Gd 56 53 true (.bin .lss (T 55) (Ki 15)),
 Gd 57 49 false (.pick (T 53) (T 56) (Kb false)),
 D 58 (.pick (T 49) (Kb true) (T 57)),
 Mv 2 58])
 .ret)
 (.seq (.region [
 D 60 (.bin .eql (T 33) (Ki 258)),
 Mv 59 60])
 (.cond (T 59)
 (.seq (.drawn [
 Fq 61 0 (.aD 259 (T 1)),
 ⟨(some 62),none,1,true,.load none (T 61)⟩,
 Fq 63 3 (.bin .eql (T 62) (Ki 4)),
 Fq 64 7 (.mv (T 63)),
 Gq 65 64 true 15 (.aD 261 (T 1)),
 ⟨(some 66),(some (64,true)),31,true,.load none (T 65)⟩,
 Gq 67 64 true 63 (.bin .eql (T 66) (Ki 0)),
 Fq 68 127 (.pick (T 64) (T 67) (Kb false)),
 Fq 69 255 (.mv (T 68)),
 Gq 70 69 true 511 (.aD 260 (T 1)),
 Gq 71 69 true 1023 (.load none (T 70)),
 Gq 72 69 true 511 (.aD 258 (T 1)),
 Gq 73 69 true 2559 (.load none (T 72)),
 Gq 74 69 true 6655 (.bin .sub (T 73) (Ki 1)),
 Gq 75 69 true 511 (.aD 0 (T 1)),
 Gq 76 69 true 31231 (.cT 1 258 (T 75) (T 74)),
 Gq 77 69 true 63999 (.load none (T 76)),
 Gq 78 69 true 129535 (.conv .i64 (T 77)),
 Gq 79 69 true 262143 (.bin .eql (T 71) (T 78)),
 Fq 80 524287 (.pick (T 69) (T 79) (Kb false)),
 Fq 81 1048575 (.mv (T 80)),
 Gq 82 81 true 2097151 (.aD 0 (T 1)),
 ⟨(some 83),(some (81,true)),4194303,true,.load (some 258) (T 82)⟩,
 ⟨(some 84),(some (81,true)),8388607,true,.call 206 [(T 83)]⟩,
 Fq 85 16777215 (.pick (T 81) (T 84) (Kb false)),
 Fq 2 33554431 (.mv (T 85))])
 .ret)
 .skip))))))
 (.seq (.drawn [
 Fq 86 0 (.aD 258 (T 1)),
 Fq 87 1 (.load none (T 86)),
 Fq 88 3 (.bin .sub (T 87) (Ki 1)),
 Fq 89 0 (.aD 0 (T 1)),
 Fq 90 15 (.cT 1 258 (T 89) (T 88)),
 Fq 91 31 (.load none (T 90)),
 Fq 92 63 (.conv .i64 (T 91)),
 Fq 93 0 (.aD 260 (T 1)),
 Fq 94 128 (.load none (T 93)),
 Fq 95 0 (.aD 261 (T 1)),
 Fq 96 512 (.load none (T 95)),
 ⟨(some 97),none,2047,true,.call 247 [(T 92),(T 94),(T 96)]⟩,
 Fq 2 4095 (.mv (T 97))])
 .ret))))),[.tmp 2]⟩
theorem R6:aE Tryz.prog Tryz.f204=some iA:=by kernel_rfl
def nv:AFn:=⟨(.seq (.region [
 D 2 (.box true (T 0)),
 D 4 (.alloc true (List.replicate 258 (.int .u8 0)++[(.int .i64 0),(.int .i64 0),(.int .i64 0),(.int .i64 0)])),
 D 5 (.mv (Kb false))])
 (.seq (.block 0 (.seq (.region [
 D 25 (.aD 259 (T 2)),
 D 26 (.load none (T 25)),
 D 27 (.bin .lss (T 26) (Ki 4)),
 Mv 24 27])
 (.cond (T 24)
 (.region [
 D 28 (.aD 260 (T 2)),
 D 29 (.load none (T 28)),
 D 30 (.bin .shl (T 29) (C (.int .u64 1))),
 Mv 31 1,
 D 32 (.bin .or (T 30) (T 31)),
 D 33 (.aD 259 (T 2)),
 D 34 (.load none (T 33)),
 D 35 (.bin .add (T 34) (Ki 1)),
 D 36 (.aD 260 (T 2)),
 E (.store 1 (T 36) (T 32)),
 D 37 (.aD 259 (T 2)),
 E (.store 1 (T 37) (T 35))])
 (.seq (.region [
 D 39 (.aD 259 (T 2)),
 D 40 (.load none (T 39)),
 D 41 (.bin .eql (T 40) (Ki 4)),
 Mv 42 41,
 Gd 43 42 true (.mv (T 1)),
 Gd 44 42 true (.bin .eql (T 43) (Ki 0)),
 D 45 (.pick (T 42) (T 44) (Kb false)),
 Mv 38 45])
 (.cond (T 38)
 (.seq (.region [
 D 46 (.aD 258 (T 2)),
 D 47 (.load none (T 46)),
 D 48 (.aD 260 (T 2)),
 D 49 (.load none (T 48)),
 D 50 (.conv .u8 (T 49)),
 D 51 (.aD 0 (T 2)),
 D 52 (.cT 1 258 (T 51) (T 47)),
 E (.store 1 (T 52) (T 50))])
 (.seq (.region [
 D 53 (.aD 258 (T 2)),
 D 54 (.load none (T 53)),
 D 55 (.bin .add (T 54) (Ki 1)),
 D 56 (.aD 258 (T 2)),
 E (.store 1 (T 56) (T 55)),
 D 57 (.aD 261 (T 2)),
 E (.store 1 (T 57) (Ki 0))])
 (.seq (.drawn [
 Fq 58 0 (.load (some 262) (T 2)),
 Fq 59 0 (.aD 258 (T 2)),
 Fq 60 2 (.load none (T 59)),
 Fq 61 6 (.bin .lss (T 60) (Ki 258)),
 Fq 62 14 (.mv (T 61)),
 Gq 63 62 false 30 (.aD 0 (T 2)),
 Gq 64 62 false 62 (.load (some 258) (T 63)),
 Gq 65 62 false 126 (.call 206 [(T 64)]),
 Fq 66 254 (.pick (T 62) (Kb true) (T 65)),
 ⟨none,none,255,true,.store 262 (T 4) (T 58)⟩,
 Fq 5 1023 (.mv (T 66))])
 .ret)))
 (.seq (.region [
 D 68 (.aD 259 (T 2)),
 D 69 (.load none (T 68)),
 D 70 (.bin .eql (T 69) (Ki 4)),
 Mv 67 70])
 (.cond (T 67)
 (.region [
 D 71 (.aD 259 (T 2)),
 E (.store 1 (T 71) (Ki 5))])
 (.seq (.region [
 Mv 73 1,
 D 74 (.bin .eql (T 73) (Ki 0)),
 Mv 72 74])
 (.cond (T 72)
 (.seq (.region [
 D 75 (.aD 261 (T 2)),
 D 76 (.load none (T 75)),
 D 77 (.bin .neq (T 76) (Ki 2)),
 Mv 78 77,
 Gd 79 78 true (.aD 260 (T 2)),
 Gd 80 78 true (.load none (T 79)),
 Gd 81 78 true (.bin .lss (T 80) (Ki 15)),
 D 82 (.pick (T 78) (T 81) (Kb false)),
 Mv 6 82])
 (.seq (.region [
 D 83 (.aD 260 (T 2)),
 D 84 (.load none (T 83)),
 D 85 (.bin .add (T 84) (Ki 1)),
 D 86 (.aD 260 (T 2)),
 E (.store 1 (T 86) (T 85)),
 D 87 (.aD 261 (T 2)),
 E (.store 1 (T 87) (Ki 1)),
 D 88 (.aD 259 (T 2)),
 E (.store 1 (T 88) (Ki 4))])
 (.seq (.region [
 D 89 (.load (some 262) (T 2)),
 Mv 90 6,
 E (.store 262 (T 4) (T 89)),
 Mv 5 90])
 .ret)))
 (.seq (.region [
 D 8 (.aD 261 (T 2)),
 D 9 (.load none (T 8)),
 D 10 (.bin .neq (T 9) (Ki 1)),
 Mv 11 10,
 Gd 12 11 true (.aD 260 (T 2)),
 Gd 13 11 true (.load none (T 12)),
 Gd 14 11 true (.bin .gtr (T 13) (Ki 0)),
 D 15 (.pick (T 11) (T 14) (Kb false)),
 Mv 7 15])
 (.seq (.region [
 D 16 (.aD 260 (T 2)),
 D 17 (.load none (T 16)),
 D 18 (.bin .sub (T 17) (Ki 1)),
 D 19 (.aD 260 (T 2)),
 E (.store 1 (T 19) (T 18)),
 D 20 (.aD 261 (T 2)),
 E (.store 1 (T 20) (Ki 2)),
 D 21 (.aD 259 (T 2)),
 E (.store 1 (T 21) (Ki 4))])
 (.seq (.region [
 D 22 (.load (some 262) (T 2)),
 Mv 23 7,
 E (.store 262 (T 4) (T 22)),
 Mv 5 23])
 .ret))))))))))))
 (.seq (.region [
 D 91 (.load (some 262) (T 2)),
 E (.store 262 (T 4) (T 91)),
 D 5 (.mv (Kb true))])
 .ret))),[.cell 4 (some 262),.tmp 5]⟩
theorem R7:aE Tryz.prog Tryz.f205=some nv:=by kernel_rfl
def AV:AFn:=⟨(.seq (.region [
 D 1 (.box true (T 0)),
 D 2 (.mv (Kb false))])
 (.seq (.region [
 D 3 (.load (some 258) (T 1)),
 D 4 (.call 248 [(T 3)]),
 Mv 5 4,
 Gd 6 5 true (.cT 1 258 (T 1) (Ki 257)),
 Gd 7 5 true (.load none (T 6)),
 Gd 8 5 true (.bin .gtr (T 7) (C (.int .u8 0))),
 D 9 (.pick (T 5) (T 8) (Kb false)),
 Mv 2 9])
 .ret)),[.tmp 2]⟩
theorem R8:aE Tryz.prog Tryz.f206=some AV:=by kernel_rfl
def Lf:AFn:=⟨(.seq (.region [
 D 2 (.mv (C (.slice none 0 0)))])
 (.seq (.seq (.region [
 Mv 3 0,
 D 4 (.eqs false .slice (T 3) (C (.slice none 0 0)))])
 (.cond (T 4)
 (.seq (.region [
 D 2 (.mv (C (.slice none 0 0)))])
 .ret)
 .skip))
 (.seq (.region [
 D 5 (.bS true 2 0 [] []),
 Mv 6 0,
 D 7 (.append true 2 (T 5) (T 6)),
 Mv 2 7])
 .ret))),[.tmp 2]⟩
theorem R9:aE Tryz.prog Tryz.f221=some Lf:=by kernel_rfl
def Lg:AFn:=⟨(.seq (.region [
 Mv 5 0,
 D 6 (.len (T 5)),
 Mv 4 6])
 (.region [
 Mv 7 0,
 Mv 8 4,
 Mv 9 4,
 D 10 (.conv .u64 (T 9)),
 D 11 (.call 256 [(T 10)]),
 Mv 12 1,
 D 13 (.call 255 [(T 7),(Ki 0),(T 8),(T 11),(T 12)])])),[]⟩
theorem Sa:aE Tryz.prog Tryz.f222=some Lg:=by kernel_rfl
def FW:AFn:=⟨(.seq (.region [
 D 2 (.box true (T 0)),
 D 3 (.box true (T 1)),
 D 4 (.mv (Ki 0))])
 (.seq (.drawn [
 Fq 5 0 (.aD 0 (T 2)),
 Fq 6 1 (.load none (T 5)),
 Fq 7 0 (.aD 0 (T 3)),
 Fq 8 4 (.load none (T 7)),
 Fq 9 15 (.call 132 [(T 6),(T 8)]),
 Fq 10 0 (.aD 1 (T 2)),
 Fq 11 32 (.load none (T 10)),
 Fq 12 0 (.aD 1 (T 3)),
 Fq 13 128 (.load none (T 12)),
 ⟨(some 14),none,511,true,.call 132 [(T 11),(T 13)]⟩,
 Fq 15 1023 (.bS true 1 2 [(.int .i64 0),(.int .i64 0)] [(0,1,(T 9)),(1,1,(T 14))]),
 ⟨(some 16),none,2047,true,.call 224 [(T 15)]⟩,
 Fq 4 4095 (.mv (T 16))])
 .ret)),[.tmp 4]⟩
theorem Sb:aE Tryz.prog Tryz.f223=some FW:=by kernel_rfl
def mK:aC:=(.seq (.region [
 D 9 (.bin .lss (T 8) (T 7))])
 (.seq (.cond (T 9)
 .skip
 (.exit 0))
 (.seq (.block 1 (.seq (.region [
 D 10 (.aI 1 (T 6) (T 8)),
 D 11 (.load none (T 10)),
 Mv 5 11])
 (.seq (.region [
 Mv 12 5,
 Mv 13 3,
 D 14 (.bin .neq (T 12) (T 13))])
 (.cond (T 14)
 (.seq (.region [
 Mv 15 5,
 Mv 2 15])
 .ret)
 .skip))))
 (.region [
 D 16 (.bin .add (T 8) (Ki 1)),
 Mv 8 16]))))
def AW:AFn:=⟨(.seq (.region [
 D 2 (.mv (Ki 0))])
 (.seq (.region [
 D 3 (.mv (Ki 0))])
 (.seq (.seq (.region [
 Mv 6 0,
 D 7 (.len (T 6)),
 D 8 (.mv (Ki 0))])
 (.block 0 (.loop [3,6,7,8] mK)))
 (.seq (.region [
 Mv 17 3,
 Mv 2 17])
 .ret)))),[.tmp 2]⟩
theorem Sc:aE Tryz.prog Tryz.f224=some AW:=by kernel_rfl
def yq:AFn:=⟨(.seq (.region [
 D 4 (.box true (T 1)),
 D 6 (.mv (C (.slice none 0 0)))])
 (.seq (.seq (.region [
 Mv 7 2,
 D 8 (.bin .lss (T 7) (Ki 0)),
 Mv 9 8,
 Gd 10 9 false (.mv (T 2)),
 Gd 11 9 false (.bin .gtr (T 10) (Ki 1048576)),
 D 12 (.pick (T 9) (Kb true) (T 11))])
 (.cond (T 12)
 (.seq (.region [
 D 6 (.mv (C (.slice none 0 0)))])
 .ret)
 .skip))
 (.seq (.region [
 Mv 13 0,
 D 14 (.load (some 2) (T 4)),
 Mv 15 2,
 D 16 (.bin .shl (T 15) (C (.int .u64 2))),
 D 17 (.call 180 [(T 13),(T 14),(T 16),(Ki 4)]),
 Mv 6 17])
 .ret))),[.tmp 6]⟩
theorem Sd:aE Tryz.prog Tryz.f226=some yq:=by kernel_rfl
def vT:aC:=(.seq (.region [
 D 3 (.bin .lss (T 2) (Ki 256))])
 (.seq (.cond (T 3)
 .skip
 (.exit 0))
 (.seq (.block 1 (.seq (.region [
 Mv 4 2,
 Mv 1 4])
 (.region [
 Mv 5 1,
 D 6 (.cT 1 256 (T 0) (T 5)),
 E (.store 1 (T 6) (Ki 1))])))
 (.region [
 D 7 (.bin .add (T 2) (Ki 1)),
 Mv 2 7]))))
def Lh:AFn:=⟨(.seq (.region [
 D 0 (.alloc true (List.replicate 256 (.int .i64 0)))])
 (.seq (.seq (.region [
 D 2 (.mv (Ki 0))])
 (.block 0 (.loop [2,0] vT)))
 (.seq (.region [
 D 8 (.load (some 256) (T 0)),
 E (.store 256 (T 0) (T 8))])
 .ret))),[.cell 0 (some 256)]⟩
theorem FX:aE Tryz.prog Tryz.f229=some Lh:=by kernel_rfl
def vU:aC:=(.seq (.seq (.region [
 Mv 61 10,
 Mv 62 7,
 D 63 (.bin .lss (T 61) (T 62))])
 (.cond (T 63)
 .skip
 (.exit 0)))
 (.block 1 (.seq (.region [
 Mv 64 10,
 Mv 65 8,
 D 66 (.mm false [(T 64),(T 65)]),
 Mv 11 66])
 (.drawn [
 Fq 67 0 (.mv (T 10)),
 Fq 68 0 (.mv (T 9)),
 Fq 69 0 (.mv (T 10)),
 Fq 70 6 (.slice 1 (T 68) (some (T 69)) none none),
 Fq 71 0 (.mv (T 9)),
 Fq 72 0 (.mv (T 11)),
 Fq 73 48 (.slice 1 (T 71) none (some (T 72)) none),
 ⟨(some 74),none,126,true,.copy 1 (T 70) (T 73)⟩,
 Fq 75 255 (.bin .add (T 67) (T 74)),
 Fq 10 511 (.mv (T 75))]))))
def AX:AFn:=⟨(.seq (.region [
 D 4 (.mv (C (.slice none 0 0)))])
 (.seq (.seq (.region [
 Mv 12 1,
 D 13 (.bin .eql (T 12) (Ki 0))])
 (.cond (T 13)
 (.seq (.region [
 D 14 (.bS true 1 0 [] []),
 Mv 4 14])
 .ret)
 .skip))
 (.seq (.seq (.region [
 Mv 15 1,
 D 16 (.bin .lss (T 15) (Ki 0))])
 (.cond (T 16)
 (.region [
 D 17 (.native failK),
 E (.native failK)])
 .skip))
 (.seq (.region [
 Mv 19 0,
 D 20 (.len (T 19)),
 D 21 (.conv .u64 (T 20)),
 Mv 22 1,
 D 23 (.conv .u64 (T 22)),
 D 24 (.call 258 [(T 21),(T 23)]),
 Mv 18 24,
 D 25 (.ext (T 18) 0),
 D 26 (.ext (T 18) 1),
 Mv 5 25,
 Mv 6 26])
 (.seq (.seq (.region [
 Mv 27 5,
 D 28 (.bin .gtr (T 27) (C (.int .u64 0))),
 Mv 29 28,
 Gd 30 29 false (.mv (T 6)),
 Gd 31 29 false (.bin .gtr (T 30) (C (.int .u64 9223372036854775807))),
 D 32 (.pick (T 29) (Kb true) (T 31))])
 (.cond (T 32)
 (.region [
 D 33 (.native failK),
 E (.native failK)])
 .skip))
 (.seq (.region [
 Mv 34 6,
 D 35 (.conv .i64 (T 34)),
 Mv 7 35])
 (.seq (.seq (.region [
 Mv 36 0,
 D 37 (.len (T 36)),
 D 38 (.bin .eql (T 37) (Ki 0))])
 (.cond (T 38)
 (.seq (.region [
 D 39 (.bS true 1 0 [] []),
 Mv 4 39])
 .ret)
 .skip))
 (.seq (.region [
 Mv 40 7,
 Mv 8 40])
 (.seq (.seq (.region [
 Mv 41 8,
 D 42 (.bin .gtr (T 41) (Ki 8192))])
 (.cond (T 42)
 (.seq (.region [
 Mv 43 0,
 D 44 (.len (T 43)),
 D 45 (.bin .quo (Ki 8192) (T 44)),
 Mv 46 0,
 D 47 (.len (T 46)),
 D 48 (.bin .mul (T 45) (T 47)),
 Mv 8 48])
 (.seq (.region [
 Mv 49 8,
 D 50 (.bin .eql (T 49) (Ki 0))])
 (.cond (T 50)
 (.region [
 Mv 51 0,
 D 52 (.len (T 51)),
 Mv 8 52])
 .skip)))
 .skip))
 (.seq (.region [
 Mv 53 7,
 D 54 (.zJ (T 53)),
 Mv 55 7,
 Mv 56 7,
 D 57 (.slice 1 (T 54) none (some (T 55)) (some (T 56))),
 Mv 9 57])
 (.seq (.region [
 Mv 58 9,
 Mv 59 0,
 D 60 (.copy 1 (T 58) (T 59)),
 Mv 10 60])
 (.seq (.block 0 (.loop [10,7,8,9] vU))
 (.seq (.region [
 Mv 76 9,
 Mv 4 76])
 .ret))))))))))))),[.tmp 4]⟩
theorem Se:aE Tryz.prog Tryz.f230=some AX:=by kernel_rfl
def AY:AFn:=⟨(.seq (.region [
 D 1 (.box true (T 0)),
 D 2 (.mv (Kb false))])
 (.seq (.drawn [
 Fq 3 0 (.aD 259 (T 1)),
 ⟨(some 4),none,1,true,.load none (T 3)⟩,
 ⟨(some 5),none,3,true,.call 245 [(T 4),(Ki 0),(Ki 3)]⟩,
 Fq 6 7 (.mv (T 5)),
 Gq 7 6 true 15 (.aD 260 (T 1)),
 Gq 8 6 true 31 (.load none (T 7)),
 Gq 9 6 true 15 (.aD 259 (T 1)),
 Gq 10 6 true 79 (.load none (T 9)),
 Gq 11 6 true 207 (.bin .shl (Ki 1) (T 10)),
 Gq 12 6 true 463 (.bin .sub (T 11) (Ki 1)),
 ⟨(some 13),(some (6,true)),1023,true,.call 245 [(T 8),(Ki 0),(T 12)]⟩,
 Fq 14 2047 (.pick (T 6) (T 13) (Kb false)),
 Fq 15 4095 (.mv (T 14)),
 Gq 16 15 true 8191 (.load (some 262) (T 1)),
 Gq 17 15 true 8191 (.aD 259 (T 1)),
 Gq 18 15 true 24575 (.load none (T 17)),
 Gq 19 15 true 8191 (.aD 260 (T 1)),
 Gq 20 15 true 73727 (.load none (T 19)),
 Gq 21 15 true 253951 (.build (List.replicate 258 (.int .u8 0)++[(.int .i64 0),(.int .i64 0),(.int .i64 0),(.int .i64 0)]) [(259,1,(T 18)),(260,1,(T 20))]),
 Gq 22 15 true 524287 (.eqs false (.agg (List.replicate 262 .nu)) (T 16) (T 21)),
 Fq 23 1048575 (.pick (T 15) (T 22) (Kb false)),
 Fq 2 2097151 (.mv (T 23))])
 .ret)),[.tmp 2]⟩
theorem Sf:aE Tryz.prog Tryz.f244=some AY:=by kernel_rfl
def FY:AFn:=⟨(.seq (.region [
 D 6 (.mv (Kb false))])
 (.seq (.region [
 Mv 7 0,
 Mv 8 1,
 D 9 (.bin .geq (T 7) (T 8)),
 Mv 10 9,
 Gd 11 10 true (.mv (T 0)),
 Gd 12 10 true (.mv (T 2)),
 Gd 13 10 true (.bin .leq (T 11) (T 12)),
 D 14 (.pick (T 10) (T 13) (Kb false)),
 Mv 6 14])
 .ret)),[.tmp 6]⟩
theorem Sg:aE Tryz.prog Tryz.f245=some FY:=by kernel_rfl
def mL:aC:=(.seq (.region [
 D 8 (.bin .lss (T 7) (Ki 258))])
 (.seq (.cond (T 8)
 .skip
 (.exit 0))
 (.seq (.block 1 (.seq (.region [
 Mv 9 7,
 D 10 (.idx 1 258 none (T 6) (T 7)),
 Mv 3 9,
 Mv 4 10])
 (.seq (.region [
 Mv 11 4,
 D 12 (.bin .gtr (T 11) (C (.int .u8 15))),
 Mv 13 12,
 Gd 14 13 false (.mv (T 3)),
 Gd 15 13 false (.aD 258 (T 1)),
 Gd 16 13 false (.load none (T 15)),
 Gd 17 13 false (.bin .geq (T 14) (T 16)),
 Gd 18 13 false (.mv (T 17)),
 Gd 19 18 true (.mv (T 4)),
 Gd 20 18 true (.bin .gtr (T 19) (C (.int .u8 0))),
 Gd 21 13 false (.pick (T 18) (T 20) (Kb false)),
 D 22 (.pick (T 13) (Kb true) (T 21))])
 (.cond (T 22)
 (.seq (.region [
 D 2 (.mv (Kb false))])
 .ret)
 .skip))))
 (.region [
 D 23 (.bin .add (T 7) (Ki 1)),
 Mv 7 23]))))
def FZ:AFn:=⟨(.seq (.region [
 D 1 (.box true (T 0)),
 D 2 (.mv (Kb false))])
 (.seq (.seq (.region [
 D 5 (.aD 0 (T 1)),
 D 6 (.load (some 258) (T 5)),
 D 7 (.mv (Ki 0))])
 (.block 0 (.loop [1,6,7] mL)))
 (.seq (.region [
 D 2 (.mv (Kb true))])
 .ret))),[.tmp 2]⟩
theorem Sk:aE Tryz.prog Tryz.f246=some FZ:=by kernel_rfl
def AZ:AFn:=⟨(.seq (.region [
 D 6 (.mv (Kb false))])
 (.seq (.seq (.region [
 Mv 7 2])
 (.block 0 (.seq (.region [
 D 9 (.bin .eql (T 7) (Ki 0)),
 Mv 8 9])
 (.cond (T 8)
 (.seq (.region [
 Mv 10 0,
 Mv 11 1,
 D 12 (.bin .eql (T 10) (T 11)),
 Mv 6 12])
 .ret)
 (.seq (.region [
 D 14 (.bin .eql (T 7) (Ki 1)),
 Mv 13 14])
 (.cond (T 13)
 (.seq (.region [
 Mv 15 0,
 Mv 16 1,
 D 17 (.bin .lss (T 15) (T 16)),
 Mv 6 17])
 .ret)
 .skip))))))
 (.seq (.region [
 Mv 18 0,
 Mv 19 1,
 D 20 (.bin .gtr (T 18) (T 19)),
 Mv 6 20])
 .ret))),[.tmp 6]⟩
theorem Sl:aE Tryz.prog Tryz.f247=some AZ:=by kernel_rfl
def Li:AFn:=⟨(.seq (.region [
 D 1 (.box true (T 0)),
 D 2 (.mv (Kb false))])
 (.seq (.region [
 D 3 (.load (some 258) (T 1)),
 D 4 (.call 266 [(T 3)]),
 D 5 (.bin .eql (T 4) (Ki 32768)),
 Mv 2 5])
 .ret)),[.tmp 2]⟩
theorem Sm:aE Tryz.prog Tryz.f248=some Li:=by kernel_rfl
def vV:aC:=(.seq (.region [
 D 7 (.bin .lss (T 6) (Ki 258))])
 (.seq (.cond (T 7)
 .skip
 (.exit 0))
 (.seq (.block 1 (.seq (.region [
 D 8 (.idx 1 258 none (T 5) (T 6)),
 Mv 4 8])
 (.seq (.region [
 Mv 9 4,
 D 10 (.conv .i64 (T 9)),
 D 11 (.bin .lss (T 10) (Ki 16))])
 (.cond (T 11)
 (.region [
 Mv 12 4,
 D 13 (.cT 1 16 (T 2) (T 12)),
 D 14 (.load none (T 13)),
 D 15 (.bin .add (T 14) (Ki 1)),
 D 16 (.cT 1 16 (T 2) (T 12)),
 E (.store 1 (T 16) (T 15))])
 .skip))))
 (.region [
 D 17 (.bin .add (T 6) (Ki 1)),
 Mv 6 17]))))
def Lj:AFn:=⟨(.seq (.region [
 D 1 (.box true (T 0)),
 D 2 (.alloc true (List.replicate 16 (.int .i64 0)))])
 (.seq (.seq (.region [
 D 5 (.load (some 258) (T 1)),
 D 6 (.mv (Ki 0))])
 (.block 0 (.loop [6,5,2] vV)))
 (.seq (.region [
 D 18 (.load (some 16) (T 2)),
 E (.store 16 (T 2) (T 18))])
 .ret))),[.cell 2 (some 16)]⟩
theorem Sn:aE Tryz.prog Tryz.f249=some Lj:=by kernel_rfl
def vW:aC:=(.seq (.seq (.region [
 Mv 56 18,
 Mv 57 5,
 D 58 (.bin .lss (T 56) (T 57))])
 (.cond (T 58)
 .skip
 (.exit 0)))
 (.seq (.block 1 (.seq (.seq (.region [
 Mv 62 0,
 D 63 (.load (some 2) (T 7)),
 Mv 64 18,
 D 65 (.call 125 [(T 62),(T 63),(T 64)]),
 Mv 61 65,
 D 66 (.ext (T 61) 0),
 D 67 (.ext (T 61) 1),
 Mv 19 66,
 Mv 20 67])
 (.seq (.region [
 Mv 68 19,
 Mv 69 4,
 D 70 (.bin .eql (T 68) (T 69))])
 (.cond (T 70)
 (.region [
 Mv 71 12,
 D 72 (.bin .add (T 71) (Ki 1)),
 Mv 12 72])
 .skip)))
 (.region [
 Mv 73 13,
 D 74 (.bin .add (T 73) (Ki 1)),
 Mv 13 74])))
 (.region [
 Mv 59 18,
 D 60 (.bin .add (T 59) (Ki 1)),
 Mv 18 60])))
def F0:AFn:=⟨(.seq (.region [
 D 7 (.box true (T 1)),
 D 8 (.box true (T 2)),
 D 12 (.mv (Ki 0)),
 D 13 (.mv (Ki 0)),
 D 14 (.mv (Kb false))])
 (.seq (.seq (.region [
 Mv 21 0,
 D 22 (.load (some 2) (T 7)),
 D 23 (.load (some 2) (T 8)),
 Mv 24 3,
 D 25 (.call 267 [(T 21),(T 22),(T 23),(T 24)]),
 D 26 (.un .not (T 25)),
 Mv 27 26,
 Gd 28 27 false (.mv (T 5)),
 Gd 29 27 false (.aD 1 (T 7)),
 Gd 30 27 false (.load none (T 29)),
 Gd 31 27 false (.call 268 [(T 28),(Ki 0),(T 30)]),
 Gd 32 27 false (.un .not (T 31)),
 D 33 (.pick (T 27) (Kb true) (T 32))])
 (.cond (T 33)
 (.seq (.region [
 D 12 (.mv (Ki 0)),
 D 13 (.mv (Ki 0)),
 D 14 (.mv (Kb false))])
 .ret)
 .skip))
 (.seq (.region [
 Mv 34 5,
 Mv 35 3,
 D 36 (.bin .quo (T 34) (T 35)),
 Mv 15 36])
 (.seq (.seq (.region [
 Mv 37 15,
 D 38 (.bin .gtr (T 37) (Ki 0))])
 (.cond (T 38)
 (.seq (.region [
 Mv 40 0,
 D 41 (.load (some 2) (T 8)),
 Mv 42 15,
 D 43 (.bin .sub (T 42) (Ki 1)),
 D 44 (.bin .mul (T 43) (Ki 256)),
 Mv 45 4,
 D 46 (.conv .i64 (T 45)),
 D 47 (.bin .add (T 44) (T 46)),
 D 48 (.call 179 [(T 40),(T 41),(T 47)]),
 Mv 39 48,
 D 49 (.ext (T 39) 0),
 D 50 (.ext (T 39) 1),
 Mv 16 49,
 Mv 17 50])
 (.region [
 Mv 51 16,
 D 52 (.conv .i64 (T 51)),
 Mv 12 52]))
 .skip))
 (.seq (.seq (.region [
 Mv 53 15,
 Mv 54 3,
 D 55 (.bin .mul (T 53) (T 54)),
 Mv 18 55])
 (.block 0 (.loop [12,13,18,5,0,7,4] vW)))
 (.seq (.region [
 Mv 75 12,
 Mv 76 13,
 Mv 12 75,
 Mv 13 76,
 D 14 (.mv (Kb true))])
 .ret)))))),[.tmp 12,.tmp 13,.tmp 14]⟩
theorem So:aE Tryz.prog Tryz.f254=some F0:=by kernel_rfl
def kI:aC:=(.block 1 (.seq (.region [
 Mv 21 2,
 Mv 22 1,
 D 23 (.bin .sub (T 21) (T 22)),
 Mv 12 23])
 (.seq (.seq (.region [
 Mv 24 12,
 D 25 (.bin .leq (T 24) (Ki 12))])
 (.cond (T 25)
 (.seq (.region [
 Mv 26 0,
 Mv 27 1,
 Mv 28 2,
 Mv 29 4,
 D 30 (.call 269 [(T 26),(T 27),(T 28),(T 29)])])
 .ret)
 .skip))
 (.seq (.seq (.region [
 Mv 31 3,
 D 32 (.bin .eql (T 31) (Ki 0))])
 (.cond (T 32)
 (.seq (.region [
 Mv 33 0,
 Mv 34 1,
 Mv 35 2,
 Mv 36 4,
 D 37 (.call 270 [(T 33),(T 34),(T 35),(T 36)])])
 .ret)
 .skip))
 (.seq (.seq (.region [
 Mv 38 10,
 D 39 (.un .not (T 38))])
 (.cond (T 39)
 (.seq (.region [
 Mv 40 0,
 Mv 41 1,
 Mv 42 2,
 Mv 43 4,
 D 44 (.call 271 [(T 40),(T 41),(T 42),(T 43)])])
 (.region [
 Mv 45 3,
 D 46 (.bin .sub (T 45) (Ki 1)),
 Mv 3 46]))
 .skip))
 (.seq (.region [
 Mv 48 0,
 Mv 49 1,
 Mv 50 2,
 Mv 51 4,
 D 52 (.call 272 [(T 48),(T 49),(T 50),(T 51)]),
 Mv 47 52,
 D 53 (.ext (T 47) 0),
 D 54 (.ext (T 47) 1),
 Mv 13 53,
 Mv 14 54])
 (.seq (.seq (.region [
 Mv 55 14,
 D 56 (.bin .eql (T 55) (Ki 2))])
 (.cond (T 56)
 (.seq (.region [
 Mv 57 0,
 Mv 58 1,
 Mv 59 2,
 Mv 60 4,
 D 61 (.call 273 [(T 57),(T 58),(T 59),(T 60)])])
 (.seq (.region [
 Mv 62 2,
 D 63 (.bin .sub (T 62) (Ki 1)),
 Mv 64 13,
 Mv 65 1,
 D 66 (.bin .sub (T 64) (T 65)),
 D 67 (.bin .sub (T 63) (T 66)),
 Mv 13 67])
 (.region [
 D 14 (.mv (Ki 1))])))
 .skip))
 (.seq (.seq (.region [
 Mv 68 10,
 Mv 69 68,
 Gd 70 69 true (.mv (T 11)),
 D 71 (.pick (T 69) (T 70) (Kb false)),
 Mv 72 71,
 Gd 73 72 true (.mv (T 14)),
 Gd 74 72 true (.bin .eql (T 73) (Ki 1)),
 D 75 (.pick (T 72) (T 74) (Kb false))])
 (.cond (T 75)
 (.seq (.region [
 Mv 76 0,
 Mv 77 1,
 Mv 78 2,
 Mv 79 4,
 D 80 (.call 274 [(T 76),(T 77),(T 78),(T 79)])])
 (.cond (T 80)
 .ret
 .skip))
 .skip))
 (.seq (.seq (.drawn [
 Fq 81 0 (.mv (T 1)),
 Fq 82 1 (.bin .gtr (T 81) (Ki 0)),
 Fq 83 3 (.mv (T 82)),
 Gq 84 83 true 7 (.mv (T 4)),
 Gq 85 83 true 7 (.mv (T 0)),
 Gq 86 83 true 7 (.mv (T 1)),
 Gq 87 83 true 39 (.bin .sub (T 86) (Ki 1)),
 Gq 88 83 true 119 (.aI 2 (T 85) (T 87)),
 Gq 89 83 true 247 (.load (some 2) (T 88)),
 Gq 90 83 true 7 (.mv (T 0)),
 Gq 91 83 true 7 (.mv (T 13)),
 Gq 92 83 true 1543 (.aI 2 (T 90) (T 91)),
 Gq 93 83 true 3591 (.load (some 2) (T 92)),
 ⟨(some 94),(some (83,true)),8191,true,.cW (T 84) [(T 89),(T 93)]⟩,
 Gq 95 83 true 16383 (.bin .lss (T 94) (Ki 0)),
 Gq 96 83 true 32767 (.un .not (T 95)),
 Fq 97 65535 (.pick (T 83) (T 96) (Kb false))])
 (.cond (T 97)
 (.seq (.region [
 Mv 98 0,
 Mv 99 1,
 Mv 100 2,
 Mv 101 13,
 Mv 102 4,
 D 103 (.call 275 [(T 98),(T 99),(T 100),(T 101),(T 102)]),
 Mv 15 103])
 (.seq (.region [
 Mv 104 15,
 Mv 1 104])
 (.exit 1)))
 .skip))
 (.seq (.region [
 Mv 106 0,
 Mv 107 1,
 Mv 108 2,
 Mv 109 13,
 Mv 110 4,
 D 111 (.call 276 [(T 106),(T 107),(T 108),(T 109),(T 110)]),
 Mv 105 111,
 D 112 (.ext (T 105) 0),
 D 113 (.ext (T 105) 1),
 Mv 16 112,
 Mv 17 113])
 (.seq (.region [
 Mv 114 17,
 Mv 11 114])
 (.seq (.region [
 Mv 115 16,
 Mv 116 1,
 D 117 (.bin .sub (T 115) (T 116)),
 Mv 118 2,
 Mv 119 16,
 D 120 (.bin .sub (T 118) (T 119)),
 Mv 18 117,
 Mv 19 120])
 (.seq (.region [
 Mv 121 12,
 D 122 (.bin .quo (T 121) (Ki 8)),
 Mv 20 122])
 (.seq (.region [
 Mv 123 18,
 Mv 124 19,
 D 125 (.bin .lss (T 123) (T 124))])
 (.cond (T 125)
 (.seq (.region [
 Mv 126 18,
 Mv 127 20,
 D 128 (.bin .geq (T 126) (T 127)),
 Mv 10 128])
 (.seq (.region [
 Mv 129 0,
 Mv 130 1,
 Mv 131 16,
 Mv 132 3,
 Mv 133 4,
 D 134 (.call 255 [(T 129),(T 130),(T 131),(T 132),(T 133)])])
 (.region [
 Mv 135 16,
 D 136 (.bin .add (T 135) (Ki 1)),
 Mv 1 136])))
 (.seq (.region [
 Mv 137 19,
 Mv 138 20,
 D 139 (.bin .geq (T 137) (T 138)),
 Mv 10 139])
 (.seq (.region [
 Mv 140 0,
 Mv 141 16,
 D 142 (.bin .add (T 141) (Ki 1)),
 Mv 143 2,
 Mv 144 3,
 Mv 145 4,
 D 146 (.call 255 [(T 140),(T 142),(T 143),(T 144),(T 145)])])
 (.region [
 Mv 147 16,
 Mv 2 147]))))))))))))))))))
def Lk:AFn:=⟨(.seq (.region [
 D 10 (.mv (Kb true))])
 (.seq (.region [
 D 11 (.mv (Kb true))])
 (.block 0 (.loop [3,11,10,0,1,2,4] kI)))),[]⟩
theorem Sq:aE Tryz.prog Tryz.f255=some Lk:=by kernel_rfl
def Ll:AFn:=⟨(.seq (.region [
 D 2 (.mv (Ki 0))])
 (.seq (.cond (Kb false)
 (.seq (.region [
 Mv 3 0,
 D 4 (.conv .u32 (T 3)),
 D 5 (.call 277 [(T 4)]),
 Mv 2 5])
 .ret)
 .skip)
 (.seq (.region [
 Mv 6 0,
 D 7 (.call 278 [(T 6)]),
 Mv 2 7])
 .ret))),[.tmp 2]⟩
theorem Sr:aE Tryz.prog Tryz.f256=some Ll:=by kernel_rfl
def Lm:AFn:=⟨(.seq (.region [
 D 4 (.mv (C (.int .u64 0))),
 D 5 (.mv (C (.int .u64 0)))])
 (.seq (.cond (Kb false)
 (.seq (.region [
 Mv 11 0,
 D 12 (.conv .u32 (T 11)),
 Mv 13 1,
 D 14 (.conv .u32 (T 13)),
 D 15 (.call 280 [(T 12),(T 14)]),
 Mv 10 15,
 D 16 (.ext (T 10) 0),
 D 17 (.ext (T 10) 1),
 Mv 6 16,
 Mv 7 17])
 (.seq (.region [
 Mv 18 6,
 D 19 (.conv .u64 (T 18)),
 Mv 20 7,
 D 21 (.conv .u64 (T 20)),
 Mv 4 19,
 Mv 5 21])
 .ret))
 .skip)
 (.seq (.region [
 Mv 23 0,
 Mv 24 1,
 D 25 (.call 281 [(T 23),(T 24)]),
 Mv 22 25,
 D 26 (.ext (T 22) 0),
 D 27 (.ext (T 22) 1),
 Mv 8 26,
 Mv 9 27])
 (.seq (.region [
 Mv 28 8,
 Mv 29 9,
 Mv 4 28,
 Mv 5 29])
 .ret)))),[.tmp 4,.tmp 5]⟩
theorem Ss:aE Tryz.prog Tryz.f258=some Lm:=by kernel_rfl
def vX:aC:=(.seq (.region [
 D 7 (.bin .lss (T 6) (Ki 258))])
 (.seq (.cond (T 7)
 .skip
 (.exit 0))
 (.seq (.block 1 (.seq (.region [
 D 8 (.idx 1 258 none (T 5) (T 6)),
 Mv 4 8])
 (.region [
 Mv 9 2,
 Mv 10 4,
 D 11 (.call 283 [(T 10)]),
 D 12 (.bin .add (T 9) (T 11)),
 Mv 2 12])))
 (.region [
 D 13 (.bin .add (T 6) (Ki 1)),
 Mv 6 13]))))
def Ln:AFn:=⟨(.seq (.region [
 D 1 (.box true (T 0)),
 D 2 (.mv (Ki 0))])
 (.seq (.seq (.region [
 D 5 (.load (some 258) (T 1)),
 D 6 (.mv (Ki 0))])
 (.block 0 (.loop [2,6,5] vX)))
 (.seq (.region [
 Mv 14 2,
 Mv 2 14])
 .ret))),[.tmp 2]⟩
theorem Su:aE Tryz.prog Tryz.f266=some Ln:=by kernel_rfl
def rH:AFn:=⟨(.seq (.region [
 D 5 (.box true (T 1)),
 D 6 (.box true (T 2)),
 D 8 (.mv (Kb false))])
 (.seq (.seq (.region [
 Mv 9 0,
 D 10 (.load (some 2) (T 5)),
 D 11 (.call 115 [(T 9),(T 10)]),
 D 12 (.un .not (T 11)),
 Mv 13 12,
 Gd 14 13 false (.mv (T 0)),
 Gd 15 13 false (.load (some 2) (T 6)),
 Gd 16 13 false (.call 115 [(T 14),(T 15)]),
 Gd 17 13 false (.un .not (T 16)),
 D 18 (.pick (T 13) (Kb true) (T 17)),
 Mv 19 18,
 Gd 20 19 false (.aD 1 (T 5)),
 Gd 21 19 false (.load none (T 20)),
 Gd 22 19 false (.call 268 [(T 21),(Ki 1),(Ki 65536)]),
 Gd 23 19 false (.un .not (T 22)),
 D 24 (.pick (T 19) (Kb true) (T 23)),
 Mv 25 24,
 Gd 26 25 false (.mv (T 3)),
 Gd 27 25 false (.call 268 [(T 26),(Ki 1),(Ki 65536)]),
 Gd 28 25 false (.un .not (T 27)),
 D 29 (.pick (T 25) (Kb true) (T 28))])
 (.cond (T 29)
 (.seq (.region [
 D 8 (.mv (Kb false))])
 .ret)
 .skip))
 (.seq (.drawn [
 Fq 30 0 (.load (some 2) (T 5)),
 Fq 31 0 (.load (some 2) (T 6)),
 ⟨(some 32),none,3,true,.call 284 [(T 30),(T 31)]⟩,
 Fq 33 7 (.mv (T 32)),
 Gq 34 33 true 15 (.aD 1 (T 6)),
 Gq 35 33 true 31 (.load none (T 34)),
 Gq 36 33 true 15 (.aD 1 (T 5)),
 Gq 37 33 true 79 (.load none (T 36)),
 Gq 38 33 true 15 (.mv (T 3)),
 Gq 39 33 true 463 (.call 285 [(T 37),(T 38)]),
 Gq 40 33 true 1023 (.bin .geq (T 35) (T 39)),
 Fq 41 2047 (.pick (T 33) (T 40) (Kb false)),
 Fq 8 4095 (.mv (T 41))])
 .ret))),[.tmp 8]⟩
theorem Sw:aE Tryz.prog Tryz.f267=some rH:=by kernel_rfl
def F1:AFn:=⟨(.seq (.region [
 D 6 (.mv (Kb false))])
 (.seq (.region [
 Mv 7 0,
 Mv 8 1,
 D 9 (.bin .geq (T 7) (T 8)),
 Mv 10 9,
 Gd 11 10 true (.mv (T 0)),
 Gd 12 10 true (.mv (T 2)),
 Gd 13 10 true (.bin .leq (T 11) (T 12)),
 D 14 (.pick (T 10) (T 13) (Kb false)),
 Mv 6 14])
 .ret)),[.tmp 6]⟩
theorem Sx:aE Tryz.prog Tryz.f268=some F1:=by kernel_rfl
def vY:aC:=(.seq (.seq (.drawn [
 Fq 18 0 (.mv (T 9)),
 Fq 19 0 (.mv (T 1)),
 Fq 20 3 (.bin .gtr (T 18) (T 19)),
 Fq 21 7 (.mv (T 20)),
 Gq 22 21 true 15 (.mv (T 3)),
 Gq 23 21 true 15 (.mv (T 0)),
 Gq 24 21 true 15 (.mv (T 9)),
 Gq 25 21 true 111 (.aI 2 (T 23) (T 24)),
 Gq 26 21 true 239 (.load (some 2) (T 25)),
 Gq 27 21 true 15 (.mv (T 0)),
 Gq 28 21 true 15 (.mv (T 9)),
 Gq 29 21 true 1039 (.bin .sub (T 28) (Ki 1)),
 Gq 30 21 true 3599 (.aI 2 (T 27) (T 29)),
 Gq 31 21 true 7695 (.load (some 2) (T 30)),
 ⟨(some 32),(some (21,true)),16383,true,.cW (T 22) [(T 26),(T 31)]⟩,
 Gq 33 21 true 32767 (.bin .lss (T 32) (Ki 0)),
 Fq 34 65535 (.pick (T 21) (T 33) (Kb false))])
 (.cond (T 34)
 .skip
 (.exit 2)))
 (.seq (.block 3 (.drawn [
 Fq 37 0 (.mv (T 0)),
 Fq 38 0 (.mv (T 9)),
 Fq 39 0 (.mv (T 0)),
 Fq 40 0 (.mv (T 9)),
 Fq 41 8 (.bin .sub (T 40) (Ki 1)),
 Fq 42 0 (.mv (T 0)),
 Fq 43 0 (.mv (T 9)),
 Fq 44 64 (.bin .sub (T 43) (Ki 1)),
 Fq 45 224 (.aI 2 (T 42) (T 44)),
 Fq 46 480 (.load (some 2) (T 45)),
 Fq 47 0 (.mv (T 0)),
 Fq 48 0 (.mv (T 9)),
 Fq 49 3072 (.aI 2 (T 47) (T 48)),
 Fq 50 7168 (.load (some 2) (T 49)),
 Fq 51 16355 (.aI 2 (T 37) (T 38)),
 ⟨none,none,32739,true,.store 2 (T 51) (T 46)⟩,
 Fq 52 65535 (.aI 2 (T 39) (T 41)),
 ⟨none,none,131071,true,.store 2 (T 52) (T 50)⟩]))
 (.region [
 Mv 35 9,
 D 36 (.bin .sub (T 35) (Ki 1)),
 Mv 9 36])))
def vZ:aC:=(.seq (.seq (.region [
 Mv 12 8,
 Mv 13 2,
 D 14 (.bin .lss (T 12) (T 13))])
 (.cond (T 14)
 .skip
 (.exit 0)))
 (.seq (.block 1 (.seq (.region [
 Mv 17 8,
 Mv 9 17])
 (.block 2 (.loop [9,2,1,3,8,0] vY))))
 (.region [
 Mv 15 8,
 D 16 (.bin .add (T 15) (Ki 1)),
 Mv 8 16])))
def Lo:AFn:=⟨(.seq (.region [
 Mv 10 1,
 D 11 (.bin .add (T 10) (Ki 1)),
 Mv 8 11])
 (.block 0 (.loop [3,1,2,8,0] vZ))),[]⟩
theorem Sy:aE Tryz.prog Tryz.f269=some Lo:=by kernel_rfl
def v5:aC:=(.seq (.seq (.region [
 Mv 32 12,
 D 33 (.bin .geq (T 32) (Ki 0))])
 (.cond (T 33)
 .skip
 (.exit 2)))
 (.seq (.block 3 (.seq (.drawn [
 Fq 36 0 (.mv (T 0)),
 Fq 37 0 (.mv (T 8)),
 Fq 38 0 (.mv (T 0)),
 Fq 39 0 (.mv (T 8)),
 Fq 40 0 (.mv (T 12)),
 Fq 41 24 (.bin .add (T 39) (T 40)),
 Fq 42 0 (.mv (T 0)),
 Fq 43 0 (.mv (T 8)),
 Fq 44 0 (.mv (T 12)),
 Fq 45 384 (.bin .add (T 43) (T 44)),
 Fq 46 960 (.aI 2 (T 42) (T 45)),
 Fq 47 1984 (.load (some 2) (T 46)),
 Fq 48 0 (.mv (T 0)),
 Fq 49 0 (.mv (T 8)),
 Fq 50 12288 (.aI 2 (T 48) (T 49)),
 Fq 51 28672 (.load (some 2) (T 50)),
 Fq 52 65475 (.aI 2 (T 36) (T 37)),
 ⟨none,none,131011,true,.store 2 (T 52) (T 47)⟩,
 Fq 53 262143 (.aI 2 (T 38) (T 41)),
 ⟨none,none,524287,true,.store 2 (T 53) (T 51)⟩])
 (.region [
 Mv 54 0,
 Mv 55 9,
 Mv 56 12,
 Mv 57 8,
 Mv 58 3,
 D 59 (.call 286 [(T 54),(T 55),(T 56),(T 57),(T 58)])])))
 (.region [
 Mv 34 12,
 D 35 (.bin .sub (T 34) (Ki 1)),
 Mv 12 35])))
def v7:aC:=(.seq (.seq (.region [
 Mv 20 11,
 D 21 (.bin .geq (T 20) (Ki 0))])
 (.cond (T 21)
 .skip
 (.exit 0)))
 (.seq (.block 1 (.region [
 Mv 24 0,
 Mv 25 11,
 Mv 26 10,
 Mv 27 8,
 Mv 28 3,
 D 29 (.call 286 [(T 24),(T 25),(T 26),(T 27),(T 28)])]))
 (.region [
 Mv 22 11,
 D 23 (.bin .sub (T 22) (Ki 1)),
 Mv 11 23])))
def Lp:AFn:=⟨(.seq (.region [
 Mv 13 1,
 Mv 8 13])
 (.seq (.region [
 D 9 (.mv (Ki 0))])
 (.seq (.region [
 Mv 14 2,
 Mv 15 1,
 D 16 (.bin .sub (T 14) (T 15)),
 Mv 10 16])
 (.seq (.seq (.region [
 Mv 17 10,
 D 18 (.bin .sub (T 17) (Ki 1)),
 D 19 (.bin .quo (T 18) (Ki 2)),
 Mv 11 19])
 (.block 0 (.loop [11,9,0,10,8,3] v7)))
 (.seq (.region [
 Mv 30 10,
 D 31 (.bin .sub (T 30) (Ki 1)),
 Mv 12 31])
 (.block 2 (.loop [12,0,9,8,3] v5))))))),[]⟩
theorem Sz:aE Tryz.prog Tryz.f270=some Lp:=by kernel_rfl
def mM:aC:=(.seq (.seq (.region [
 Mv 28 11,
 Mv 29 1,
 Mv 30 8,
 D 31 (.bin .quo (T 30) (Ki 4)),
 D 32 (.bin .mul (T 31) (Ki 2)),
 D 33 (.bin .add (T 29) (T 32)),
 D 34 (.bin .add (T 33) (Ki 1)),
 D 35 (.bin .leq (T 28) (T 34))])
 (.cond (T 35)
 .skip
 (.exit 0)))
 (.seq (.block 1 (.seq (.region [
 D 38 (.call 288 [(T 9)]),
 Mv 39 10,
 D 40 (.bin .sub (T 39) (C (.int .u64 1))),
 D 41 (.bin .and (T 38) (T 40)),
 D 42 (.conv .i64 (T 41)),
 Mv 12 42])
 (.seq (.seq (.region [
 Mv 43 12,
 Mv 44 8,
 D 45 (.bin .geq (T 43) (T 44))])
 (.cond (T 45)
 (.region [
 Mv 46 12,
 Mv 47 8,
 D 48 (.bin .sub (T 46) (T 47)),
 Mv 12 48])
 .skip))
 (.drawn [
 Fq 49 0 (.mv (T 0)),
 Fq 50 0 (.mv (T 11)),
 Fq 51 0 (.mv (T 0)),
 Fq 52 0 (.mv (T 1)),
 Fq 53 0 (.mv (T 12)),
 Fq 54 24 (.bin .add (T 52) (T 53)),
 Fq 55 0 (.mv (T 0)),
 Fq 56 0 (.mv (T 1)),
 Fq 57 0 (.mv (T 12)),
 Fq 58 384 (.bin .add (T 56) (T 57)),
 Fq 59 960 (.aI 2 (T 55) (T 58)),
 Fq 60 1984 (.load (some 2) (T 59)),
 Fq 61 0 (.mv (T 0)),
 Fq 62 0 (.mv (T 11)),
 Fq 63 12288 (.aI 2 (T 61) (T 62)),
 Fq 64 28672 (.load (some 2) (T 63)),
 Fq 65 65475 (.aI 2 (T 49) (T 50)),
 ⟨none,none,131011,true,.store 2 (T 65) (T 60)⟩,
 Fq 66 262143 (.aI 2 (T 51) (T 54)),
 ⟨none,none,524287,true,.store 2 (T 66) (T 64)⟩]))))
 (.region [
 Mv 36 11,
 D 37 (.bin .add (T 36) (Ki 1)),
 Mv 11 37])))
def F2:AFn:=⟨(.seq (.region [
 Mv 13 2,
 Mv 14 1,
 D 15 (.bin .sub (T 13) (T 14)),
 Mv 8 15])
 (.seq (.region [
 Mv 16 8,
 D 17 (.bin .geq (T 16) (Ki 8))])
 (.cond (T 17)
 (.seq (.region [
 Mv 18 8,
 D 19 (.conv .u64 (T 18)),
 D 9 (.alloc true [(.int .u64 0)]),
 E (.store 1 (T 9) (T 19))])
 (.seq (.region [
 Mv 20 8,
 D 21 (.call 287 [(T 20)]),
 Mv 10 21])
 (.seq (.region [
 Mv 22 1,
 Mv 23 8,
 D 24 (.bin .quo (T 23) (Ki 4)),
 D 25 (.bin .mul (T 24) (Ki 2)),
 D 26 (.bin .add (T 22) (T 25)),
 D 27 (.bin .sub (T 26) (Ki 1)),
 Mv 11 27])
 (.block 0 (.loop [11,9,10,8,1,0] mM)))))
 .skip))),[]⟩
theorem SA:aE Tryz.prog Tryz.f271=some F2:=by kernel_rfl
def rI:AFn:=⟨(.seq (.region [
 D 8 (.mv (Ki 0)),
 D 9 (.mv (Ki 0))])
 (.seq (.region [
 Mv 15 2,
 Mv 16 1,
 D 17 (.bin .sub (T 15) (T 16)),
 Mv 10 17])
 (.seq (.region [
 D 11 (.alloc true [(.int .i64 0)])])
 (.seq (.region [
 Mv 18 1,
 Mv 19 10,
 D 20 (.bin .quo (T 19) (Ki 4)),
 D 21 (.bin .mul (T 20) (Ki 1)),
 D 22 (.bin .add (T 18) (T 21)),
 Mv 12 22])
 (.seq (.region [
 Mv 23 1,
 Mv 24 10,
 D 25 (.bin .quo (T 24) (Ki 4)),
 D 26 (.bin .mul (T 25) (Ki 2)),
 D 27 (.bin .add (T 23) (T 26)),
 Mv 13 27])
 (.seq (.region [
 Mv 28 1,
 Mv 29 10,
 D 30 (.bin .quo (T 29) (Ki 4)),
 D 31 (.bin .mul (T 30) (Ki 3)),
 D 32 (.bin .add (T 28) (T 31)),
 Mv 14 32])
 (.seq (.seq (.region [
 Mv 33 10,
 D 34 (.bin .geq (T 33) (Ki 8))])
 (.cond (T 34)
 (.seq (.seq (.region [
 Mv 35 10,
 D 36 (.bin .geq (T 35) (Ki 50))])
 (.cond (T 36)
 (.seq (.region [
 Mv 37 0,
 Mv 38 12,
 Mv 39 3,
 D 40 (.call 289 [(T 37),(T 38),(T 11),(T 39)]),
 Mv 12 40])
 (.seq (.region [
 Mv 41 0,
 Mv 42 13,
 Mv 43 3,
 D 44 (.call 289 [(T 41),(T 42),(T 11),(T 43)]),
 Mv 13 44])
 (.region [
 Mv 45 0,
 Mv 46 14,
 Mv 47 3,
 D 48 (.call 289 [(T 45),(T 46),(T 11),(T 47)]),
 Mv 14 48])))
 .skip))
 (.region [
 Mv 49 0,
 Mv 50 12,
 Mv 51 13,
 Mv 52 14,
 Mv 53 3,
 D 54 (.call 290 [(T 49),(T 50),(T 51),(T 52),(T 11),(T 53)]),
 Mv 13 54]))
 .skip))
 (.seq (.region [
 D 55 (.load none (T 11))])
 (.block 0 (.seq (.region [
 D 58 (.bin .eql (T 55) (Ki 0)),
 Mv 57 58])
 (.cond (T 57)
 (.seq (.region [
 Mv 59 13,
 Mv 8 59,
 D 9 (.mv (Ki 1))])
 .ret)
 (.seq (.region [
 D 61 (.bin .eql (T 55) (Ki 12)),
 Mv 60 61])
 (.cond (T 60)
 (.seq (.region [
 Mv 62 13,
 Mv 8 62,
 D 9 (.mv (Ki 2))])
 .ret)
 (.seq (.region [
 Mv 56 13,
 Mv 8 56,
 D 9 (.mv (Ki 0))])
 .ret)))))))))))))),[.tmp 8,.tmp 9]⟩
theorem SB:aE Tryz.prog Tryz.f272=some rI:=by kernel_rfl
def v8:aC:=(.seq (.seq (.region [
 Mv 13 8,
 Mv 14 9,
 D 15 (.bin .lss (T 13) (T 14))])
 (.cond (T 15)
 .skip
 (.exit 0)))
 (.block 1 (.seq (.drawn [
 Fq 16 0 (.mv (T 0)),
 Fq 17 0 (.mv (T 8)),
 Fq 18 0 (.mv (T 0)),
 Fq 19 0 (.mv (T 9)),
 Fq 20 0 (.mv (T 0)),
 Fq 21 0 (.mv (T 9)),
 Fq 22 48 (.aI 2 (T 20) (T 21)),
 Fq 23 112 (.load (some 2) (T 22)),
 Fq 24 0 (.mv (T 0)),
 Fq 25 0 (.mv (T 8)),
 Fq 26 768 (.aI 2 (T 24) (T 25)),
 Fq 27 1792 (.load (some 2) (T 26)),
 Fq 28 4083 (.aI 2 (T 16) (T 17)),
 ⟨none,none,8179,true,.store 2 (T 28) (T 23)⟩,
 Fq 29 16383 (.aI 2 (T 18) (T 19)),
 ⟨none,none,32767,true,.store 2 (T 29) (T 27)⟩])
 (.seq (.region [
 Mv 30 8,
 D 31 (.bin .add (T 30) (Ki 1)),
 Mv 8 31])
 (.region [
 Mv 32 9,
 D 33 (.bin .sub (T 32) (Ki 1)),
 Mv 9 33])))))
def Lq:AFn:=⟨(.seq (.region [
 Mv 10 1,
 Mv 8 10])
 (.seq (.region [
 Mv 11 2,
 D 12 (.bin .sub (T 11) (Ki 1)),
 Mv 9 12])
 (.block 0 (.loop [8,9,0] v8)))),[]⟩
theorem SC:aE Tryz.prog Tryz.f273=some Lq:=by kernel_rfl
def CU:aC:=(.seq (.seq (.region [
 Mv 107 12,
 Mv 108 2,
 D 109 (.bin .lss (T 107) (T 108))])
 (.cond (T 109)
 .skip
 (.exit 6)))
 (.seq (.block 7 (.seq (.seq (.drawn [
 Fq 112 0 (.mv (T 3)),
 Fq 113 0 (.mv (T 0)),
 Fq 114 0 (.mv (T 12)),
 Fq 115 6 (.aI 2 (T 113) (T 114)),
 Fq 116 14 (.load (some 2) (T 115)),
 Fq 117 0 (.mv (T 0)),
 Fq 118 0 (.mv (T 12)),
 Fq 119 64 (.bin .sub (T 118) (Ki 1)),
 Fq 120 224 (.aI 2 (T 117) (T 119)),
 Fq 121 480 (.load (some 2) (T 120)),
 ⟨(some 122),none,1023,true,.cW (T 112) [(T 116),(T 121)]⟩,
 Fq 123 2047 (.bin .lss (T 122) (Ki 0)),
 Fq 124 4095 (.un .not (T 123))])
 (.cond (T 124)
 (.exit 6)
 .skip))
 (.drawn [
 Fq 125 0 (.mv (T 0)),
 Fq 126 0 (.mv (T 12)),
 Fq 127 0 (.mv (T 0)),
 Fq 128 0 (.mv (T 12)),
 Fq 129 8 (.bin .sub (T 128) (Ki 1)),
 Fq 130 0 (.mv (T 0)),
 Fq 131 0 (.mv (T 12)),
 Fq 132 64 (.bin .sub (T 131) (Ki 1)),
 Fq 133 224 (.aI 2 (T 130) (T 132)),
 Fq 134 480 (.load (some 2) (T 133)),
 Fq 135 0 (.mv (T 0)),
 Fq 136 0 (.mv (T 12)),
 Fq 137 3072 (.aI 2 (T 135) (T 136)),
 Fq 138 7168 (.load (some 2) (T 137)),
 Fq 139 16355 (.aI 2 (T 125) (T 126)),
 ⟨none,none,32739,true,.store 2 (T 139) (T 134)⟩,
 Fq 140 65535 (.aI 2 (T 127) (T 129)),
 ⟨none,none,131071,true,.store 2 (T 140) (T 138)⟩])))
 (.region [
 Mv 110 12,
 D 111 (.bin .add (T 110) (Ki 1)),
 Mv 12 111])))
def v9:aC:=(.seq (.seq (.region [
 Mv 68 11,
 D 69 (.bin .geq (T 68) (Ki 1))])
 (.cond (T 69)
 .skip
 (.exit 4)))
 (.seq (.block 5 (.seq (.seq (.drawn [
 Fq 72 0 (.mv (T 3)),
 Fq 73 0 (.mv (T 0)),
 Fq 74 0 (.mv (T 11)),
 Fq 75 6 (.aI 2 (T 73) (T 74)),
 Fq 76 14 (.load (some 2) (T 75)),
 Fq 77 0 (.mv (T 0)),
 Fq 78 0 (.mv (T 11)),
 Fq 79 64 (.bin .sub (T 78) (Ki 1)),
 Fq 80 224 (.aI 2 (T 77) (T 79)),
 Fq 81 480 (.load (some 2) (T 80)),
 ⟨(some 82),none,1023,true,.cW (T 72) [(T 76),(T 81)]⟩,
 Fq 83 2047 (.bin .lss (T 82) (Ki 0)),
 Fq 84 4095 (.un .not (T 83))])
 (.cond (T 84)
 (.exit 4)
 .skip))
 (.drawn [
 Fq 85 0 (.mv (T 0)),
 Fq 86 0 (.mv (T 11)),
 Fq 87 0 (.mv (T 0)),
 Fq 88 0 (.mv (T 11)),
 Fq 89 8 (.bin .sub (T 88) (Ki 1)),
 Fq 90 0 (.mv (T 0)),
 Fq 91 0 (.mv (T 11)),
 Fq 92 64 (.bin .sub (T 91) (Ki 1)),
 Fq 93 224 (.aI 2 (T 90) (T 92)),
 Fq 94 480 (.load (some 2) (T 93)),
 Fq 95 0 (.mv (T 0)),
 Fq 96 0 (.mv (T 11)),
 Fq 97 3072 (.aI 2 (T 95) (T 96)),
 Fq 98 7168 (.load (some 2) (T 97)),
 Fq 99 16355 (.aI 2 (T 85) (T 86)),
 ⟨none,none,32739,true,.store 2 (T 99) (T 94)⟩,
 Fq 100 65535 (.aI 2 (T 87) (T 89)),
 ⟨none,none,131071,true,.store 2 (T 100) (T 98)⟩])))
 (.region [
 Mv 70 11,
 D 71 (.bin .sub (T 70) (Ki 1)),
 Mv 11 71])))
def CV:aC:=(.seq (.seq (.drawn [
 Fq 19 0 (.mv (T 9)),
 Fq 20 0 (.mv (T 2)),
 Fq 21 3 (.bin .lss (T 19) (T 20)),
 Fq 22 7 (.mv (T 21)),
 Gq 23 22 true 15 (.mv (T 3)),
 Gq 24 22 true 15 (.mv (T 0)),
 Gq 25 22 true 15 (.mv (T 9)),
 Gq 26 22 true 111 (.aI 2 (T 24) (T 25)),
 Gq 27 22 true 239 (.load (some 2) (T 26)),
 Gq 28 22 true 15 (.mv (T 0)),
 Gq 29 22 true 15 (.mv (T 9)),
 Gq 30 22 true 1039 (.bin .sub (T 29) (Ki 1)),
 Gq 31 22 true 3599 (.aI 2 (T 28) (T 30)),
 Gq 32 22 true 7695 (.load (some 2) (T 31)),
 ⟨(some 33),(some (22,true)),16383,true,.cW (T 23) [(T 27),(T 32)]⟩,
 Gq 34 22 true 32767 (.bin .lss (T 33) (Ki 0)),
 Gq 35 22 true 65535 (.un .not (T 34)),
 Fq 36 131071 (.pick (T 22) (T 35) (Kb false))])
 (.cond (T 36)
 .skip
 (.exit 2)))
 (.block 3 (.region [
 Mv 37 9,
 D 38 (.bin .add (T 37) (Ki 1)),
 Mv 9 38])))
def wg:aC:=(.seq (.seq (.region [
 Mv 15 10,
 D 16 (.bin .lss (T 15) (Ki 5))])
 (.cond (T 16)
 .skip
 (.exit 0)))
 (.seq (.block 1 (.seq (.block 2 (.loop [9,2,3,0,1,10] CV))
 (.seq (.seq (.region [
 Mv 39 9,
 Mv 40 2,
 D 41 (.bin .eql (T 39) (T 40))])
 (.cond (T 41)
 (.seq (.region [
 D 8 (.mv (Kb true))])
 .ret)
 .skip))
 (.seq (.seq (.region [
 Mv 42 2,
 Mv 43 1,
 D 44 (.bin .sub (T 42) (T 43)),
 D 45 (.bin .lss (T 44) (Ki 50))])
 (.cond (T 45)
 (.seq (.region [
 D 8 (.mv (Kb false))])
 .ret)
 .skip))
 (.seq (.drawn [
 Fq 46 0 (.mv (T 0)),
 Fq 47 0 (.mv (T 9)),
 Fq 48 0 (.mv (T 0)),
 Fq 49 0 (.mv (T 9)),
 Fq 50 8 (.bin .sub (T 49) (Ki 1)),
 Fq 51 0 (.mv (T 0)),
 Fq 52 0 (.mv (T 9)),
 Fq 53 64 (.bin .sub (T 52) (Ki 1)),
 Fq 54 224 (.aI 2 (T 51) (T 53)),
 Fq 55 480 (.load (some 2) (T 54)),
 Fq 56 0 (.mv (T 0)),
 Fq 57 0 (.mv (T 9)),
 Fq 58 3072 (.aI 2 (T 56) (T 57)),
 Fq 59 7168 (.load (some 2) (T 58)),
 Fq 60 16355 (.aI 2 (T 46) (T 47)),
 ⟨none,none,32739,true,.store 2 (T 60) (T 55)⟩,
 Fq 61 65535 (.aI 2 (T 48) (T 50)),
 ⟨none,none,131071,true,.store 2 (T 61) (T 59)⟩])
 (.seq (.seq (.region [
 Mv 62 9,
 Mv 63 1,
 D 64 (.bin .sub (T 62) (T 63)),
 D 65 (.bin .geq (T 64) (Ki 2))])
 (.cond (T 65)
 (.seq (.region [
 Mv 66 9,
 D 67 (.bin .sub (T 66) (Ki 1)),
 Mv 11 67])
 (.block 4 (.loop [11,10,9,1,0,3,2] v9)))
 .skip))
 (.seq (.region [
 Mv 101 2,
 Mv 102 9,
 D 103 (.bin .sub (T 101) (T 102)),
 D 104 (.bin .geq (T 103) (Ki 2))])
 (.cond (T 104)
 (.seq (.region [
 Mv 105 9,
 D 106 (.bin .add (T 105) (Ki 1)),
 Mv 12 106])
 (.block 6 (.loop [12,10,9,1,0,3,2] CU)))
 .skip))))))))
 (.region [
 Mv 17 10,
 D 18 (.bin .add (T 17) (Ki 1)),
 Mv 10 18])))
def F3:AFn:=⟨(.seq (.region [
 D 8 (.mv (Kb false))])
 (.seq (.region [
 Mv 13 1,
 D 14 (.bin .add (T 13) (Ki 1)),
 Mv 9 14])
 (.seq (.seq (.region [
 D 10 (.mv (Ki 0))])
 (.block 0 (.loop [9,1,0,3,2,10] wg)))
 (.seq (.region [
 D 8 (.mv (Kb false))])
 .ret)))),[.tmp 8]⟩
theorem SD:aE Tryz.prog Tryz.f274=some F3:=by kernel_rfl
def wh:aC:=(.seq (.seq (.drawn [
 Fq 50 0 (.mv (T 11)),
 Fq 51 0 (.mv (T 12)),
 Fq 52 3 (.bin .leq (T 50) (T 51)),
 Fq 53 7 (.mv (T 52)),
 Gq 54 53 true 15 (.mv (T 4)),
 Gq 55 53 true 15 (.mv (T 0)),
 Gq 56 53 true 15 (.mv (T 1)),
 Gq 57 53 true 111 (.aI 2 (T 55) (T 56)),
 Gq 58 53 true 239 (.load (some 2) (T 57)),
 Gq 59 53 true 15 (.mv (T 0)),
 Gq 60 53 true 15 (.mv (T 12)),
 Gq 61 53 true 1551 (.aI 2 (T 59) (T 60)),
 Gq 62 53 true 3599 (.load (some 2) (T 61)),
 ⟨(some 63),(some (53,true)),8191,true,.cW (T 54) [(T 58),(T 62)]⟩,
 Gq 64 53 true 16383 (.bin .lss (T 63) (Ki 0)),
 Fq 65 32767 (.pick (T 53) (T 64) (Kb false))])
 (.cond (T 65)
 .skip
 (.exit 4)))
 (.block 5 (.region [
 Mv 66 12,
 D 67 (.bin .sub (T 66) (Ki 1)),
 Mv 12 67])))
def CW:aC:=(.seq (.seq (.drawn [
 Fq 31 0 (.mv (T 11)),
 Fq 32 0 (.mv (T 12)),
 Fq 33 3 (.bin .leq (T 31) (T 32)),
 Fq 34 7 (.mv (T 33)),
 Gq 35 34 true 15 (.mv (T 4)),
 Gq 36 34 true 15 (.mv (T 0)),
 Gq 37 34 true 15 (.mv (T 1)),
 Gq 38 34 true 111 (.aI 2 (T 36) (T 37)),
 Gq 39 34 true 239 (.load (some 2) (T 38)),
 Gq 40 34 true 15 (.mv (T 0)),
 Gq 41 34 true 15 (.mv (T 11)),
 Gq 42 34 true 1551 (.aI 2 (T 40) (T 41)),
 Gq 43 34 true 3599 (.load (some 2) (T 42)),
 ⟨(some 44),(some (34,true)),8191,true,.cW (T 35) [(T 39),(T 43)]⟩,
 Gq 45 34 true 16383 (.bin .lss (T 44) (Ki 0)),
 Gq 46 34 true 32767 (.un .not (T 45)),
 Fq 47 65535 (.pick (T 34) (T 46) (Kb false))])
 (.cond (T 47)
 .skip
 (.exit 2)))
 (.block 3 (.region [
 Mv 48 11,
 D 49 (.bin .add (T 48) (Ki 1)),
 Mv 11 49])))
def wj:aC:=(.block 1 (.seq (.block 2 (.loop [11,0,1,4,12] CW))
 (.seq (.block 4 (.loop [12,11,4,1,0] wh))
 (.seq (.seq (.region [
 Mv 68 11,
 Mv 69 12,
 D 70 (.bin .gtr (T 68) (T 69))])
 (.cond (T 70)
 (.exit 0)
 .skip))
 (.seq (.drawn [
 Fq 71 0 (.mv (T 0)),
 Fq 72 0 (.mv (T 11)),
 Fq 73 0 (.mv (T 0)),
 Fq 74 0 (.mv (T 12)),
 Fq 75 0 (.mv (T 0)),
 Fq 76 0 (.mv (T 12)),
 Fq 77 48 (.aI 2 (T 75) (T 76)),
 Fq 78 112 (.load (some 2) (T 77)),
 Fq 79 0 (.mv (T 0)),
 Fq 80 0 (.mv (T 11)),
 Fq 81 768 (.aI 2 (T 79) (T 80)),
 Fq 82 1792 (.load (some 2) (T 81)),
 Fq 83 4083 (.aI 2 (T 71) (T 72)),
 ⟨none,none,8179,true,.store 2 (T 83) (T 78)⟩,
 Fq 84 16383 (.aI 2 (T 73) (T 74)),
 ⟨none,none,32767,true,.store 2 (T 84) (T 82)⟩])
 (.seq (.region [
 Mv 85 11,
 D 86 (.bin .add (T 85) (Ki 1)),
 Mv 11 86])
 (.region [
 Mv 87 12,
 D 88 (.bin .sub (T 87) (Ki 1)),
 Mv 12 88])))))))
def Lr:AFn:=⟨(.seq (.region [
 D 10 (.mv (Ki 0))])
 (.seq (.drawn [
 Fq 13 0 (.mv (T 0)),
 Fq 14 0 (.mv (T 1)),
 Fq 15 0 (.mv (T 0)),
 Fq 16 0 (.mv (T 3)),
 Fq 17 0 (.mv (T 0)),
 Fq 18 0 (.mv (T 3)),
 Fq 19 48 (.aI 2 (T 17) (T 18)),
 Fq 20 112 (.load (some 2) (T 19)),
 Fq 21 0 (.mv (T 0)),
 Fq 22 0 (.mv (T 1)),
 Fq 23 768 (.aI 2 (T 21) (T 22)),
 Fq 24 1792 (.load (some 2) (T 23)),
 Fq 25 4083 (.aI 2 (T 13) (T 14)),
 ⟨none,none,8179,true,.store 2 (T 25) (T 20)⟩,
 Fq 26 16383 (.aI 2 (T 15) (T 16)),
 ⟨none,none,32767,true,.store 2 (T 26) (T 24)⟩])
 (.seq (.region [
 Mv 27 1,
 D 28 (.bin .add (T 27) (Ki 1)),
 Mv 29 2,
 D 30 (.bin .sub (T 29) (Ki 1)),
 Mv 11 28,
 Mv 12 30])
 (.seq (.block 0 (.loop [11,4,1,0,12] wj))
 (.seq (.region [
 Mv 89 11,
 Mv 10 89])
 .ret))))),[.tmp 10]⟩
theorem SE:aE Tryz.prog Tryz.f275=some Lr:=by kernel_rfl
def wk:aC:=(.seq (.seq (.drawn [
 Fq 123 0 (.mv (T 12)),
 Fq 124 0 (.mv (T 13)),
 Fq 125 3 (.bin .leq (T 123) (T 124)),
 Fq 126 7 (.mv (T 125)),
 Gq 127 126 true 15 (.mv (T 4)),
 Gq 128 126 true 15 (.mv (T 0)),
 Gq 129 126 true 15 (.mv (T 13)),
 Gq 130 126 true 111 (.aI 2 (T 128) (T 129)),
 Gq 131 126 true 239 (.load (some 2) (T 130)),
 Gq 132 126 true 15 (.mv (T 0)),
 Gq 133 126 true 15 (.mv (T 1)),
 Gq 134 126 true 1551 (.aI 2 (T 132) (T 133)),
 Gq 135 126 true 3599 (.load (some 2) (T 134)),
 ⟨(some 136),(some (126,true)),8191,true,.cW (T 127) [(T 131),(T 135)]⟩,
 Gq 137 126 true 16383 (.bin .lss (T 136) (Ki 0)),
 Gq 138 126 true 32767 (.un .not (T 137)),
 Fq 139 65535 (.pick (T 126) (T 138) (Kb false))])
 (.cond (T 139)
 .skip
 (.exit 8)))
 (.block 9 (.region [
 Mv 140 13,
 D 141 (.bin .sub (T 140) (Ki 1)),
 Mv 13 141])))
def CX:aC:=(.seq (.seq (.drawn [
 Fq 105 0 (.mv (T 12)),
 Fq 106 0 (.mv (T 13)),
 Fq 107 3 (.bin .leq (T 105) (T 106)),
 Fq 108 7 (.mv (T 107)),
 Gq 109 108 true 15 (.mv (T 4)),
 Gq 110 108 true 15 (.mv (T 0)),
 Gq 111 108 true 15 (.mv (T 12)),
 Gq 112 108 true 111 (.aI 2 (T 110) (T 111)),
 Gq 113 108 true 239 (.load (some 2) (T 112)),
 Gq 114 108 true 15 (.mv (T 0)),
 Gq 115 108 true 15 (.mv (T 1)),
 Gq 116 108 true 1551 (.aI 2 (T 114) (T 115)),
 Gq 117 108 true 3599 (.load (some 2) (T 116)),
 ⟨(some 118),(some (108,true)),8191,true,.cW (T 109) [(T 113),(T 117)]⟩,
 Gq 119 108 true 16383 (.bin .lss (T 118) (Ki 0)),
 Fq 120 32767 (.pick (T 108) (T 119) (Kb false))])
 (.cond (T 120)
 .skip
 (.exit 6)))
 (.block 7 (.region [
 Mv 121 12,
 D 122 (.bin .add (T 121) (Ki 1)),
 Mv 12 122])))
def wm:aC:=(.block 5 (.seq (.block 6 (.loop [12,4,1,0,13] CX))
 (.seq (.block 8 (.loop [13,0,1,12,4] wk))
 (.seq (.seq (.region [
 Mv 142 12,
 Mv 143 13,
 D 144 (.bin .gtr (T 142) (T 143))])
 (.cond (T 144)
 (.exit 4)
 .skip))
 (.seq (.drawn [
 Fq 145 0 (.mv (T 0)),
 Fq 146 0 (.mv (T 12)),
 Fq 147 0 (.mv (T 0)),
 Fq 148 0 (.mv (T 13)),
 Fq 149 0 (.mv (T 0)),
 Fq 150 0 (.mv (T 13)),
 Fq 151 48 (.aI 2 (T 149) (T 150)),
 Fq 152 112 (.load (some 2) (T 151)),
 Fq 153 0 (.mv (T 0)),
 Fq 154 0 (.mv (T 12)),
 Fq 155 768 (.aI 2 (T 153) (T 154)),
 Fq 156 1792 (.load (some 2) (T 155)),
 Fq 157 4083 (.aI 2 (T 145) (T 146)),
 ⟨none,none,8179,true,.store 2 (T 157) (T 152)⟩,
 Fq 158 16383 (.aI 2 (T 147) (T 148)),
 ⟨none,none,32767,true,.store 2 (T 158) (T 156)⟩])
 (.seq (.region [
 Mv 159 12,
 D 160 (.bin .add (T 159) (Ki 1)),
 Mv 12 160])
 (.region [
 Mv 161 13,
 D 162 (.bin .sub (T 161) (Ki 1)),
 Mv 13 162])))))))
def wo:aC:=(.seq (.seq (.drawn [
 Fq 50 0 (.mv (T 12)),
 Fq 51 0 (.mv (T 13)),
 Fq 52 3 (.bin .leq (T 50) (T 51)),
 Fq 53 7 (.mv (T 52)),
 Gq 54 53 true 15 (.mv (T 4)),
 Gq 55 53 true 15 (.mv (T 0)),
 Gq 56 53 true 15 (.mv (T 13)),
 Gq 57 53 true 111 (.aI 2 (T 55) (T 56)),
 Gq 58 53 true 239 (.load (some 2) (T 57)),
 Gq 59 53 true 15 (.mv (T 0)),
 Gq 60 53 true 15 (.mv (T 1)),
 Gq 61 53 true 1551 (.aI 2 (T 59) (T 60)),
 Gq 62 53 true 3599 (.load (some 2) (T 61)),
 ⟨(some 63),(some (53,true)),8191,true,.cW (T 54) [(T 58),(T 62)]⟩,
 Gq 64 53 true 16383 (.bin .lss (T 63) (Ki 0)),
 Gq 65 53 true 32767 (.un .not (T 64)),
 Fq 66 65535 (.pick (T 53) (T 65) (Kb false))])
 (.cond (T 66)
 .skip
 (.exit 2)))
 (.block 3 (.region [
 Mv 67 13,
 D 68 (.bin .sub (T 67) (Ki 1)),
 Mv 13 68])))
def CY:aC:=(.seq (.seq (.drawn [
 Fq 32 0 (.mv (T 12)),
 Fq 33 0 (.mv (T 13)),
 Fq 34 3 (.bin .leq (T 32) (T 33)),
 Fq 35 7 (.mv (T 34)),
 Gq 36 35 true 15 (.mv (T 4)),
 Gq 37 35 true 15 (.mv (T 0)),
 Gq 38 35 true 15 (.mv (T 12)),
 Gq 39 35 true 111 (.aI 2 (T 37) (T 38)),
 Gq 40 35 true 239 (.load (some 2) (T 39)),
 Gq 41 35 true 15 (.mv (T 0)),
 Gq 42 35 true 15 (.mv (T 1)),
 Gq 43 35 true 1551 (.aI 2 (T 41) (T 42)),
 Gq 44 35 true 3599 (.load (some 2) (T 43)),
 ⟨(some 45),(some (35,true)),8191,true,.cW (T 36) [(T 40),(T 44)]⟩,
 Gq 46 35 true 16383 (.bin .lss (T 45) (Ki 0)),
 Fq 47 32767 (.pick (T 35) (T 46) (Kb false))])
 (.cond (T 47)
 .skip
 (.exit 0)))
 (.block 1 (.region [
 Mv 48 12,
 D 49 (.bin .add (T 48) (Ki 1)),
 Mv 12 49])))
def F4:AFn:=⟨(.seq (.region [
 D 10 (.mv (Ki 0)),
 D 11 (.mv (Kb false))])
 (.seq (.drawn [
 Fq 14 0 (.mv (T 0)),
 Fq 15 0 (.mv (T 1)),
 Fq 16 0 (.mv (T 0)),
 Fq 17 0 (.mv (T 3)),
 Fq 18 0 (.mv (T 0)),
 Fq 19 0 (.mv (T 3)),
 Fq 20 48 (.aI 2 (T 18) (T 19)),
 Fq 21 112 (.load (some 2) (T 20)),
 Fq 22 0 (.mv (T 0)),
 Fq 23 0 (.mv (T 1)),
 Fq 24 768 (.aI 2 (T 22) (T 23)),
 Fq 25 1792 (.load (some 2) (T 24)),
 Fq 26 4083 (.aI 2 (T 14) (T 15)),
 ⟨none,none,8179,true,.store 2 (T 26) (T 21)⟩,
 Fq 27 16383 (.aI 2 (T 16) (T 17)),
 ⟨none,none,32767,true,.store 2 (T 27) (T 25)⟩])
 (.seq (.region [
 Mv 28 1,
 D 29 (.bin .add (T 28) (Ki 1)),
 Mv 30 2,
 D 31 (.bin .sub (T 30) (Ki 1)),
 Mv 12 29,
 Mv 13 31])
 (.seq (.block 0 (.loop [12,4,1,0,13] CY))
 (.seq (.block 2 (.loop [13,0,1,12,4] wo))
 (.seq (.seq (.region [
 Mv 69 12,
 Mv 70 13,
 D 71 (.bin .gtr (T 69) (T 70))])
 (.cond (T 71)
 (.seq (.drawn [
 Fq 72 0 (.mv (T 0)),
 Fq 73 0 (.mv (T 13)),
 Fq 74 0 (.mv (T 0)),
 Fq 75 0 (.mv (T 1)),
 Fq 76 0 (.mv (T 0)),
 Fq 77 0 (.mv (T 1)),
 Fq 78 48 (.aI 2 (T 76) (T 77)),
 Fq 79 112 (.load (some 2) (T 78)),
 Fq 80 0 (.mv (T 0)),
 Fq 81 0 (.mv (T 13)),
 Fq 82 768 (.aI 2 (T 80) (T 81)),
 Fq 83 1792 (.load (some 2) (T 82)),
 Fq 84 4083 (.aI 2 (T 72) (T 73)),
 ⟨none,none,8179,true,.store 2 (T 84) (T 79)⟩,
 Fq 85 16383 (.aI 2 (T 74) (T 75)),
 ⟨none,none,32767,true,.store 2 (T 85) (T 83)⟩])
 (.seq (.region [
 Mv 86 13,
 Mv 10 86,
 D 11 (.mv (Kb true))])
 .ret))
 .skip))
 (.seq (.drawn [
 Fq 87 0 (.mv (T 0)),
 Fq 88 0 (.mv (T 12)),
 Fq 89 0 (.mv (T 0)),
 Fq 90 0 (.mv (T 13)),
 Fq 91 0 (.mv (T 0)),
 Fq 92 0 (.mv (T 13)),
 Fq 93 48 (.aI 2 (T 91) (T 92)),
 Fq 94 112 (.load (some 2) (T 93)),
 Fq 95 0 (.mv (T 0)),
 Fq 96 0 (.mv (T 12)),
 Fq 97 768 (.aI 2 (T 95) (T 96)),
 Fq 98 1792 (.load (some 2) (T 97)),
 Fq 99 4083 (.aI 2 (T 87) (T 88)),
 ⟨none,none,8179,true,.store 2 (T 99) (T 94)⟩,
 Fq 100 16383 (.aI 2 (T 89) (T 90)),
 ⟨none,none,32767,true,.store 2 (T 100) (T 98)⟩])
 (.seq (.region [
 Mv 101 12,
 D 102 (.bin .add (T 101) (Ki 1)),
 Mv 12 102])
 (.seq (.region [
 Mv 103 13,
 D 104 (.bin .sub (T 103) (Ki 1)),
 Mv 13 104])
 (.seq (.block 4 (.loop [12,4,1,0,13] wm))
 (.seq (.drawn [
 Fq 163 0 (.mv (T 0)),
 Fq 164 0 (.mv (T 13)),
 Fq 165 0 (.mv (T 0)),
 Fq 166 0 (.mv (T 1)),
 Fq 167 0 (.mv (T 0)),
 Fq 168 0 (.mv (T 1)),
 Fq 169 48 (.aI 2 (T 167) (T 168)),
 Fq 170 112 (.load (some 2) (T 169)),
 Fq 171 0 (.mv (T 0)),
 Fq 172 0 (.mv (T 13)),
 Fq 173 768 (.aI 2 (T 171) (T 172)),
 Fq 174 1792 (.load (some 2) (T 173)),
 Fq 175 4083 (.aI 2 (T 163) (T 164)),
 ⟨none,none,8179,true,.store 2 (T 175) (T 170)⟩,
 Fq 176 16383 (.aI 2 (T 165) (T 166)),
 ⟨none,none,32767,true,.store 2 (T 176) (T 174)⟩])
 (.seq (.region [
 Mv 177 13,
 Mv 10 177,
 D 11 (.mv (Kb false))])
 .ret)))))))))))),[.tmp 10,.tmp 11]⟩
theorem SF:aE Tryz.prog Tryz.f276=some F4:=by kernel_rfl
def Ls:AFn:=⟨(.seq (.region [
 D 2 (.mv (Ki 0))])
 (.seq (.seq (.region [
 Mv 3 0,
 D 4 (.bin .geq (T 3) (C (.int .u64 4294967296)))])
 (.cond (T 4)
 (.seq (.region [
 Mv 5 0,
 D 6 (.bin .shr (T 5) (C (.int .u64 32))),
 Mv 0 6])
 (.region [
 D 2 (.mv (Ki 32))]))
 .skip))
 (.seq (.seq (.region [
 Mv 7 0,
 D 8 (.bin .geq (T 7) (C (.int .u64 65536)))])
 (.cond (T 8)
 (.seq (.region [
 Mv 9 0,
 D 10 (.bin .shr (T 9) (C (.int .u64 16))),
 Mv 0 10])
 (.region [
 Mv 11 2,
 D 12 (.bin .add (T 11) (Ki 16)),
 Mv 2 12]))
 .skip))
 (.seq (.seq (.region [
 Mv 13 0,
 D 14 (.bin .geq (T 13) (C (.int .u64 256)))])
 (.cond (T 14)
 (.seq (.region [
 Mv 15 0,
 D 16 (.bin .shr (T 15) (C (.int .u64 8))),
 Mv 0 16])
 (.region [
 Mv 17 2,
 D 18 (.bin .add (T 17) (Ki 8)),
 Mv 2 18]))
 .skip))
 (.seq (.region [
 Mv 19 2,
 Mv 20 0,
 D 21 (.conv .u8 (T 20)),
 D 22 (.idxs (C (.string ⟨#[0,1,2,2,3,3,3,3,4,4,4,4,4,4,4,4,5,5,5,5,5,5,5,5,5,5,5,5,5,5,5,5,6,6,6,6,6,6,6,6,6,6,6,6,6,6,6,6,6,6,6,6,6,6,6,6,6,6,6,6,6,6,6,6,7,7,7,7,7,7,7,7,7,7,7,7,7,7,7,7,7,7,7,7,7,7,7,7,7,7,7,7,7,7,7,7,7,7,7,7,7,7,7,7,7,7,7,7,7,7,7,7,7,7,7,7,7,7,7,7,7,7,7,7,7,7,7,7,8,8,8,8,8,8,8,8,8,8,8,8,8,8,8,8,8,8,8,8,8,8,8,8,8,8,8,8,8,8,8,8,8,8,8,8,8,8,8,8,8,8,8,8,8,8,8,8,8,8,8,8,8,8,8,8,8,8,8,8,8,8,8,8,8,8,8,8,8,8,8,8,8,8,8,8,8,8,8,8,8,8,8,8,8,8,8,8,8,8,8,8,8,8,8,8,8,8,8,8,8,8,8,8,8,8,8,8,8,8,8,8,8,8,8,8,8,8,8,8,8,8,8,8,8,8,8,8]⟩)) (T 21)),
 D 23 (.conv .i64 (T 22)),
 D 24 (.bin .add (T 19) (T 23)),
 Mv 2 24])
 .ret))))),[.tmp 2]⟩
theorem SG:aE Tryz.prog Tryz.f278=some Ls:=by kernel_rfl
def Lt:AFn:=⟨(.seq (.region [
 D 4 (.mv (C (.int .u64 0))),
 D 5 (.mv (C (.int .u64 0)))])
 (.seq (.region [
 Mv 14 0,
 D 15 (.bin .and (T 14) (C (.int .u64 4294967295))),
 Mv 6 15])
 (.seq (.region [
 Mv 16 0,
 D 17 (.bin .shr (T 16) (C (.int .u64 32))),
 Mv 7 17])
 (.seq (.region [
 Mv 18 1,
 D 19 (.bin .and (T 18) (C (.int .u64 4294967295))),
 Mv 8 19])
 (.seq (.region [
 Mv 20 1,
 D 21 (.bin .shr (T 20) (C (.int .u64 32))),
 Mv 9 21])
 (.seq (.region [
 Mv 22 6,
 Mv 23 8,
 D 24 (.bin .mul (T 22) (T 23)),
 Mv 10 24])
 (.seq (.region [
 Mv 25 7,
 Mv 26 8,
 D 27 (.bin .mul (T 25) (T 26)),
 Mv 28 10,
 D 29 (.bin .shr (T 28) (C (.int .u64 32))),
 D 30 (.bin .add (T 27) (T 29)),
 Mv 11 30])
 (.seq (.region [
 Mv 31 11,
 D 32 (.bin .and (T 31) (C (.int .u64 4294967295))),
 Mv 12 32])
 (.seq (.region [
 Mv 33 11,
 D 34 (.bin .shr (T 33) (C (.int .u64 32))),
 Mv 13 34])
 (.seq (.region [
 Mv 35 12,
 Mv 36 6,
 Mv 37 9,
 D 38 (.bin .mul (T 36) (T 37)),
 D 39 (.bin .add (T 35) (T 38)),
 Mv 12 39])
 (.seq (.region [
 Mv 40 7,
 Mv 41 9,
 D 42 (.bin .mul (T 40) (T 41)),
 Mv 43 13,
 D 44 (.bin .add (T 42) (T 43)),
 Mv 45 12,
 D 46 (.bin .shr (T 45) (C (.int .u64 32))),
 D 47 (.bin .add (T 44) (T 46)),
 Mv 4 47])
 (.seq (.region [
 Mv 48 0,
 Mv 49 1,
 D 50 (.bin .mul (T 48) (T 49)),
 Mv 5 50])
 .ret)))))))))))),[.tmp 4,.tmp 5]⟩
theorem SH:aE Tryz.prog Tryz.f281=some Lt:=by kernel_rfl
def A3:AFn:=⟨(.seq (.region [
 D 2 (.mv (Ki 0))])
 (.seq (.block 0 (.seq (.region [
 Mv 4 0,
 D 5 (.bin .eql (T 4) (C (.int .u8 0))),
 Mv 3 5])
 (.cond (T 3)
 (.seq (.region [
 D 2 (.mv (Ki 0))])
 .ret)
 (.seq (.region [
 Mv 7 0,
 D 8 (.bin .gtr (T 7) (C (.int .u8 15))),
 Mv 6 8])
 (.cond (T 6)
 (.seq (.region [
 D 2 (.mv (Ki 32769))])
 .ret)
 .skip)))))
 (.seq (.region [
 Mv 9 0,
 D 10 (.bin .shr (Ki 32768) (T 9)),
 Mv 2 10])
 .ret))),[.tmp 2]⟩
theorem SI:aE Tryz.prog Tryz.f283=some A3:=by kernel_rfl
def yu:AFn:=⟨(.seq (.region [
 D 2 (.box true (T 0)),
 D 3 (.box true (T 1)),
 D 4 (.mv (Kb false))])
 (.seq (.region [
 D 5 (.aD 1 (T 2)),
 D 6 (.load none (T 5)),
 D 7 (.bin .eql (T 6) (Ki 0)),
 Mv 8 7,
 Gd 9 8 false (.aD 1 (T 3)),
 Gd 10 8 false (.load none (T 9)),
 Gd 11 8 false (.bin .eql (T 10) (Ki 0)),
 D 12 (.pick (T 8) (Kb true) (T 11)),
 Mv 13 12,
 Gd 14 13 false (.aD 0 (T 2)),
 Gd 15 13 false (.load none (T 14)),
 Gd 16 13 false (.aD 1 (T 2)),
 Gd 17 13 false (.load none (T 16)),
 Gd 18 13 false (.bin .add (T 15) (T 17)),
 Gd 19 13 false (.aD 0 (T 3)),
 Gd 20 13 false (.load none (T 19)),
 Gd 21 13 false (.bin .leq (T 18) (T 20)),
 D 22 (.pick (T 13) (Kb true) (T 21)),
 Mv 23 22,
 Gd 24 23 false (.aD 0 (T 3)),
 Gd 25 23 false (.load none (T 24)),
 Gd 26 23 false (.aD 1 (T 3)),
 Gd 27 23 false (.load none (T 26)),
 Gd 28 23 false (.bin .add (T 25) (T 27)),
 Gd 29 23 false (.aD 0 (T 2)),
 Gd 30 23 false (.load none (T 29)),
 Gd 31 23 false (.bin .leq (T 28) (T 30)),
 D 32 (.pick (T 23) (Kb true) (T 31)),
 Mv 4 32])
 .ret)),[.tmp 4]⟩
theorem SJ:aE Tryz.prog Tryz.f284=some yu:=by kernel_rfl
def A4:AFn:=⟨(.seq (.region [
 D 4 (.mv (Ki 0))])
 (.seq (.seq (.region [
 Mv 5 0,
 D 6 (.call 268 [(T 5),(Ki 0),(Ki 65536)]),
 D 7 (.un .not (T 6)),
 Mv 8 7,
 Gd 9 8 false (.mv (T 1)),
 Gd 10 8 false (.call 268 [(T 9),(Ki 1),(Ki 65536)]),
 Gd 11 8 false (.un .not (T 10)),
 D 12 (.pick (T 8) (Kb true) (T 11))])
 (.cond (T 12)
 (.seq (.region [
 D 4 (.mv (Ki 0))])
 .ret)
 .skip))
 (.seq (.region [
 Mv 13 0,
 Mv 14 1,
 D 15 (.bin .quo (T 13) (T 14)),
 D 16 (.bin .mul (T 15) (Ki 1024)),
 Mv 4 16])
 .ret))),[.tmp 4]⟩
theorem SK:aE Tryz.prog Tryz.f285=some A4:=by kernel_rfl
def CZ:aC:=(.block 1 (.seq (.region [
 Mv 13 10,
 D 14 (.bin .mul (Ki 2) (T 13)),
 D 15 (.bin .add (T 14) (Ki 1)),
 Mv 11 15])
 (.seq (.seq (.region [
 Mv 16 11,
 Mv 17 2,
 D 18 (.bin .geq (T 16) (T 17))])
 (.cond (T 18)
 (.exit 0)
 .skip))
 (.seq (.seq (.drawn [
 Fq 19 0 (.mv (T 11)),
 Fq 20 1 (.bin .add (T 19) (Ki 1)),
 Fq 21 0 (.mv (T 2)),
 Fq 22 7 (.bin .lss (T 20) (T 21)),
 Fq 23 15 (.mv (T 22)),
 Gq 24 23 true 31 (.mv (T 4)),
 Gq 25 23 true 31 (.mv (T 0)),
 Gq 26 23 true 31 (.mv (T 3)),
 Gq 27 23 true 31 (.mv (T 11)),
 Gq 28 23 true 415 (.bin .add (T 26) (T 27)),
 Gq 29 23 true 991 (.aI 2 (T 25) (T 28)),
 Gq 30 23 true 2015 (.load (some 2) (T 29)),
 Gq 31 23 true 31 (.mv (T 0)),
 Gq 32 23 true 31 (.mv (T 3)),
 Gq 33 23 true 31 (.mv (T 11)),
 Gq 34 23 true 24607 (.bin .add (T 32) (T 33)),
 Gq 35 23 true 57375 (.bin .add (T 34) (Ki 1)),
 Gq 36 23 true 127007 (.aI 2 (T 31) (T 35)),
 Gq 37 23 true 258079 (.load (some 2) (T 36)),
 ⟨(some 38),(some (23,true)),524287,true,.cW (T 24) [(T 30),(T 37)]⟩,
 Gq 39 23 true 1048575 (.bin .lss (T 38) (Ki 0)),
 Fq 40 2097151 (.pick (T 23) (T 39) (Kb false))])
 (.cond (T 40)
 (.region [
 Mv 41 11,
 D 42 (.bin .add (T 41) (Ki 1)),
 Mv 11 42])
 .skip))
 (.seq (.seq (.drawn [
 Fq 43 0 (.mv (T 4)),
 Fq 44 0 (.mv (T 0)),
 Fq 45 0 (.mv (T 3)),
 Fq 46 0 (.mv (T 10)),
 Fq 47 12 (.bin .add (T 45) (T 46)),
 Fq 48 30 (.aI 2 (T 44) (T 47)),
 Fq 49 62 (.load (some 2) (T 48)),
 Fq 50 0 (.mv (T 0)),
 Fq 51 0 (.mv (T 3)),
 Fq 52 0 (.mv (T 11)),
 Fq 53 768 (.bin .add (T 51) (T 52)),
 Fq 54 1920 (.aI 2 (T 50) (T 53)),
 Fq 55 3968 (.load (some 2) (T 54)),
 ⟨(some 56),none,8191,true,.cW (T 43) [(T 49),(T 55)]⟩,
 Fq 57 16383 (.bin .lss (T 56) (Ki 0)),
 Fq 58 32767 (.un .not (T 57))])
 (.cond (T 58)
 .ret
 .skip))
 (.seq (.drawn [
 Fq 59 0 (.mv (T 0)),
 Fq 60 0 (.mv (T 3)),
 Fq 61 0 (.mv (T 10)),
 Fq 62 6 (.bin .add (T 60) (T 61)),
 Fq 63 0 (.mv (T 0)),
 Fq 64 0 (.mv (T 3)),
 Fq 65 0 (.mv (T 11)),
 Fq 66 96 (.bin .add (T 64) (T 65)),
 Fq 67 0 (.mv (T 0)),
 Fq 68 0 (.mv (T 3)),
 Fq 69 0 (.mv (T 11)),
 Fq 70 1536 (.bin .add (T 68) (T 69)),
 Fq 71 3840 (.aI 2 (T 67) (T 70)),
 Fq 72 7936 (.load (some 2) (T 71)),
 Fq 73 0 (.mv (T 0)),
 Fq 74 0 (.mv (T 3)),
 Fq 75 0 (.mv (T 10)),
 Fq 76 98304 (.bin .add (T 74) (T 75)),
 Fq 77 245760 (.aI 2 (T 73) (T 76)),
 Fq 78 507904 (.load (some 2) (T 77)),
 Fq 79 1048335 (.aI 2 (T 59) (T 62)),
 ⟨none,none,2096911,true,.store 2 (T 79) (T 72)⟩,
 Fq 80 4194303 (.aI 2 (T 63) (T 66)),
 ⟨none,none,8388607,true,.store 2 (T 80) (T 78)⟩])
 (.region [
 Mv 81 11,
 Mv 10 81])))))))
def F5:AFn:=⟨(.seq (.region [
 Mv 12 1,
 Mv 10 12])
 (.block 0 (.loop [10,0,3,4,2] CZ))),[]⟩
theorem SL:aE Tryz.prog Tryz.f286=some F5:=by kernel_rfl
def Lu:AFn:=⟨(.seq (.region [
 D 2 (.mv (C (.int .u64 0)))])
 (.seq (.region [
 Mv 3 0,
 D 4 (.conv .u64 (T 3)),
 D 5 (.call 256 [(T 4)]),
 D 6 (.bin .shl (C (.int .u64 1)) (T 5)),
 Mv 2 6])
 .ret)),[.tmp 2]⟩
theorem SM:aE Tryz.prog Tryz.f287=some Lu:=by kernel_rfl
def Lv:AFn:=⟨(.seq (.region [
 D 2 (.mv (C (.int .u64 0)))])
 (.seq (.drawn [
 Fq 3 0 (.mv (T 0)),
 Fq 4 1 (.cG (T 3)),
 Fq 5 3 (.load none (T 4)),
 Fq 6 0 (.mv (T 0)),
 Fq 7 8 (.cG (T 6)),
 Fq 8 24 (.load none (T 7)),
 Fq 9 56 (.bin .shl (T 8) (C (.int .u64 13))),
 Fq 10 127 (.bin .xor (T 5) (T 9)),
 Fq 11 255 (.cG (T 3)),
 ⟨none,none,511,true,.store 1 (T 11) (T 10)⟩])
 (.seq (.drawn [
 Fq 12 0 (.mv (T 0)),
 Fq 13 1 (.cG (T 12)),
 Fq 14 3 (.load none (T 13)),
 Fq 15 0 (.mv (T 0)),
 Fq 16 8 (.cG (T 15)),
 Fq 17 24 (.load none (T 16)),
 Fq 18 56 (.bin .shr (T 17) (C (.int .u64 7))),
 Fq 19 127 (.bin .xor (T 14) (T 18)),
 Fq 20 255 (.cG (T 12)),
 ⟨none,none,511,true,.store 1 (T 20) (T 19)⟩])
 (.seq (.drawn [
 Fq 21 0 (.mv (T 0)),
 Fq 22 1 (.cG (T 21)),
 Fq 23 3 (.load none (T 22)),
 Fq 24 0 (.mv (T 0)),
 Fq 25 8 (.cG (T 24)),
 Fq 26 24 (.load none (T 25)),
 Fq 27 56 (.bin .shl (T 26) (C (.int .u64 17))),
 Fq 28 127 (.bin .xor (T 23) (T 27)),
 Fq 29 255 (.cG (T 21)),
 ⟨none,none,511,true,.store 1 (T 29) (T 28)⟩])
 (.seq (.region [
 Mv 30 0,
 D 31 (.cG (T 30)),
 D 32 (.load none (T 31)),
 Mv 2 32])
 .ret))))),[.tmp 2]⟩
theorem SN:aE Tryz.prog Tryz.f288=some Lv:=by kernel_rfl
def Lw:AFn:=⟨(.seq (.region [
 D 8 (.mv (Ki 0))])
 (.seq (.region [
 Mv 9 0,
 Mv 10 1,
 D 11 (.bin .sub (T 10) (Ki 1)),
 Mv 12 1,
 Mv 13 1,
 D 14 (.bin .add (T 13) (Ki 1)),
 Mv 15 2,
 Mv 16 3,
 D 17 (.call 290 [(T 9),(T 11),(T 12),(T 14),(T 15),(T 16)]),
 Mv 8 17])
 .ret)),[.tmp 8]⟩
theorem SO:aE Tryz.prog Tryz.f289=some Lw:=by kernel_rfl
def Lx:AFn:=⟨(.seq (.region [
 D 12 (.mv (Ki 0))])
 (.seq (.region [
 Mv 14 0,
 Mv 15 1,
 Mv 16 2,
 Mv 17 4,
 Mv 18 5,
 D 19 (.call 291 [(T 14),(T 15),(T 16),(T 17),(T 18)]),
 Mv 13 19,
 D 20 (.ext (T 13) 0),
 D 21 (.ext (T 13) 1),
 Mv 1 20,
 Mv 2 21])
 (.seq (.region [
 Mv 23 0,
 Mv 24 2,
 Mv 25 3,
 Mv 26 4,
 Mv 27 5,
 D 28 (.call 291 [(T 23),(T 24),(T 25),(T 26),(T 27)]),
 Mv 22 28,
 D 29 (.ext (T 22) 0),
 D 30 (.ext (T 22) 1),
 Mv 2 29,
 Mv 3 30])
 (.seq (.region [
 Mv 32 0,
 Mv 33 1,
 Mv 34 2,
 Mv 35 4,
 Mv 36 5,
 D 37 (.call 291 [(T 32),(T 33),(T 34),(T 35),(T 36)]),
 Mv 31 37,
 D 38 (.ext (T 31) 0),
 D 39 (.ext (T 31) 1),
 Mv 1 38,
 Mv 2 39])
 (.seq (.region [
 Mv 40 2,
 Mv 12 40])
 .ret))))),[.tmp 12]⟩
theorem SP:aE Tryz.prog Tryz.f290=some Lx:=by kernel_rfl
def F6:AFn:=⟨(.seq (.region [
 D 10 (.mv (Ki 0)),
 D 11 (.mv (Ki 0))])
 (.seq (.seq (.drawn [
 Fq 12 0 (.mv (T 4)),
 Fq 13 0 (.mv (T 0)),
 Fq 14 0 (.mv (T 2)),
 Fq 15 6 (.aI 2 (T 13) (T 14)),
 Fq 16 14 (.load (some 2) (T 15)),
 Fq 17 0 (.mv (T 0)),
 Fq 18 0 (.mv (T 1)),
 Fq 19 96 (.aI 2 (T 17) (T 18)),
 Fq 20 224 (.load (some 2) (T 19)),
 ⟨(some 21),none,511,true,.cW (T 12) [(T 16),(T 20)]⟩,
 Fq 22 1023 (.bin .lss (T 21) (Ki 0))])
 (.cond (T 22)
 (.seq (.region [
 Mv 23 3,
 D 24 (.cG (T 23)),
 D 25 (.load none (T 24)),
 D 26 (.bin .add (T 25) (Ki 1)),
 D 27 (.cG (T 23)),
 E (.store 1 (T 27) (T 26))])
 (.seq (.region [
 Mv 28 2,
 Mv 29 1,
 Mv 10 28,
 Mv 11 29])
 .ret))
 .skip))
 (.seq (.region [
 Mv 30 1,
 Mv 31 2,
 Mv 10 30,
 Mv 11 31])
 .ret))),[.tmp 10,.tmp 11]⟩
theorem SQ:aE Tryz.prog Tryz.f291=some F6:=by kernel_rfl
end af
namespace af
open Go AM
noncomputable def uO:List (Nat×AFn):=[(9,cfn Tryz.f9),(11,cfn Tryz.f11),(12,cfn Tryz.f12),(13,FK),(14,cfn Tryz.f14),(15,VF),(16,cfn Tryz.f16),(17,cfn Tryz.f17),(18,VH),(19,cfn Tryz.f19),(20,Zi),(21,cfn Tryz.f21),(22,cfn Tryz.f22),(23,VK),(24,Jr),(25,N4),(26,RD),(27,cfn Tryz.f27),(28,cfn Tryz.f28),(29,cfn Tryz.f29),(30,cfn Tryz.f30),(31,cfn Tryz.f31),(32,cfn Tryz.f32),(33,cfn Tryz.f33),(34,cfn Tryz.f34),(35,cfn Tryz.f35),(36,cfn Tryz.f36),(37,aa4),(38,cfn Tryz.f38),(39,cfn Tryz.f39),(40,cfn Tryz.f40),(41,cfn Tryz.f41),(42,cfn Tryz.f42),(43,cfn Tryz.f43),(44,cfn Tryz.f44),(45,cfn Tryz.f45),(46,cfn Tryz.f46),(47,cfn Tryz.f47),(48,cfn Tryz.f48),(49,cfn Tryz.f49),(50,cfn Tryz.f50),(51,cfn Tryz.f51),(52,cfn Tryz.f52),(53,VQ),(54,cfn Tryz.f54),(55,cfn Tryz.f55),(56,cfn Tryz.f56),(57,cfn Tryz.f57),(58,cfn Tryz.f58),(59,cfn Tryz.f59),(60,cfn Tryz.f60),(61,cfn Tryz.f61),(62,cfn Tryz.f62),(63,cfn Tryz.f63),(64,cfn Tryz.f64),(65,cfn Tryz.f65),(66,cfn Tryz.f66),(67,cfn Tryz.f67),(68,VS),(69,VU),(70,vn),(71,RE),(72,VY),(73,RF),(74,cfn Tryz.f74),(75,cfn Tryz.f75),(76,cfn Tryz.f76),(77,cfn Tryz.f77),(78,cfn Tryz.f78),(79,cfn Tryz.f79),(80,cfn Tryz.f80),(81,cfn Tryz.f81),(82,cfn Tryz.f82),(83,cfn Tryz.f83),(84,cfn Tryz.f84),(85,cfn Tryz.f85),(86,cfn Tryz.f86),(87,cfn Tryz.f87),(88,cfn Tryz.f88),(89,cfn Tryz.f89),(90,cfn Tryz.f90),(91,cfn Tryz.f91),(92,cfn Tryz.f92),(93,cfn Tryz.f93),(94,cfn Tryz.f94),(95,cfn Tryz.f95),(96,cfn Tryz.f96),(97,cfn Tryz.f97),(98,cfn Tryz.f98),(99,cfn Tryz.f99),(100,cfn Tryz.f100),(101,cfn Tryz.f101),(102,cfn Tryz.f102),(103,cfn Tryz.f103),(104,cfn Tryz.f104),(105,cfn Tryz.f105),(106,cfn Tryz.f106),(107,cfn Tryz.f107),(108,cfn Tryz.f108),(109,cfn Tryz.f109),(110,cfn Tryz.f110),(111,cfn Tryz.f111),(112,cfn Tryz.f112),(113,cfn Tryz.f113),(114,AR),(115,FL),(116,cfn Tryz.f116),(117,cfn Tryz.f117),(118,K6),(119,cfn Tryz.f119),(120,cfn Tryz.f120),(121,cfn Tryz.f121),(122,cfn Tryz.f122),(123,cfn Tryz.f123),(124,cfn Tryz.f124),(125,AS),(126,cfn Tryz.f126),(127,cfn Tryz.f127),(128,cfn Tryz.f128),(129,cfn Tryz.f129),(130,cfn Tryz.f130),(131,cfn Tryz.f131),(132,AT),(133,cfn Tryz.f133),(134,cfn Tryz.f134),(135,K7),(136,K8),(137,FN),(138,nW),(139,FO),(140,K9),(141,La),(142,cfn Tryz.f142),(143,cfn Tryz.f143),(144,cfn Tryz.f144),(145,cfn Tryz.f145),(146,cfn Tryz.f146),(147,cfn Tryz.f147),(148,cfn Tryz.f148),(149,cfn Tryz.f149),(150,cfn Tryz.f150),(151,cfn Tryz.f151),(152,cfn Tryz.f152),(153,cfn Tryz.f153),(154,uM),(155,cfn Tryz.f155),(156,cfn Tryz.f156),(157,cfn Tryz.f157),(158,cfn Tryz.f158),(159,cfn Tryz.f159),(160,RS),(161,cfn Tryz.f161),(162,cfn Tryz.f162),(163,cfn Tryz.f163),(164,cfn Tryz.f164),(165,cfn Tryz.f165),(166,cfn Tryz.f166),(167,cfn Tryz.f167),(168,cfn Tryz.f168),(169,cfn Tryz.f169),(170,cfn Tryz.f170),(171,cfn Tryz.f171),(172,cfn Tryz.f172),(173,FQ),(174,cfn Tryz.f174),(175,cfn Tryz.f175),(176,cfn Tryz.f176),(177,cfn Tryz.f177),(178,cfn Tryz.f178),(179,FR),(180,uN),(181,cfn Tryz.f181),(182,Lb),(183,cfn Tryz.f183),(184,FT),(185,FU),(186,FV),(187,AU),(188,Lc),(189,Ld),(190,cfn Tryz.f190),(191,cfn Tryz.f191),(192,R4),(193,cfn Tryz.f193),(194,cfn Tryz.f194),(195,cfn Tryz.f195),(196,cfn Tryz.f196),(197,cfn Tryz.f197),(198,cfn Tryz.f198),(199,cfn Tryz.f199),(200,cfn Tryz.f200),(201,cfn Tryz.f201),(202,cfn Tryz.f202),(203,cfn Tryz.f203),(204,iA),(205,nv),(206,AV),(207,cfn Tryz.f207),(208,cfn Tryz.f208),(209,cfn Tryz.f209),(210,cfn Tryz.f210),(211,cfn Tryz.f211),(212,cfn Tryz.f212),(213,cfn Tryz.f213),(214,cfn Tryz.f214),(215,cfn Tryz.f215),(216,cfn Tryz.f216),(217,cfn Tryz.f217),(218,cfn Tryz.f218),(219,cfn Tryz.f219),(220,cfn Tryz.f220),(221,Lf),(222,Lg),(223,FW),(224,AW),(225,cfn Tryz.f225),(226,yq),(227,cfn Tryz.f227),(228,cfn Tryz.f228),(229,Lh),(230,AX),(232,cfn Tryz.f232),(233,cfn Tryz.f233),(234,cfn Tryz.f234),(235,cfn Tryz.f235),(236,cfn Tryz.f236),(237,cfn Tryz.f237),(238,cfn Tryz.f238),(239,cfn Tryz.f239),(240,cfn Tryz.f240),(241,cfn Tryz.f241),(242,cfn Tryz.f242),(243,cfn Tryz.f243),(244,AY),(245,FY),(246,FZ),(247,AZ),(248,Li),(249,Lj),(250,cfn Tryz.f250),(251,cfn Tryz.f251),(252,cfn Tryz.f252),(253,cfn Tryz.f253),(254,F0),(255,Lk),(256,Ll),(257,cfn Tryz.f257),(258,Lm),(260,cfn Tryz.f260),(261,cfn Tryz.f261),(262,cfn Tryz.f262),(263,cfn Tryz.f263),(264,cfn Tryz.f264),(265,cfn Tryz.f265),(266,Ln),(267,rH),(268,F1),(269,Lo),(270,Lp),(271,F2),(272,rI),(273,Lq),(274,F3),(275,Lr),(276,F4),(277,cfn Tryz.f277),(278,Ls),(279,cfn Tryz.f279),(280,cfn Tryz.f280),(281,Lt),(282,cfn Tryz.f282),(283,A3),(284,yu),(285,A4),(286,F5),(287,Lu),(288,Lv),(289,Lw),(290,Lx),(291,F6),(308,cfn Tryz.f308),(311,cfn Tryz.f311),(312,cfn Tryz.f312),(313,cfn Tryz.f313),(314,cfn Tryz.f314),(315,cfn Tryz.f315),(316,cfn Tryz.f316),(317,cfn Tryz.f317),(318,cfn Tryz.f318),(319,cfn Tryz.f319),(320,cfn Tryz.f320),(321,cfn Tryz.f321),(322,cfn Tryz.f322)]
noncomputable def env:Env:=.base uO
set_option maxRecDepth 100000 in
theorem Zk:nS Tryz.prog env:=
 (ek Tryz.func9 aj (ek Tryz.func11 aj (ek Tryz.func12 aj (ek Tryz.func13 VE (ek Tryz.func14 aj (ek Tryz.func15 VG (ek Tryz.func16 aj (ek Tryz.func17 aj (ek Tryz.func18 VI (ek Tryz.func19 aj (ek Tryz.func20 VJ (ek Tryz.func21 aj (ek Tryz.func22 aj (ek Tryz.func23 VL (ek Tryz.func24 VM (ek Tryz.func25 VN (ek Tryz.func26 VO (ek Tryz.func27 aj (ek Tryz.func28 aj (ek Tryz.func29 aj (ek Tryz.func30 aj (ek Tryz.func31 aj (ek Tryz.func32 aj (ek Tryz.func33 aj (ek Tryz.func34 aj (ek Tryz.func35 aj (ek Tryz.func36 aj (ek Tryz.func37 VP (ek Tryz.func38 aj (ek Tryz.func39 aj (ek Tryz.func40 aj (ek Tryz.func41 aj (ek Tryz.func42 aj (ek Tryz.func43 aj (ek Tryz.func44 aj (ek Tryz.func45 aj (ek Tryz.func46 aj (ek Tryz.func47 aj (ek Tryz.func48 aj (ek Tryz.func49 aj (ek Tryz.func50 aj (ek Tryz.func51 aj (ek Tryz.func52 aj (ek Tryz.func53 VR (ek Tryz.func54 aj (ek Tryz.func55 aj (ek Tryz.func56 aj (ek Tryz.func57 aj (ek Tryz.func58 aj (ek Tryz.func59 aj (ek Tryz.func60 aj (ek Tryz.func61 aj (ek Tryz.func62 aj (ek Tryz.func63 aj (ek Tryz.func64 aj (ek Tryz.func65 aj (ek Tryz.func66 aj (ek Tryz.func67 aj (ek Tryz.func68 VT (ek Tryz.func69 VV (ek Tryz.func70 VW (ek Tryz.func71 VX (ek Tryz.func72 VZ (ek Tryz.func73 V0 (ek Tryz.func74 aj (ek Tryz.func75 aj (ek Tryz.func76 aj (ek Tryz.func77 aj (ek Tryz.func78 aj (ek Tryz.func79 aj (ek Tryz.func80 aj (ek Tryz.func81 aj (ek Tryz.func82 aj (ek Tryz.func83 aj (ek Tryz.func84 aj (ek Tryz.func85 aj (ek Tryz.func86 aj (ek Tryz.func87 aj (ek Tryz.func88 aj (ek Tryz.func89 aj (ek Tryz.func90 aj (ek Tryz.func91 aj (ek Tryz.func92 aj (ek Tryz.func93 aj (ek Tryz.func94 aj (ek Tryz.func95 aj (ek Tryz.func96 aj (ek Tryz.func97 aj (ek Tryz.func98 aj (ek Tryz.func99 aj (ek Tryz.func100 aj (ek Tryz.func101 aj (ek Tryz.func102 aj (ek Tryz.func103 aj (ek Tryz.func104 aj (ek Tryz.func105 aj (ek Tryz.func106 aj (ek Tryz.func107 aj (ek Tryz.func108 aj (ek Tryz.func109 aj (ek Tryz.func110 aj (ek Tryz.func111 aj (ek Tryz.func112 aj (ek Tryz.func113 aj (ek Tryz.func114 RG (ek Tryz.func115 RH (ek Tryz.func116 aj (ek Tryz.func117 aj (ek Tryz.func118 RI (ek Tryz.func119 aj (ek Tryz.func120 aj (ek Tryz.func121 aj (ek Tryz.func122 aj (ek Tryz.func123 aj (ek Tryz.func124 aj (ek Tryz.func125 RJ (ek Tryz.func126 aj (ek Tryz.func127 aj (ek Tryz.func128 aj (ek Tryz.func129 aj (ek Tryz.func130 aj (ek Tryz.func131 aj (ek Tryz.func132 RK (ek Tryz.func133 aj (ek Tryz.func134 aj (ek Tryz.func135 RL (ek Tryz.func136 FM (ek Tryz.func137 RM (ek Tryz.func138 RN (ek Tryz.func139 RO (ek Tryz.func140 RP (ek Tryz.func141 RQ (ek Tryz.func142 aj (ek Tryz.func143 aj (ek Tryz.func144 aj (ek Tryz.func145 aj (ek Tryz.func146 aj (ek Tryz.func147 aj (ek Tryz.func148 aj (ek Tryz.func149 aj (ek Tryz.func150 aj (ek Tryz.func151 aj (ek Tryz.func152 aj (ek Tryz.func153 aj (ek Tryz.func154 RR (ek Tryz.func155 aj (ek Tryz.func156 aj (ek Tryz.func157 aj (ek Tryz.func158 aj (ek Tryz.func159 aj (ek Tryz.func160 FP (ek Tryz.func161 aj (ek Tryz.func162 aj (ek Tryz.func163 aj (ek Tryz.func164 aj (ek Tryz.func165 aj (ek Tryz.func166 aj (ek Tryz.func167 aj (ek Tryz.func168 aj (ek Tryz.func169 aj (ek Tryz.func170 aj (ek Tryz.func171 aj (ek Tryz.func172 aj (ek Tryz.func173 RT (ek Tryz.func174 aj (ek Tryz.func175 aj (ek Tryz.func176 aj (ek Tryz.func177 aj (ek Tryz.func178 aj (ek Tryz.func179 RU (ek Tryz.func180 RV (ek Tryz.func181 aj (ek Tryz.func182 RW (ek Tryz.func183 aj (ek Tryz.func184 RX (ek Tryz.func185 RY (ek Tryz.func186 RZ (ek Tryz.func187 R1 (ek Tryz.func188 R2 (ek Tryz.func189 R3 (ek Tryz.func190 aj (ek Tryz.func191 aj (ek Tryz.func192 R5 (ek Tryz.func193 aj (ek Tryz.func194 aj (ek Tryz.func195 aj (ek Tryz.func196 aj (ek Tryz.func197 aj (ek Tryz.func198 aj (ek Tryz.func199 aj (ek Tryz.func200 aj (ek Tryz.func201 aj (ek Tryz.func202 aj (ek Tryz.func203 aj (ek Tryz.func204 R6 (ek Tryz.func205 R7 (ek Tryz.func206 R8 (ek Tryz.func207 aj (ek Tryz.func208 aj (ek Tryz.func209 aj (ek Tryz.func210 aj (ek Tryz.func211 aj (ek Tryz.func212 aj (ek Tryz.func213 aj (ek Tryz.func214 aj (ek Tryz.func215 aj (ek Tryz.func216 aj (ek Tryz.func217 aj (ek Tryz.func218 aj (ek Tryz.func219 aj (ek Tryz.func220 aj (ek Tryz.func221 R9 (ek Tryz.func222 Sa (ek Tryz.func223 Sb (ek Tryz.func224 Sc (ek Tryz.func225 aj (ek Tryz.func226 Sd (ek Tryz.func227 aj (ek Tryz.func228 aj (ek Tryz.func229 FX (ek Tryz.func230 Se (ek Tryz.func232 aj (ek Tryz.func233 aj (ek Tryz.func234 aj (ek Tryz.func235 aj (ek Tryz.func236 aj (ek Tryz.func237 aj (ek Tryz.func238 aj (ek Tryz.func239 aj (ek Tryz.func240 aj (ek Tryz.func241 aj (ek Tryz.func242 aj (ek Tryz.func243 aj (ek Tryz.func244 Sf (ek Tryz.func245 Sg (ek Tryz.func246 Sk (ek Tryz.func247 Sl (ek Tryz.func248 Sm (ek Tryz.func249 Sn (ek Tryz.func250 aj (ek Tryz.func251 aj (ek Tryz.func252 aj (ek Tryz.func253 aj (ek Tryz.func254 So (ek Tryz.func255 Sq (ek Tryz.func256 Sr (ek Tryz.func257 aj (ek Tryz.func258 Ss (ek Tryz.func260 aj (ek Tryz.func261 aj (ek Tryz.func262 aj (ek Tryz.func263 aj (ek Tryz.func264 aj (ek Tryz.func265 aj (ek Tryz.func266 Su (ek Tryz.func267 Sw (ek Tryz.func268 Sx (ek Tryz.func269 Sy (ek Tryz.func270 Sz (ek Tryz.func271 SA (ek Tryz.func272 SB (ek Tryz.func273 SC (ek Tryz.func274 SD (ek Tryz.func275 SE (ek Tryz.func276 SF (ek Tryz.func277 aj (ek Tryz.func278 SG (ek Tryz.func279 aj (ek Tryz.func280 aj (ek Tryz.func281 SH (ek Tryz.func282 aj (ek Tryz.func283 SI (ek Tryz.func284 SJ (ek Tryz.func285 SK (ek Tryz.func286 SL (ek Tryz.func287 SM (ek Tryz.func288 SN (ek Tryz.func289 SO (ek Tryz.func290 SP (ek Tryz.func291 SQ (ek Tryz.func308 aj (ek Tryz.func311 aj (ek Tryz.func312 aj (ek Tryz.func313 aj (ek Tryz.func314 aj (ek Tryz.func315 aj (ek Tryz.func316 aj (ek Tryz.func317 aj (ek Tryz.func318 aj (ek Tryz.func319 aj (ek Tryz.func320 aj (ek Tryz.func321 aj (ek Tryz.func322 aj nS.nil)))))))))))))))))))))))))))))))))))))))))))))))))))))))))))))))))))))))))))))))))))))))))))))))))))))))))))))))))))))))))))))))))))))))))))))))))))))))))))))))))))))))))))))))))))))))))))))))))))))))))))))))))))))))))))))))))))))))))))))))))))))))))))))))))))))))))))))))))))))))))))))))))))))
theorem mixed:Tryz.prog.follows .mixedOrders=true:=by kernel_rfl
theorem jq:aO Tryz.prog env:=aO.of Zk
theorem adm:env.fn 15=some VF:=by kernel_rfl
theorem adn:env.fn 18=some VH:=by kernel_rfl
theorem ado:env.fn 23=some VK:=by kernel_rfl
theorem adp:env.fn 24=some Jr:=by kernel_rfl
theorem adq:env.fn 25=some N4:=by kernel_rfl
theorem adr:env.fn 26=some RD:=by kernel_rfl
theorem ads:env.fn 53=some VQ:=by kernel_rfl
theorem adt:env.fn 68=some VS:=by kernel_rfl
theorem adu:env.fn 69=some VU:=by kernel_rfl
theorem V5:env.fn 70=some vn:=by kernel_rfl
theorem adv:env.fn 71=some RE:=by kernel_rfl
theorem adw:env.fn 72=some VY:=by kernel_rfl
theorem adx:env.fn 73=some RF:=by kernel_rfl
theorem aa5:env.fn 114=some AR:=by kernel_rfl
theorem aa6:env.fn 115=some FL:=by kernel_rfl
theorem aa7:env.fn 118=some K6:=by kernel_rfl
theorem aa8:env.fn 125=some AS:=by kernel_rfl
theorem aa9:env.fn 132=some AT:=by kernel_rfl
theorem aba:env.fn 135=some K7:=by kernel_rfl
theorem Yk:env.fn 136=some K8:=by kernel_rfl
theorem abb:env.fn 137=some FN:=by kernel_rfl
theorem Ly:env.fn 138=some nW:=by kernel_rfl
theorem abc:env.fn 139=some FO:=by kernel_rfl
theorem abd:env.fn 140=some K9:=by kernel_rfl
theorem abe:env.fn 141=some La:=by kernel_rfl
theorem abf:env.fn 154=some uM:=by kernel_rfl
theorem abg:env.fn 160=some RS:=by kernel_rfl
theorem abh:env.fn 173=some FQ:=by kernel_rfl
theorem abi:env.fn 179=some FR:=by kernel_rfl
theorem abj:env.fn 180=some uN:=by kernel_rfl
theorem abk:env.fn 182=some Lb:=by kernel_rfl
theorem abl:env.fn 184=some FT:=by kernel_rfl
theorem abm:env.fn 185=some FU:=by kernel_rfl
theorem abn:env.fn 186=some FV:=by kernel_rfl
theorem abo:env.fn 187=some AU:=by kernel_rfl
theorem abp:env.fn 188=some Lc:=by kernel_rfl
theorem abq:env.fn 189=some Ld:=by kernel_rfl
theorem abr:env.fn 204=some iA:=by kernel_rfl
theorem F7:env.fn 205=some nv:=by kernel_rfl
theorem abt:env.fn 206=some AV:=by kernel_rfl
theorem abu:env.fn 221=some Lf:=by kernel_rfl
theorem abv:env.fn 222=some Lg:=by kernel_rfl
theorem abw:env.fn 223=some FW:=by kernel_rfl
theorem abx:env.fn 224=some AW:=by kernel_rfl
theorem aby:env.fn 226=some yq:=by kernel_rfl
theorem Yl:env.fn 229=some Lh:=by kernel_rfl
theorem Ym:env.fn 230=some AX:=by kernel_rfl
theorem abz:env.fn 244=some AY:=by kernel_rfl
theorem abA:env.fn 245=some FY:=by kernel_rfl
theorem abB:env.fn 246=some FZ:=by kernel_rfl
theorem abC:env.fn 247=some AZ:=by kernel_rfl
theorem abD:env.fn 248=some Li:=by kernel_rfl
theorem abE:env.fn 249=some Lj:=by kernel_rfl
theorem abF:env.fn 254=some F0:=by kernel_rfl
theorem abG:env.fn 255=some Lk:=by kernel_rfl
theorem abH:env.fn 256=some Ll:=by kernel_rfl
theorem abI:env.fn 258=some Lm:=by kernel_rfl
theorem abJ:env.fn 266=some Ln:=by kernel_rfl
theorem abK:env.fn 267=some rH:=by kernel_rfl
theorem abL:env.fn 268=some F1:=by kernel_rfl
theorem abM:env.fn 269=some Lo:=by kernel_rfl
theorem abN:env.fn 270=some Lp:=by kernel_rfl
theorem abO:env.fn 271=some F2:=by kernel_rfl
theorem abP:env.fn 272=some rI:=by kernel_rfl
theorem abQ:env.fn 273=some Lq:=by kernel_rfl
theorem abR:env.fn 274=some F3:=by kernel_rfl
theorem abS:env.fn 275=some Lr:=by kernel_rfl
theorem abT:env.fn 276=some F4:=by kernel_rfl
theorem abU:env.fn 278=some Ls:=by kernel_rfl
theorem abV:env.fn 281=some Lt:=by kernel_rfl
theorem abW:env.fn 283=some A3:=by kernel_rfl
theorem abX:env.fn 284=some yu:=by kernel_rfl
theorem abY:env.fn 285=some A4:=by kernel_rfl
theorem abZ:env.fn 286=some F5:=by kernel_rfl
theorem ab0:env.fn 287=some Lu:=by kernel_rfl
theorem ab1:env.fn 288=some Lv:=by kernel_rfl
theorem ab2:env.fn 289=some Lw:=by kernel_rfl
theorem ab3:env.fn 290=some Lx:=by kernel_rfl
theorem ab4:env.fn 291=some F6:=by kernel_rfl
end af
open Go
def lg(n:Nat):Nat:=if n=0 then 0 else if 15 < n then 32769 else 32768 / 2 ^ n
def lJ(l:List Nat):Nat:=(l.map lg).sum
def lK(l:List Nat):Bool:=lJ l==32768
def lp(l:List Nat):Bool:=lK l&&decide (0 < l.getD 257 0)
theorem N5(n:Nat):lg n<=32769:=by
 unfold lg
 split
 ·omega
 ·split
  ·omega
  ·have:=Nat.div_le_self 32768 (2 ^ n);omega
theorem V6(l:List Nat):lJ l<=32769*l.length:=by
 induction l with
 | nil=>simp [lJ]
 | cons a l ih=>
  have:=N5 a
  simp only [lJ,List.map_cons,List.sum_cons,List.length_cons] at *
  omega
theorem F8(l m:List Nat):lJ (l++m)=lJ l+lJ m:=by simp [lJ]
theorem SR(a:Nat):lJ [a]=lg a:=by simp [lJ]
theorem N6{l:List Nat}{k:Nat}(h:k < l.length):lJ (l.take (k+1))=lJ (l.take k)+lg l[k]:=by
 rw [List.take_succ_eq_append_getElem h,F8,SR]
theorem yw{l:List Nat}{k:Nat}(h:k < l.length)(j:Nat):(l.take (k+1)).count j=(l.take k).count j+(if l[k]=j then 1 else 0):=by
 rw [List.take_succ_eq_append_getElem h,List.count_append]
 congr 1
 simp [List.count_cons]
namespace LtA
open Go Go.RowKit AM af
theorem eB:∀ l:List Nat,(u8s l).all aW=true
 | []=>rfl
 | a::l=>by rw [show u8s (a::l)=.int .u8 (a:Int)::u8s l from rfl,List.all_cons,eB l];rfl
theorem kJ:∀ l:List Nat,(u8s l).all AM.sc=true
 | []=>rfl
 | a::l=>by rw [show u8s (a::l)=.int .u8 (a:Int)::u8s l from rfl,List.all_cons,kJ l];rfl
theorem rJ{l:List Nat}(h:l.length=258):(u8s l).take 258=u8s l:=List.take_of_length_le (by rw [aq];omega)
theorem F9{l:List Nat}(h:l.length=258):(258<=l.length)=True:=eq_true (by omega)
theorem aS{cs vs:List Value}(h:vs.length=cs.length):putAt cs 0 vs=vs:=by
 apply List.ext_getElem?
 intro j
 rw [dJ _ _ _ _ (by omega)]
 split
 ·simp
 ·rename_i hj
  rw [List.getElem?_eq_none (by omega),List.getElem?_eq_none (by omega)]
theorem A5{l:List Nat}{i:Nat}(h:i < l.length):(u8s l)[i]?=some (.int .u8 (l[i]:Int)):=by rw [eo,List.getElem?_eq_getElem h];rfl
section
variable{hp:List Blk}{L:Nat}{H d:List Nat}
theorem Js{n:Nat}(hn:n < 256)(hF:Fit hp.length L H):aN env (.func 283) [.int .u8 n] ⟨hp,L,H,d⟩=some (.int .i64 (lg n:Nat),⟨hp,L,H,d⟩):=by
 rw [aA 283 _ _ abW]
 unfold lg
 by_cases h0:n=0
 ·subst h0
  rw [if_pos rfl]
  simp (disch:=first | exact AM.dis | fail) only [af.sy,simprocAttr,-List.reduceReplicate,hF.all,A3]
 rw [if_neg h0]
 have h0':¬ (n:Int)=0:=by omega
 by_cases h1:15 < n
 ·have h1':(n:Int) > 15:=by omega
  rw [if_pos h1]
  simp (disch:=first | exact AM.dis | fail) only [af.sy,simprocAttr,-List.reduceReplicate,hF.all,A3,h0',h1']
 ·have h1':¬ (n:Int) > 15:=by omega
  rw [if_neg h1]
  have hs:Int.fdiv 32768 (2 ^ n)=((32768 / 2 ^ n:Nat):Int):=by
   rw [Int.fdiv_eq_ediv_of_nonneg _ (Int.le_of_lt (Int.pow_pos (by omega)))]
   simp
  have hng:¬ (n:Int) < 0:=by omega
  have hq:32768 / 2 ^ n<=32768:=Nat.div_le_self _ _
  simp (disch:=first | exact AM.dis | fail) only [af.sy,simprocAttr,-List.reduceReplicate,hF.all,A3,h0',h1',hs,hng]
theorem Ga{l:List Nat}(hl:l.length=258)(h8:By l)(hF:Fit hp.length L H):∀ k i:Nat,i+k=258->∃ fr,aX env vX [2,6,5] hp.length [(2,.int .i64 (lJ (l.take i):Nat)),(6,.int .i64 i),(5,.agg (u8s l).toArray)] ⟨hp,L,H,[]⟩ =
  some (.exit 0,fr,⟨hp,L,H,[]⟩)/\fr.get 2=some (.int .i64 (lJ l:Nat))
 | 0,i,e=>by
  obtain rfl:i=258:=by omega
  rw [aB vX.eq_1,List.take_of_length_le (by omega)]
  simp (disch:=first | exact AM.dis | fail) only [af.sy,simprocAttr,-List.reduceReplicate,hF.all]
  exact ⟨_,rfl,rfl⟩
 | k+1,i,e=>by
  have hil:i < l.length:=by omega
  obtain ⟨fr,e1,e2⟩:=Ga hl h8 hF k (i+1) (by omega)
  have hb:l[i] < 256:=h8.get hil
  have h1:(i:Int) < 258:=by omega
  have h2:0<=(i:Int)/\(i:Int) < 258:=by omega
  have hc:=A5 hil
  have PB:((lJ (l.take i):Nat):Int)+(lg l[i]:Nat)=(lJ (l.take (i+1)):Nat):=by rw [N6 hil];omega
  have hle:=V6 (l.take (i+1))
  have V7:(l.take (i+1)).length<=258:=by simp;omega
  rw [aB vX.eq_1]
  simp only [Int.natCast_add,Int.natCast_one] at e1
  simp (disch:=first | exact AM.dis | fail) only [af.sy,simprocAttr,-List.reduceReplicate,hF.all,h1,h2,hc,Js hb,PB,e1]
  exact ⟨fr,rfl,e2⟩
theorem Gb{l:List Nat}(hl:l.length=258)(h8:By l)(hF:Fit hp.length L H):aN env (.func 266) [.agg (u8s l).toArray] ⟨hp,L,H,d⟩=some (.int .i64 (lJ l:Nat),⟨hp,L,H,d⟩):=by
 rw [aA 266 _ _ abJ]
 obtain ⟨fr,e1,e2⟩:=Ga (hp:=hp++[.cells 0 true (u8s l)]) (L:=L) (H:=H) hl h8 (hF.mono (by simp)) 258 0 rfl
 simp only [List.take_zero,show lJ []=0 from rfl,Int.natCast_zero,List.length_append,List.length_cons,List.length_nil,Nat.zero_add] at e1
 simp (disch:=first | exact AM.dis | fail) only [af.sy,simprocAttr,-List.reduceReplicate,hF.all,Ln,eB,kJ,F9 hl,rJ hl,e1,e2]
theorem pL{l:List Nat}(hl:l.length=258)(h8:By l)(hF:Fit hp.length L H):aN env (.func 248) [.agg (u8s l).toArray] ⟨hp,L,H,d⟩=some (.bool (lK l),⟨hp,L,H,d⟩):=by
 rw [aA 248 _ _ abD]
 have hq:(((lJ l:Nat):Int)==32768)=lK l:=by unfold lK;rw [Bool.eq_iff_iff];simp;omega
 simp (disch:=first | exact AM.dis | fail) only [af.sy,simprocAttr,-List.reduceReplicate,hF.all,Li,eB,kJ,F9 hl,rJ hl,Gb hl h8,hq]
theorem yx{l:List Nat}(hl:l.length=258)(h8:By l)(hF:Fit hp.length L H):aN env (.func 206) [.agg (u8s l).toArray] ⟨hp,L,H,d⟩=some (.bool (lp l),⟨hp,L,H,d⟩):=by
 rw [aA 206 _ _ abt]
 have h1:=A5 (l:=l) (i:=257) (by omega)
 have h2:l.getD 257 0=l[257]:=by rw [List.getD_eq_getElem?_getD,List.getElem?_eq_getElem];rfl
 unfold lp
 rw [h2]
 cases hk:lK l with
 | false=>
  simp (disch:=first | exact AM.dis | fail) only [af.sy,simprocAttr,-List.reduceReplicate,hF.all,AV,eB,kJ,F9 hl,rJ hl,pL hl h8,hk,h1]
 | true=>
  have hq:decide ((l[257]:Int) > 0)=decide (0 < l[257]):=by rw [decide_eq_decide];omega
  simp (disch:=first | exact AM.dis | fail) only [af.sy,simprocAttr,-List.reduceReplicate,hF.all,AV,eB,kJ,F9 hl,rJ hl,pL hl h8,hk,h1,hq]
def kc(l:List Nat):List Value:=(List.range 16).map fun j=>.int .i64 (l.count j:Nat)
theorem nX(l:List Nat):(kc l).length=16:=by simp [kc]
theorem Gc(l:List Nat){j:Nat}(h:j < 16):(kc l)[j]?=some (.int .i64 (l.count j:Nat)):=by simp [kc,h]
theorem SS(l:List Nat):(kc l).all aW=true:=by simp [kc,AM.aW,AM.sc]
theorem Zl(l:List Nat):(kc l).all AM.sc=true:=by simp [kc,AM.sc]
theorem V8(l:List Nat):(kc l).flatMap aG=[]:=by
 rw [List.flatMap_eq_nil_iff]
 intro v hv
 simp only [kc,List.mem_map] at hv
 obtain ⟨_,_,rfl⟩:=hv
 rfl
theorem V9(l:List Nat):(kc l).take 16=kc l:=List.take_of_length_le (by rw [nX];omega)
theorem Zm:List.replicate 16 (Value.int .i64 0)=kc []:=rfl
theorem Zn{l:List Nat}{i:Nat}(h:i < l.length)(h16:l[i] < 16):(kc (l.take i)).set l[i] (.int .i64 (((l.take i).count l[i]:Nat)+1))=kc (l.take (i+1)):=by
 apply List.ext_getElem?
 intro j
 by_cases hj:j < 16
 ·rw [Gc _ hj,List.getElem?_set,yw h]
  by_cases e:l[i]=j
  ·subst e
   rw [if_pos rfl,if_pos (by rw [nX];exact hj),if_pos rfl]
   congr 2
  ·rw [if_neg e,Gc _ hj,if_neg e]
   congr 2
 ·rw [List.getElem?_eq_none (by rw [List.length_set,nX];omega),List.getElem?_eq_none (by rw [nX];omega)]
theorem Wa{l:List Nat}{i:Nat}(h:i < l.length)(h16:¬ l[i] < 16):kc (l.take i)=kc (l.take (i+1)):=by
 apply List.ext_getElem?
 intro j
 by_cases hj:j < 16
 ·rw [Gc _ hj,Gc _ hj,yw h,if_neg (by omega)];rfl
 ·rw [List.getElem?_eq_none (by rw [nX];omega),List.getElem?_eq_none (by rw [nX];omega)]
theorem uP{l:List Nat}(hl:l.length=258)(h8:By l)(hF:Fit hp.length L H):∀ k i:Nat,i+k=258->∃ fr,
  aX env vV [6,5,2] (hp.length+1) [(6,.int .i64 i),(5,.agg (u8s l).toArray),(2,.pointer (some ⟨hp.length,0,some 0⟩))] ⟨hp++[.cells 0 true (kc (l.take i))],L,H,[]⟩ =
  some (.exit 0,fr,⟨hp++[.cells 0 true (kc l)],L,H,[]⟩)/\fr.get 2=some (.pointer (some ⟨hp.length,0,some 0⟩))
 | 0,i,e=>by
  obtain rfl:i=258:=by omega
  rw [aB vV.eq_1,List.take_of_length_le (by omega)]
  simp (disch:=first | exact AM.dis | fail) only [af.sy,simprocAttr,-List.reduceReplicate,hF.all]
  exact ⟨_,rfl,rfl⟩
 | k+1,i,e=>by
  have hil:i < l.length:=by omega
  obtain ⟨fr,e1,e2⟩:=uP hl h8 hF k (i+1) (by omega)
  have hb:l[i] < 256:=h8.get hil
  have h1:(i:Int) < 258:=by omega
  have h2:0<=(i:Int)/\(i:Int) < 258:=by omega
  have hc:=A5 hil
  have hct:(l.take i).count l[i]<=258:=Nat.le_trans List.count_le_length (by simp;omega)
  rw [aB vV.eq_1]
  simp only [Int.natCast_add,Int.natCast_one] at e1
  by_cases h16:l[i] < 16
  ·have h3:(l[i]:Int) < 16:=by omega
   have h4:0<=(l[i]:Int)/\(l[i]:Int) < 16:=by omega
   have h5:l[i]+1<=16:=by omega
   simp (disch:=first | exact AM.dis | fail) only [af.sy,simprocAttr,-List.reduceReplicate,hF.all,h1,h2,hc,h3,h4,h5,Gc _ h16,nX,Zn hil h16,e1]
   exact ⟨fr,rfl,e2⟩
  ·have h3:¬ (l[i]:Int) < 16:=by omega
   rw [Wa hil h16]
   simp (disch:=first | exact AM.dis | fail) only [af.sy,simprocAttr,-List.reduceReplicate,hF.all,h1,h2,hc,h3,e1]
   exact ⟨fr,rfl,e2⟩
theorem Ge{l:List Nat}(hl:l.length=258)(h8:By l)(hF:Fit hp.length L H):aN env (.func 249) [.agg (u8s l).toArray] ⟨hp,L,H,d⟩=some (.agg (kc l).toArray,⟨hp,L,H,d⟩):=by
 rw [aA 249 _ _ abE]
 obtain ⟨fr,e1,e2⟩:=uP (hp:=hp++[.cells 0 true (u8s l)]) (L:=L) (H:=H) hl h8 (hF.mono (by simp)) 258 0 rfl
 simp only [List.take_zero,Int.natCast_zero,List.length_append,List.length_cons,List.length_nil,Nat.zero_add,List.append_assoc,List.cons_append,List.nil_append] at e1 e2
 simp (disch:=first | exact AM.dis | fail) only [af.sy,simprocAttr,-List.reduceReplicate,hF.all,Lj,eB,kJ,F9 hl,rJ hl,Zm,nX,SS,Zl,V9,V8,aS (rfl:(kc l).length=(kc l).length),e1,e2]
end
end LtA
namespace SyP
def bC(L:List Nat)(p:Nat):List Nat:=L.getD p 0::L.eraseIdx p
def ef(L:List Nat)(c:Nat):List Nat×Nat:=(bC L (L.idxOf c),L.idxOf c)
def dF(n:Nat):List Nat:=if h:n=0 then [] else (n - 1)%2::dF ((n - 1) / 2)
termination_by n
decreasing_by omega
theorem gK:dF 0=[]:=by rw [dF];simp
theorem fR(n:Nat):dF (n+1)=n%2::dF (n / 2):=by rw [dF];simp
def eI:List Nat->Nat->List Nat->List Nat×(List Nat×Nat)
 | L,r,[]=>([],(L,r))
 | L,r,c::x=>
  if L.idxOf c=0 then eI (bC L (L.idxOf c)) (r+1) x
  else
   let q:=eI (bC L (L.idxOf c)) 0 x
   (dF r++(L.idxOf c+1)::q.1,q.2)
def tD(q:List Nat×(List Nat×Nat)):List Nat:=q.1++(dF q.2.2++[257])
def bP:List Nat:=List.range 256
def enc(x:List Nat):List Nat:=tD (eI bP 0 x)
structure Dst where
 L:List Nat
 left:Nat
 run:Nat
 k:Nat
inductive Dre where
 | bad
 | more (o:Dst) (t:List Nat)
 | done (L:List Nat) (t:List Nat)
def rK(b:Dst)(s:Nat):Dre:=
 if s < 2 then (if b.run+(1+s)*2 ^ b.k<=b.left then .more ⟨b.L,b.left,b.run+(1+s)*2 ^ b.k,b.k+1⟩ [] else .bad)
 else if s=257 then (if b.run=b.left then .done b.L (List.replicate b.run (b.L.getD 0 0)) else .bad)
 else if b.run=b.left then .bad
 else .more ⟨bC b.L (s - 1),b.left - (b.run+1),0,0⟩ (List.replicate b.run (b.L.getD 0 0)++[b.L.getD (s - 1) 0])
def dec:Dst->List Nat->Option (List Nat×Nat)
 | _,[]=>none
 | b,s::l=>match rK b s with
  | .bad=>none
  | .done _ t=>some (t,1)
  | .more o t=>(dec o l).map fun r=>(t++r.1,r.2+1)
def tE(m:Nat)(l:List Nat):Option (List Nat×Nat):=dec ⟨bP,m,0,0⟩ l
theorem Gf:∀ (n k r:Nat) (L:List Nat) (left:Nat) (l:List Nat),r+n*2 ^ k<=left->∃ k',dec ⟨L,left,r,k⟩ (dF n++l)=(dec ⟨L,left,r+n*2 ^ k,k'⟩ l).map fun q=>(q.1,q.2+(dF n).length):=by
 intro n
 induction n using Nat.strongRecOn with
 | ind n ih=>
  intro k r L left l h
  cases n with
  | zero=>
   refine ⟨k,?_⟩
   rw [gK,List.nil_append,Nat.zero_mul,Nat.add_zero]
   simp
  | succ n=>
   have hm:n%2 < 2:=Nat.mod_lt _ (by omega)
   have hval:(1+n%2)*2 ^ k+n / 2*2 ^ (k+1)=(n+1)*2 ^ k:=by
    rw [Nat.pow_succ,Nat.mul_comm (2 ^ k) 2,<- Nat.mul_assoc,<- Nat.add_mul]
    congr 1
    omega
   obtain ⟨k',e⟩:=ih (n / 2) (by omega) (k+1) (r+(1+n%2)*2 ^ k) L left l (by omega)
   refine ⟨k',?_⟩
   rw [fR,List.cons_append,dec,rK,if_pos hm,if_pos (by simp only [];omega)]
   simp only []
   rw [e,Nat.add_assoc,hval]
   cases dec { L:=L,left:=left,run:=r+(n+1)*2 ^ k,k:=k' } l with
   | none=>rfl
   | some q=>simp;omega
theorem N7{L:List Nat}{p:Nat}(h:p < L.length):(bC L p).length=L.length:=by
 unfold bC;rw [List.length_cons,List.length_eraseIdx];split<;>omega
theorem yy{L:List Nat}(h:0 < L.length):bC L 0=L:=by
 cases L with
 | nil=>simp at h
 | cons a l=>rfl
theorem yz{L:List Nat}{c:Nat}(h:c∈L):L.getD (L.idxOf c) 0=c:=by
 have:=List.idxOf_lt_length_of_mem h
 rw [List.getD_eq_getElem?_getD,List.getElem?_eq_getElem this];simp [List.getElem_idxOf]
theorem Jt{L:List Nat}{p:Nat}(h:p < L.length):(bC L p).Perm L:=by
 unfold bC
 rw [List.getD_eq_getElem?_getD,List.getElem?_eq_getElem h,List.eraseIdx_eq_take_drop_succ]
 have e:L=L.take p++L[p]::L.drop (p+1):=by rw [<- List.drop_eq_getElem_cons h,List.take_append_drop]
 conv=>rhs;rw [e]
 exact List.perm_middle.symm
theorem SU{L:List Nat}{c:Nat}(h:L.idxOf c=0)(hc:c∈L):L.getD 0 0=c:=by
 have:=yz hc
 rwa [h] at this
def Bl(L:List Nat):Prop:=L.Perm bP
theorem Bl.len{L:List Nat}(h:Bl L):L.length=256:=by rw [h.length_eq];simp [bP]
theorem Bl.mem{L:List Nat}(h:Bl L){c:Nat} : c∈L↔c < 256:=by rw [h.mem_iff];simp [bP]
theorem Bl.nodup{L:List Nat}(h:Bl L):L.Nodup:=h.nodup_iff.2 List.nodup_range
theorem Bl.idx{L:List Nat}(h:Bl L){c:Nat}(hc:c < 256):L.idxOf c < 256:=by rw [<- h.len];exact List.idxOf_lt_length_of_mem (h.mem.2 hc)
theorem Bl.take{L:List Nat}(h:Bl L){p:Nat}(hp:p < 256):Bl (bC L p):=(Jt (by rw [h.len];exact hp)).trans h
theorem Bl.zero:Bl bP:=List.Perm.refl _
theorem Bl.getD{L:List Nat}(h:Bl L){p:Nat}(hp:p < 256):L.getD p 0 < 256:=by
 have hl:=h.len
 rw [List.getD_eq_getElem?_getD,List.getElem?_eq_getElem (by omega)]
 exact h.mem.1 (List.getElem_mem _)
theorem Bl.Gg{L:List Nat}(h:Bl L){p:Nat}(hp:p < 256):L.idxOf (L.getD p 0)=p:=by
 have hl:=h.len
 rw [List.getD_eq_getElem?_getD,List.getElem?_eq_getElem (by omega)]
 exact h.nodup.idxOf_getElem p (by omega)
theorem C0:∀ (x:List Nat) (L:List Nat) (r:Nat) (left:Nat),Bl L->(∀ c∈x,c < 256)->left=r+x.length ->
  dec ⟨L,left,0,0⟩ (tD (eI L r x))=some (List.replicate r (L.getD 0 0)++x,(tD (eI L r x)).length)
 | [],L,r,left,hL,hx,hl=>by
  simp only [List.length_nil,Nat.add_zero] at hl
  subst hl
  show dec _ (dF left++[257])=_
  obtain ⟨k',e⟩:=Gf left 0 0 L left [257] (by simp)
  rw [e]
  simp [dec,rK,tD,eI]
  omega
 | c::x,L,r,left,hL,hx,hl=>by
  have hc:c < 256:=hx c (by simp)
  have hi:=hL.idx hc
  have hx':∀ c∈x,c < 256:=fun d hd=>hx d (by simp [hd])
  by_cases h0:L.idxOf c=0
  ·have hm:bC L 0=L:=yy (by rw [hL.len];omega)
   rw [eI,if_pos h0,h0,hm]
   have hhd:=SU h0 (hL.mem.2 hc)
   rw [C0 x L (r+1) left hL hx' (by simp only [List.length_cons] at hl;omega),hhd,List.replicate_succ']
   simp
  ·rw [eI,if_neg h0]
   simp only [tD]
   have hb:r < left:=by simp only [List.length_cons] at hl;omega
   obtain ⟨k',e⟩:=Gf r 0 0 L left ((L.idxOf c+1)::((eI (bC L (L.idxOf c)) 0 x).1++(dF (eI (bC L (L.idxOf c)) 0 x).2.2++[257]))) (by simp;omega)
   simp only [List.append_assoc,List.cons_append]
   rw [e]
   simp only [Nat.zero_add,Nat.pow_zero,Nat.mul_one]
   have h1:¬ L.idxOf c+1 < 2:=by omega
   have h2:¬ L.idxOf c+1=257:=by omega
   have h3:¬ r=left:=by omega
   have ih:=C0 x (bC L (L.idxOf c)) 0 (left - (r+1)) (hL.take hi) hx' (by simp only [List.length_cons] at hl;omega)
   rw [tD] at ih
   rw [dec,rK,if_neg h1,if_neg h2,if_neg h3]
   simp only [Nat.add_sub_cancel]
   rw [ih,yz (hL.mem.2 hc)]
   simp
   omega
theorem yA(x:List Nat)(hx:∀ c∈x,c < 256):tE x.length (enc x)=some (x,(enc x).length):=by
 have:=C0 x bP 0 x.length Bl.zero hx (by omega)
 simpa [tE,enc] using this
inductive Run:Nat->Nat->List Nat->Prop where
 | nil:Run 0 0 []
 | snoc {r k:Nat} {d:List Nat} {s:Nat} : Run r k d->s < 2->Run (r+(1+s)*2 ^ k) (k+1) (d++[s])
theorem A6:∀ (d:List Nat) (n:Nat),dF n=d->∀ s,s < 2->dF (n+(1+s)*2 ^ d.length)=d++[s]
 | [],n,h,s,hs=>by
  have:n=0:=by
   cases n with
   | zero=>rfl
   | succ n=>rw [fR] at h;simp at h
  subst this
  have:s=0\/s=1:=by omega
  rcases this with rfl | rfl
  ·rw [show 0+(1+0)*2 ^ ([]:List Nat).length=0+1 by simp,fR,gK];rfl
  ·rw [show 0+(1+1)*2 ^ ([]:List Nat).length=1+1 by simp,fR,show 1 / 2=0 by rfl,gK];rfl
 | a::d,n,h,s,hs=>by
  cases n with
  | zero=>rw [gK] at h;simp at h
  | succ n=>
   rw [fR,List.cons.injEq] at h
   obtain ⟨h1,h2⟩:=h
   have e:n+1+(1+s)*2 ^ (a::d).length=(n+2*((1+s)*2 ^ d.length))+1:=by
    rw [List.length_cons,Nat.pow_succ,<- Nat.mul_assoc];omega
   rw [e,fR]
   have e1:(n+2*((1+s)*2 ^ d.length))%2=n%2:=by omega
   have e2:(n+2*((1+s)*2 ^ d.length)) / 2=n / 2+(1+s)*2 ^ d.length:=by omega
   rw [e1,e2,h1,A6 d (n / 2) h2 s hs];rfl
theorem Run.dF{r k:Nat}{d:List Nat}(h:Run r k d):dF r=d/\d.length=k:=by
 induction h with
 | nil=>exact ⟨gK,rfl⟩
 | @snoc r k d s _ hs ih=>
  obtain ⟨h1,h2⟩:=ih
  refine ⟨?_,by simp [h2]⟩
  rw [<- h2]
  exact A6 d r h1 s hs
theorem yB:∀ (n:Nat) (L:List Nat) (r:Nat) (x:List Nat),Bl L->eI L r (List.replicate n (L.getD 0 0)++x)=eI L (r+n) x
 | 0,L,r,x,_=>by simp
 | n+1,L,r,x,hL=>by
  rw [List.replicate_succ,List.cons_append,eI,hL.Gg (by omega),if_pos rfl,yy (by rw [hL.len];omega),yB n L (r+1) x hL]
  congr 1
  omega
theorem C1:∀ (l:List Nat) (b:Dst) (d t:List Nat) (n:Nat),Bl b.L->Run b.run b.k d->(∀ s∈l,s<=257)->dec b l=some (t,n)->d++l.take n=tD (eI b.L 0 t)
 | [],b,d,t,n,hL,hd,hs,h=>by simp [dec] at h
 | s::l,b,d,t,n,hL,hd,hs,h=>by
  have hs':∀ s∈l,s<=257:=fun q hq=>hs q (by simp [hq])
  have hle:=hs s (by simp)
  rw [dec] at h
  unfold rK at h
  by_cases h1:s < 2
  ·rw [if_pos h1] at h
   split at h
   ·simp at h
   ·rename_i hq;split at hq<;>simp at hq
   ·rename_i o t' hq
    split at hq
    ·simp only [Dre.more.injEq] at hq
     obtain ⟨rfl,rfl⟩:=hq
     simp only [Option.map_eq_some_iff] at h
     obtain ⟨⟨t2,n2⟩,h2,h3⟩:=h
     simp only [List.nil_append,Prod.mk.injEq] at h3
     obtain ⟨rfl,rfl⟩:=h3
     have:=C1 l ⟨b.L,b.left,b.run+(1+s)*2 ^ b.k,b.k+1⟩ (d++[s]) t2 n2 hL (hd.snoc h1) hs' h2
     rw [<- this]
     simp
    ·simp at hq
  ·rw [if_neg h1] at h
   by_cases h2:s=257
   ·subst h2
    rw [if_pos rfl] at h
    split at h
    ·simp at h
    ·rename_i L' t' hq
     split at hq
     ·simp only [Dre.done.injEq] at hq
      obtain ⟨rfl,rfl⟩:=hq
      simp only [Option.some.injEq,Prod.mk.injEq] at h
      obtain ⟨rfl,rfl⟩:=h
      have:=yB b.run b.L 0 [] hL
      rw [List.append_nil] at this
      rw [this]
      simp [tD,eI,hd.dF.1]
     ·simp at hq
    ·rename_i hq;split at hq<;>simp at hq
   ·rw [if_neg h2] at h
    by_cases h3:b.run=b.left
    ·rw [if_pos h3] at h;simp at h
    ·rw [if_neg h3] at h
     simp only [Option.map_eq_some_iff] at h
     obtain ⟨⟨t2,n2⟩,h4,h5⟩:=h
     simp only [Prod.mk.injEq] at h5
     obtain ⟨rfl,rfl⟩:=h5
     have ih:=C1 l _ [] t2 n2 (hL.take (by omega:s - 1 < 256)) Run.nil hs' h4
     rw [List.append_assoc,yB b.run b.L 0 _ hL,List.singleton_append,eI,hL.Gg (by omega),if_neg (by omega)]
     simp only [List.nil_append] at ih
     simp only [tD,Nat.zero_add] at ih ⊢
     rw [List.take_succ_cons,ih,hd.dF.1]
     simp
     omega
theorem SV{m n:Nat}{l t:List Nat}(hs:∀ s∈l,s<=257)(h:tE m l=some (t,n)):l.take n=enc t:=by
 have key:∀ L,Bl L->dec ⟨L,m,0,0⟩ l=some (t,n)->l.take n=tD (eI L 0 t):=fun L hL h=>C1 l ⟨L,m,0,0⟩ [] t n hL Run.nil hs h
 exact key bP Bl.zero h
end SyP
namespace TmM
open Go Go.RowKit AM af LtA SyP
theorem av{cs:List Value}{n:Nat}(h:cs.length=n):cs.take n=cs:=List.take_of_length_le (by omega)
theorem SW{l:List Nat}{i:Nat}(h:i < l.length):(u8s l)[i]?=some (.int .u8 (l[i]:Int)):=by rw [eo,List.getElem?_eq_getElem h];rfl
theorem Lz{l:List Nat}{i c:Nat} : (u8s l).set i (.int .u8 (c:Int))=u8s (l.set i c):=by simp [u8s,List.map_set]
theorem cP(l:List Nat):(u8s l).all aW=true:=AM.eB l
theorem bW(l:List Nat):(u8s l).all AM.sc=true:=LtA.kJ l
theorem cK(l:List Nat):(u8s l).flatMap aG=[]:=by
 rw [List.flatMap_eq_nil_iff]
 intro v hv
 simp only [u8s,List.mem_map] at hv
 obtain ⟨_,_,rfl⟩:=hv
 rfl
theorem A7(k:IntKind):∀ (xs ys:List Int) (n:Nat),xs.length=n->ys.length=n->bD (List.replicate n .nu) (xs.map (.int k)) (ys.map (.int k))=some (decide (xs=ys))
 | [],[],0,_,_=>by simp [bD]
 | [],[],n+1,h,_=>by simp at h
 | x::xs,[],n,h,h'=>by simp at h h';omega
 | [],y::ys,n,h,h'=>by simp at h h';omega
 | x::xs,y::ys,0,h,_=>by simp at h
 | x::xs,y::ys,n+1,h,h'=>by
  simp only [List.replicate_succ,List.map_cons,bD,jk,if_true,Option.bind_some]
  rw [A7 k xs ys n (by simpa using h) (by simpa using h')]
  simp only [Option.map_some,Option.some.injEq,List.cons.injEq]
  rw [Bool.eq_iff_iff]
  simp
def inN(l:List Nat):List Int:=(List.range 256).map fun j=>if j∈l then 1 else 0
def inV(l:List Nat):List Value:=(inN l).map (.int .i64)
theorem rL(l:List Nat):(inV l).length=256:=by simp [inV,inN]
theorem Wc:List.replicate 256 (Value.int .i64 0)=inV []:=by
 simp only [inV,inN,List.map_map]
 rw [List.map_congr_left (g:=fun _=>Value.int .i64 0) (fun j _=>by simp),List.map_const',List.length_range]
theorem N8(l:List Nat):(inV l).all aW=true:=by simp [inV,AM.aW,AM.sc]
theorem Wd(l:List Nat):(inV l).all AM.sc=true:=by simp [inV,AM.sc]
theorem SX(l:List Nat):(inV l).flatMap aG=[]:=by
 rw [List.flatMap_eq_nil_iff]
 intro v hv
 simp only [inV,List.mem_map] at hv
 obtain ⟨_,_,rfl⟩:=hv
 rfl
theorem SY(l:List Nat){j:Nat}(h:j < 256):(inV l)[j]?=some (.int .i64 (if j∈l then 1 else 0)):=by
 simp [inV,inN,h]
theorem We{l:List Nat}{i:Nat}(h:i < l.length)(hb:l[i] < 256):(inV (l.take i)).set l[i] (.int .i64 1)=inV (l.take (i+1)):=by
 apply List.ext_getElem?
 intro j
 by_cases hj:j < 256
 ·rw [SY _ hj,List.getElem?_set]
  have hm:j∈l.take (i+1)↔j∈l.take i\/j=l[i]:=by
   rw [List.take_succ_eq_append_getElem h]
   simp only [List.mem_append,List.mem_singleton]
  by_cases e:l[i]=j
  ·rw [if_pos e,if_pos (by rw [rL];omega),if_pos (hm.2 (.inr e.symm))]
  ·rw [if_neg e,SY _ hj]
   have:j∈l.take (i+1)↔j∈l.take i:=by rw [hm];exact ⟨fun h=>h.elim id fun h=>absurd h.symm e,.inl⟩
   simp only [this]
 ·rw [List.getElem?_eq_none (by rw [List.length_set,rL];omega),List.getElem?_eq_none (by rw [rL];omega)]
def yC(i:Nat):List Int:=List.replicate i 1++List.replicate (256 - i) 0
def gL(i:Nat):List Value:=(yC i).map (.int .i64)
theorem tF{i:Nat}(h:i<=256):(gL i).length=256:=by simp [gL,yC];omega
theorem Ju:List.replicate 256 (Value.int .i64 0)=gL 0:=by
 unfold gL yC
 rw [List.replicate_zero,List.nil_append,List.map_replicate]
theorem N9{i:Nat}(h:i < 256):(gL i).set i (.int .i64 1)=gL (i+1):=by
 apply List.ext_getElem?
 intro j
 simp only [gL,yC,List.getElem?_set,List.length_map,List.length_append,List.length_replicate,List.getElem?_map]
 have g:∀ i,i<=256->∀ j,(List.replicate i (1:Int)++List.replicate (256 - i) 0)[j]?=if j < 256 then some (if j < i then 1 else 0) else none:=fun i hi j=>by
  rw [List.getElem?_append]
  simp only [List.length_replicate,List.getElem?_replicate]
  by_cases h1:j < i
  ·rw [if_pos h1,if_pos h1,if_pos (by omega),if_pos h1]
  ·rw [if_neg h1]
   by_cases h2:j < 256
   ·rw [if_pos (by omega),if_pos h2,if_neg h1]
   ·rw [if_neg (by omega),if_neg h2]
 rw [g i (by omega),g (i+1) (by omega)]
 by_cases e:i=j
 ·subst e
  rw [if_pos rfl,if_pos (by omega),if_pos h,if_pos (by omega)];rfl
 ·rw [if_neg e]
  by_cases h2:j < 256
  ·rw [if_pos h2,if_pos h2]
   by_cases h3:j < i
   ·rw [if_pos h3,if_pos (by omega)]
   ·rw [if_neg h3,if_neg (by omega)]
  ·rw [if_neg h2,if_neg h2]
theorem Gh(i:Nat):(gL i).all aW=true:=by simp [gL,AM.aW,AM.sc]
theorem Oa(i:Nat):(gL i).all AM.sc=true:=by simp [gL,AM.sc]
theorem Jv(i:Nat):(gL i).flatMap aG=[]:=by
 rw [List.flatMap_eq_nil_iff]
 intro v hv
 simp only [gL,List.mem_map] at hv
 obtain ⟨_,_,rfl⟩:=hv
 rfl
theorem Zo{l:List Nat} : inN l=yC 256↔∀ j,j < 256->j∈l:=by
 have h0:yC 256=(List.range 256).map fun _=>1:=by
  unfold yC
  rw [List.map_const',List.length_range,Nat.sub_self,List.replicate_zero,List.append_nil]
 rw [h0]
 unfold inN
 constructor
 ·intro h j hj
  have:=List.map_inj_left.1 h j (by simpa using hj)
  by_cases hm:j∈l
  ·exact hm
  ·simp [hm] at this
 ·intro h
  refine List.map_congr_left fun j hj=>?_
  rw [if_pos (h j (by simpa using hj))]
def vb(l:List Nat):Bool:=(List.range 256).all fun j=>decide (j∈l)
theorem Jw{l:List Nat} : vb l=true↔∀ j,j < 256->j∈l:=by
 unfold vb
 rw [List.all_eq_true]
 constructor
 ·intro h j hj;exact of_decide_eq_true (h j (List.mem_range.2 hj))
 ·intro h j hj;exact decide_eq_true (h j (List.mem_range.1 hj))
theorem SZ{l:List Nat}(h:Bl l):vb l=true:=Jw.2 fun _ hj=>h.mem.2 hj
section
variable{hp:List Blk}{L:Nat}{H d:List Nat}
theorem A9(hF:Fit hp.length L H):∀ k i:Nat,i+k=256->∃ fr,
  aX env vT [2,0] (hp.length+1) [(2,.int .i64 i),(0,.pointer (some ⟨hp.length,0,some 0⟩))] ⟨hp++[.cells 0 true (gL i)],L,H,[]⟩ =
  some (.exit 0,fr,⟨hp++[.cells 0 true (gL 256)],L,H,[]⟩)/\fr.get 0=some (.pointer (some ⟨hp.length,0,some 0⟩))
 | 0,i,e=>by
  obtain rfl:i=256:=by omega
  rw [aB vT.eq_1]
  simp (disch:=first | exact AM.dis | fail) only [af.sy,simprocAttr,-List.reduceReplicate,hF.all]
  exact ⟨_,rfl,rfl⟩
 | k+1,i,e=>by
  obtain ⟨fr,e1,e2⟩:=A9 hF k (i+1) (by omega)
  have h1:(i:Int) < 256:=by omega
  have h2:0<=(i:Int)/\(i:Int) < 256:=by omega
  have h3:i+1<=256:=by omega
  rw [aB vT.eq_1]
  simp only [Int.natCast_add,Int.natCast_one] at e1
  simp (disch:=first | exact AM.dis | fail) only [af.sy,simprocAttr,-List.reduceReplicate,hF.all,h1,h2,h3,tF (show i<=256 by omega),N9 (show i < 256 by omega),e1]
  exact ⟨fr,rfl,e2⟩
theorem Ob(hF:Fit hp.length L H):aN env (.func 229) [] ⟨hp,L,H,d⟩=some (.agg (gL 256).toArray,⟨hp,L,H,d⟩):=by
 rw [aA 229 _ _ Yl]
 obtain ⟨fr,e1,e2⟩:=A9 (hp:=hp) (L:=L) (H:=H) hF 256 0 rfl
 simp only [Int.natCast_zero] at e1
 have hl:=tF (Nat.le_refl 256)
 have hcv:=Gh 256
 have hsc:=Oa 256
 have hrf:=Jv 256
 generalize gL 256=o at *
 simp (disch:=first | exact AM.dis | fail) only [af.sy,simprocAttr,-List.reduceReplicate,hF.all,Lh,Ju,hl,av hl,hcv,hsc,hrf,aS (rfl:o.length=o.length),e1,e2]
theorem yD{l:List Nat}(hl:l.length=256)(h8:By l){b:Blk}(hF:Fit hp.length L H):∀ k i:Nat,i+k=256->∃ fr,
  aX env vS [7,6,3] (hp.length+2) [(7,.int .i64 i),(6,.agg (u8s l).toArray),(3,.pointer (some ⟨hp.length+1,0,some 0⟩))] ⟨hp++[b,.cells 0 true (inV (l.take i))],L,H,[]⟩ =
  some (.exit 0,fr,⟨hp++[b,.cells 0 true (inV l)],L,H,[]⟩)/\fr.get 3=some (.pointer (some ⟨hp.length+1,0,some 0⟩))
 | 0,i,e=>by
  obtain rfl:i=256:=by omega
  rw [aB vS.eq_1,List.take_of_length_le (by omega)]
  simp (disch:=first | exact AM.dis | fail) only [af.sy,simprocAttr,-List.reduceReplicate,hF.all]
  exact ⟨_,rfl,rfl⟩
 | k+1,i,e=>by
  have hil:i < l.length:=by omega
  obtain ⟨fr,e1,e2⟩:=yD hl h8 (b:=b) hF k (i+1) (by omega)
  have hb:l[i] < 256:=h8.get hil
  have h1:(i:Int) < 256:=by omega
  have h2:0<=(i:Int)/\(i:Int) < 256:=by omega
  have h4:0<=(l[i]:Int)/\(l[i]:Int) < 256:=by omega
  have h5:l[i]+1<=256:=by omega
  have hc:=SW hil
  rw [aB vS.eq_1]
  simp only [Int.natCast_add,Int.natCast_one] at e1
  simp (disch:=first | exact AM.dis | fail) only [af.sy,simprocAttr,-List.reduceReplicate,hF.all,h1,h2,hc,h4,h5,rL,We hil hb,e1]
  exact ⟨fr,rfl,e2⟩
set_option maxRecDepth 100000 in
theorem nY{l:List Nat}(hl:l.length=256)(h8:By l)(hF:Fit hp.length L H):aN env (.func 184) [.agg (u8s l).toArray] ⟨hp,L,H,d⟩=some (.bool (vb l),⟨hp,L,H,d⟩):=by
 rw [aA 184 _ _ abl]
 have hu:(u8s l).length=256:=by rw [aq,hl]
 obtain ⟨fr,e1,e2⟩:=yD (hp:=hp) (L:=L) (H:=H) hl h8 (b:=.cells 0 true (u8s l)) hF 256 0 rfl
 simp only [List.take_zero,Int.natCast_zero] at e1
 have hl2:=rL l
 have hcv:=N8 l
 have hrf:=SX l
 have hsc:=Wd l
 have heq:bD (List.replicate 256 Sh.nu) (inV l) (gL 256)=some (vb l):=by
  rw [inV,gL,A7 .i64 _ _ 256 (by simp [inN]) (by rw [<- List.length_map (f:=Value.int .i64)];exact tF (Nat.le_refl 256))]
  congr 1
  rw [Bool.eq_iff_iff,decide_eq_true_eq,Zo,Jw]
 have h0:=Wc
 generalize inV l=o at *
 have how:=fun hp L H d hF=>Ob (hp:=hp) (L:=L) (H:=H) (d:=d) hF
 generalize gL 256=w at *
 simp (disch:=first | exact AM.dis | fail) only [af.sy,simprocAttr,-List.reduceReplicate,hF.all,FT,cP,bW,hu,av hu,cK,h0,hl2,av hl2,hcv,hsc,hrf,how,heq,e1,e2]
theorem Zp(n:Nat):∃ z:List Value,List.replicate n (Value.int .u8 0)=z/\z.length=n:=⟨_,rfl,List.length_replicate⟩
theorem ab5{l:List Nat}(hl:l.length=256){p:Nat}(hp2:p < 256):(putAt (u8s l) 1 (u8s (l.take p))).set 0 (.int .u8 (l[p]'(by omega):Int))=u8s (bC l p):=by
 have h1:(l.take p).length=p:=by simp;omega
 have hm:bC l p=l[p]'(by omega)::(l.take p++l.drop (p+1)):=by
  unfold bC
  rw [List.getD_eq_getElem?_getD,List.getElem?_eq_getElem (by omega),List.eraseIdx_eq_take_drop_succ];rfl
 rw [hm]
 apply List.ext_getElem?
 intro j
 rw [List.getElem?_set]
 by_cases h0:j=0
 ·subst h0
  rw [if_pos rfl,if_pos (by rw [dP,aq];omega)];rfl
 ·rw [if_neg (by omega)]
  obtain ⟨j,rfl⟩:=Nat.exists_eq_succ_of_ne_zero h0
  rw [dJ _ _ _ _ (by rw [aq,aq,h1];omega),aq,h1]
  show _=(u8s (l.take p++l.drop (p+1)))[j]?
  rw [eo,eo,eo]
  split
  ·rename_i hh
   rw [show j.succ - 1=j by omega,List.getElem?_append_left (by rw [h1];omega)]
  ·rename_i hh
   rw [List.getElem?_append_right (by rw [h1];omega),h1,List.getElem?_drop]
   congr 2
   omega
theorem mO{l:List Nat}(hl:l.length=256){p:Nat}(hp2:p < 256):(bC l p).length=256:=by rw [N7 (by omega),hl]
theorem Ba{l:List Nat}(hl:l.length=256)(h8:By l){p:Nat}(hp2:p < 256)(hF:Fit hp.length L H):aN env (.func 187) [.agg (u8s l).toArray,.int .i64 p] ⟨hp,L,H,d⟩=some (.tuple #[.agg (u8s (bC l p)).toArray,.int .u8 (l.getD p 0:Nat),.bool true],⟨hp,L,H,d⟩):=by
 rw [aA 187 _ _ abo]
 have hu:(u8s l).length=256:=by rw [aq,hl]
 have h1:¬ (p:Int) < 0:=by omega
 have h2:¬ (p:Int)>=256:=by omega
 have h3:0<=(p:Int)/\(p:Int) < 256:=by omega
 have hc:=SW (l:=l) (i:=p) (by omega)
 have hm:=ab5 hl hp2
 have hg:l.getD p 0=l[p]'(by omega):=by rw [List.getD_eq_getElem?_getD,List.getElem?_eq_getElem (by omega)];rfl
 have hm2:(u8s (bC l p)).length=256:=by rw [aq,mO hl hp2]
 have hcv:=cP (bC l p)
 have hsc:=bW (bC l p)
 have hrf:=cK (bC l p)
 rw [hg]
 obtain ⟨z,hz,hzl⟩:=Zp 256
 have hpz:putAt z 0 (u8s l)=u8s l:=aS (by rw [hu,hzl])
 have h5:1<=(p:Int)+1/\(p:Int)+1<=256:=by omega
 have h6:0<=(p:Int)/\(p:Int)<=256:=by omega
 have c1:eT 256 (some (.int .i64 1)) (some (.int .i64 ((p:Int)+1))) none=some (1,p+1,none):=by
  have e1:((p:Int)+1).toNat=p+1:=by omega
  simp only [eT,cr]
  rw [if_pos (by omega)]
  simp only [Option.bind_some,e1]
  rw [if_pos (by omega)];rfl
 have c2:eT 256 none (some (.int .i64 (p:Int))) none=some (0,p,none):=by
  simp only [eT,cr]
  rw [if_pos (by omega)];rfl
 have ht:(u8s l).take p=u8s (l.take p):=by simp [u8s,List.map_take]
 have htl:(u8s (l.take p)).length=p:=by rw [aq];simp;omega
 by_cases h0:p=0
 ·subst h0
  have c1':eT 256 (some (.int .i64 1)) (some (.int .i64 1)) none=some (1,1,none):=rfl
  have c2':eT 256 none (some (.int .i64 0)) none=some (0,0,none):=rfl
  have hm':(u8s l).set 0 (.int .u8 (l[0]'(by omega):Int))=u8s (bC l 0):=hm
  simp (disch:=first | exact AM.dis | fail) only [af.sy,simprocAttr,-List.reduceReplicate,hF.all,AU,cP,bW,hu,av hu,cK,h1,h2,h3,hc,hz,hzl,hpz,c1',c2',hm',hm2,hcv,hsc,hrf,av hm2,aS (rfl:(u8s (bC l 0)).length=(u8s (bC l 0)).length)]
 ·have h7:p<=256:=by omega
  have h8':1+p<=256:=by omega
  have pl1:(putAt (u8s l) 1 (u8s (l.take p))).length=256:=by rw [dP,hu]
  have htt:(u8s (l.take p)).take p=u8s (l.take p):=List.take_of_length_le (by omega)
  simp (disch:=first | exact AM.dis | fail) only [af.sy,simprocAttr,-List.reduceReplicate,hF.all,AU,cP,bW,hu,av hu,cK,h1,h2,h3,hc,hz,hzl,hpz,h5,h6,h7,h8',h0,Nat.sub_zero,Nat.add_sub_cancel,Nat.min_self,Nat.mul_one,pl1,htt,c1,c2,ht,htl,hm,hm2,hcv,hsc,hrf,av hm2,aS (rfl:(u8s (bC l p)).length=(u8s (bC l p)).length)]
end
end TmM
namespace AM
open Go Go.RowKit
section
variable{aa:ay}{fr:Fr}{σ:St}
def Zq(σ:St)(c:Int):Option (List UInt8)->Option (Value×St)
 | some l=>some (.int .i64 (ixB c.toNat.toUInt8 l 0),σ)
 | none=>none
def Zr(σ:St)(c:Int)(o n:Nat):Option (Bool×List Value)->Option (Value×St)
 | some (_,cs)=>if o+n<=cs.length then Zq σ c (fo ((cs.drop o).take n)) else none
 | none=>none
def Wf(σ:St)(x c:Option Value):Option (Value×St):=x.bind fun x=>c.bind fun c=>match x,c with
  | .slice none 0 0,.int .u8 _=>some (.int .i64 (-1),σ)
  | .slice (some a) n _,.int .u8 c=>(σ.blk a).bind fun (_,cs)=>if a.off+n<=cs.length then (fo ((cs.drop a.off).take n)).map fun l=>(.int .i64 (ixB c.toNat.toUInt8 l 0),σ) else none
  | _,_=>none
theorem Oc(b o n e:Nat)(s:Option Nat)(c:Int):Wf σ (some (.slice (some ⟨b,o,s⟩) n e)) (some (.int .u8 c))=Zr σ c o n (σ.blk ⟨b,o,s⟩):=by
 unfold Wf Zr
 simp only [Option.bind_some]
 cases σ.blk ⟨b,o,s⟩ with
 | none=>rfl
 | some q=>
  obtain ⟨g,cs⟩:=q
  simp only [Option.bind_some]
  split
  ·cases fo ((cs.drop o).take n)<;>rfl
  ·rfl
theorem Od(c:Int)(o n:Nat)(g:Bool)(cs:List Value):Zr σ c o n (some (g,cs))=if o+n<=cs.length then Zq σ c (fo ((cs.drop o).take n)) else none:=rfl
theorem Oe(c:Int)(l:List UInt8):Zq σ c (some l)=some (.int .i64 (ixB c.toNat.toUInt8 l 0),σ):=rfl
theorem S0(x c:Operand):aop aa (.zI x c) fr σ=Wf σ (ev fr x) (ev fr c):=by
 simp only [aop,Wf]
 congr 1
end
end AM
namespace TsA
open Go Go.RowKit AM af LtA SyP TmM
theorem LA{c:Nat}(hc:c < 256):∀ (l:List Nat) (i:Nat),By l->c∈l->ixB (UInt8.ofNat c) (b8 l) i=((i+l.idxOf c:Nat):Int)
 | [],i,_,h=>by cases h
 | x::l,i,hb,h=>by
  have hx:=hb x (by simp)
  have e:b8 (x::l)=UInt8.ofNat x::b8 l:=rfl
  rw [e,ixB]
  by_cases hxc:x=c
  ·subst hxc
   rw [if_pos rfl,List.idxOf_cons_self,Nat.add_zero]
  ·have hn:UInt8.ofNat x≠UInt8.ofNat c:=fun h=>hxc (by
    have:=congrArg UInt8.toNat h
    simp only [UInt8.toNat_ofNat'] at this
    omega)
   rw [if_neg hn,LA hc l (i+1) (fun b h=>hb b (by simp [h])) ((List.mem_cons.1 h).resolve_left (Ne.symm hxc)),List.idxOf_cons,show (x==c)=false by simpa using hxc,cond_false]
   omega
section
variable{hp:List Blk}{L:Nat}{H d:List Nat}
theorem S3{l:List Nat}(hl:l.length=256)(h8:By l){c:Nat}(hc:c < 256)(hm:c∈l){b e:Nat}(hb:hp[b]?=some (.cells 0 true (u8s l)))(hh:H.contains b=false)(hF:Fit hp.length L H) :
  aN env (.func 188) [.slice (some ⟨b,0,some 0⟩) 256 e,.int .u8 c] ⟨hp,L,H,d⟩=some (.int .i64 (l.idxOf c:Nat),⟨hp,L,H,d⟩):=by
 rw [aA 188 _ _ abp]
 have hu:(u8s l).length=256:=by rw [aq,hl]
 have hx:ixB c.toUInt8 (b8 l) 0=((l.idxOf c:Nat):Int):=by
  have:=LA hc l 0 h8 hm
  rw [Nat.zero_add] at this
  exact this
 have hcx:∀ s:Option Nat,s=some 0->(QN s (some (.cells 0 true (u8s l))))=some (true,u8s l):=fun s hs=>by subst hs;rfl
 simp (disch:=first | exact AM.dis | fail) only [af.sy,simprocAttr,-List.reduceReplicate,hF.all,Lc,S0,Oc,Od,Oe,hb,hh,hu,av hu,mG,hx]
theorem Gi{l:List Nat}(hl:l.length=256)(h8:By l){c:Nat}(hc:c < 256)(hm:c∈l)(hF:Fit hp.length L H) :
  aN env (.func 140) [.agg (u8s l).toArray,.int .u8 c] ⟨hp,L,H,d⟩=some (.tuple #[.agg (u8s (SyP.ef l c).1).toArray,.int .i64 ((SyP.ef l c).2:Nat)],⟨hp,L,H,d⟩):=by
 rw [aA 140 _ _ abd]
 have hu:(u8s l).length=256:=by rw [aq,hl]
 have hi:l.idxOf c < 256:=by rw [<- hl];exact List.idxOf_lt_length_of_mem hm
 have h1:=fun nw e d hF2=>S3 (hp:=hp++.cells 0 true (u8s l)::nw) (L:=L) (H:=H) (d:=d) hl h8 hc hm (b:=hp.length) (e:=e) (bY _) hF.kg hF2
 have c0:eT 256 none none none=some (0,256,none):=rfl
 have h2:=fun hp L H d hF=>Ba (hp:=hp) (L:=L) (H:=H) (d:=d) hl h8 hi hF
 have hm2:(u8s (bC l (l.idxOf c))).length=256:=by rw [aq,mO hl hi]
 have hcv:=cP (bC l (l.idxOf c))
 have hsc:=bW (bC l (l.idxOf c))
 have hrf:=cK (bC l (l.idxOf c))
 obtain ⟨z,hz,hzl⟩:=Zp 256
 have hpm:putAt z 0 (u8s (bC l (l.idxOf c)))=u8s (bC l (l.idxOf c)):=aS (by rw [hm2,hzl])
 have ady:putAt (u8s (bC l (l.idxOf c))) 0 (u8s (bC l (l.idxOf c)))=u8s (bC l (l.idxOf c)):=aS rfl
 show _=some (Value.tuple #[.agg (u8s (bC l (l.idxOf c))).toArray,.int .i64 (l.idxOf c:Nat)],_)
 simp (disch:=first | exact AM.dis | fail) only [af.sy,simprocAttr,-List.reduceReplicate,hF.all,K9,cP,bW,hu,av hu,cK,hz,hzl,c0,h1,h2,hm2,hcv,hsc,hrf,av hm2,hpm,ady]
def zX(i:Nat):List Value:=u8s (List.range i)++List.replicate (256 - i) (.int .u8 0)
theorem Of:List.replicate 256 (Value.int .u8 0)=zX 0:=rfl
theorem Gj{i:Nat}(h:i<=256):(zX i).length=256:=by simp [zX,u8s];omega
theorem S4:zX 256=u8s bP:=by simp [zX,bP]
theorem S6{i:Nat}(h:i < 256):(zX i).set i (.int .u8 i)=zX (i+1):=by
 have e:(256 - i)=(256 - (i+1))+1:=by omega
 have hl:(u8s (List.range i)).length=i:=by rw [aq,List.length_range]
 unfold zX
 rw [List.set_append_right _ _ (by omega),hl,Nat.sub_self,e,List.replicate_succ,List.set_cons_zero,List.range_succ]
 simp [u8s]
theorem Gk(hF:Fit hp.length L H):∀ k i:Nat,i+k=256->∃ fr,
  aX env vO [2,0] (hp.length+1) [(2,.int .i64 i),(0,.pointer (some ⟨hp.length,0,some 0⟩))] ⟨hp++[.cells 0 true (zX i)],L,H,[]⟩ =
  some (.exit 0,fr,⟨hp++[.cells 0 true (zX 256)],L,H,[]⟩)/\fr.get 0=some (.pointer (some ⟨hp.length,0,some 0⟩))
 | 0,i,e=>by
  obtain rfl:i=256:=by omega
  rw [aB vO.eq_1]
  simp (disch:=first | exact AM.dis | fail) only [af.sy,simprocAttr,-List.reduceReplicate,hF.all]
  exact ⟨_,rfl,rfl⟩
 | k+1,i,e=>by
  obtain ⟨fr,e1,e2⟩:=Gk hF k (i+1) (by omega)
  have h1:(i:Int) < 256:=by omega
  have h2:0<=(i:Int)/\(i:Int) < 256:=by omega
  have h3:i+1<=256:=by omega
  have h4:(i:Int)%256=i:=by omega
  have h5:E8 .u8 (.int .i64 (i:Int))=some (.int .u8 (i:Int)):=by
   rw [oR,adh,h4]
  rw [aB vO.eq_1]
  simp only [Int.natCast_add,Int.natCast_one] at e1
  simp (disch:=first | exact AM.dis | fail) only [af.sy,simprocAttr,-List.reduceReplicate,hF.all,h1,h2,h3,h4,h5,Gj (show i<=256 by omega),S6 (show i < 256 by omega),e1]
  exact ⟨fr,rfl,e2⟩
theorem Gl(hF:Fit hp.length L H):aN env (.func 136) [] ⟨hp,L,H,d⟩=some (.agg (u8s bP).toArray,⟨hp,L,H,d⟩):=by
 rw [aA 136 _ _ Yk]
 obtain ⟨fr,e1,e2⟩:=Gk (hp:=hp) (L:=L) (H:=H) hF 256 0 rfl
 simp only [Int.natCast_zero] at e1
 have hu:(u8s bP).length=256:=by rw [aq];simp [bP]
 rw [S4] at e1
 simp (disch:=first | exact AM.dis | fail) only [af.sy,simprocAttr,-List.reduceReplicate,hF.all,K8,Of,Gj (Nat.zero_le 256),cP,bW,hu,av hu,cK,aS (rfl:(u8s bP).length=(u8s bP).length),e1,e2]
theorem S8{r k s:Nat}(hr:r<=65536)(hk:k<=16)(hs:s < 2)(hF:Fit hp.length L H) :
  aN env (.func 185) [.int .i64 r,.int .i64 k,.int .i64 s] ⟨hp,L,H,d⟩=some (.tuple #[.int .i64 (r+(1+s)*2 ^ k:Nat),.int .i64 0],⟨hp,L,H,d⟩):=by
 rw [aA 185 _ _ abm]
 have h2:(2:Nat) ^ k<=2 ^ 16:=Nat.pow_le_pow_right (by decide) hk
 have h16:(2:Nat) ^ 16=65536:=by decide
 have hpw:((2:Int) ^ k)=((2 ^ k:Nat):Int):=by push_cast;rfl
 have h1:¬ (r:Int) < 0:=by omega
 have h3:¬ (r:Int) > 2147483647:=by omega
 have h4:¬ (k:Int) < 0:=by omega
 have h5:¬ (k:Int) > 30:=by omega
 have h6:min k 64=k:=by omega
 have hmul:(1+s)*2 ^ k<=131072:=by
  have:(1+s)*2 ^ k<=2*2 ^ k:=Nat.mul_le_mul_right _ (by omega)
  omega
 have h7:(1+(s:Int))*2 ^ k=(((1+s)*2 ^ k:Nat):Int):=by push_cast;rfl
 generalize hM:(1+s)*2 ^ k=M at *
 have h8:¬ ((r:Int)+(M:Int)) > 2147483647:=by omega
 have h9:((r:Int)+(M:Int))=((r+M:Nat):Int):=by omega
 rcases (show s=0\/s=1 by omega) with rfl | rfl
 ·have h7':(1:Int)*2 ^ k=(M:Int):=by rw [<- h7];rfl
  simp (disch:=first | exact AM.dis | fail) only [af.sy,simprocAttr,-List.reduceReplicate,hF.all,FU,h1,h3,h4,h5,h6,h7',h8]
  rw [Int.natCast_add]
 ·have h7':(2:Int)*2 ^ k=(M:Int):=by rw [<- h7];rfl
  simp (disch:=first | exact AM.dis | fail) only [af.sy,simprocAttr,-List.reduceReplicate,hF.all,FU,h1,h3,h4,h5,h6,h7',h8]
  rw [Int.natCast_add]
end
end TsA
end Go.Proofs.YtgdpefeomemllaaGreat
section
namespace Go.Proofs.YtgdpefeomemllaaGreat
namespace AM
open Go
def firsts:List Nat->List Nat->List Nat
 | [],acc=>acc
 | r::l,acc=>if acc.contains r then firsts l acc else firsts l (acc++[r])
theorem mP:∀ (l acc:List Nat) (x:Nat),x∈firsts l acc↔x∈l\/x∈acc
 | [],acc,x=>by simp [firsts]
 | r::l,acc,x=>by
  unfold firsts
  split
  ·next h=>
   rw [mP l acc x]
   have:r∈acc:=by simpa using h
   constructor
   ·rintro (h1 | h1)
    ·simp [h1]
    ·exact .inr h1
   ·rintro (h1 | h1)
    ·rcases List.mem_cons.1 h1 with rfl | h2
     ·exact .inr this
     ·exact .inl h2
    ·exact .inr h1
  ·rw [mP l _ x]
   simp only [List.mem_append,List.mem_cons,List.not_mem_nil,or_false]
   constructor
   ·rintro (h1 | h1 | h1)
    ·exact .inl (.inr h1)
    ·exact .inr h1
    ·exact .inl (.inl h1)
   ·rintro ((h1 | h1) | h1)
    ·exact .inr (.inr h1)
    ·exact .inl h1
    ·exact .inr (.inl h1)
theorem uQ:∀ (l:List Nat) (r:Nat),ez l=true->l.contains r=false->ez (l++[r])=true
 | [],r,_,_=>rfl
 | x::l,r,h,hr=>by
  simp only [ez,Bool.and_eq_true,List.cons_append] at h ⊢
  simp only [List.contains_cons,Bool.or_eq_false_iff] at hr
  refine ⟨?_,uQ l r h.2 hr.2⟩
  have h1:=h.1
  simp only [Bool.not_eq_true',List.contains_eq_mem,decide_eq_false_iff_not] at h1 ⊢
  intro hx
  rcases List.mem_append.1 hx with h2 | h2
  ·exact h1 h2
  ·simp at h2 hr;exact hr.1 h2.symm
theorem mQ:∀ (l acc:List Nat),ez acc=true->ez (firsts l acc)=true
 | [],acc,h=>h
 | r::l,acc,h=>by
  unfold firsts
  split
  ·exact mQ l acc h
  ·next hc=>exact mQ l _ (uQ acc r h (by simpa using hc))
def kj(b:Blk):Prop:=cN b=[]/\∀ f,fB f b=b
theorem kj.plain(g:Nat)(cs:List Value):kj (.cells g true cs):=⟨rfl,fun _=>rfl⟩
theorem nZ{hp:List Blk}{base:Nat} : ∀ (ws acc:List Nat) (f:Nat),ws.length < f->(∀ x∈ws,base<=x/\∃ b,hp[x]?=some b/\kj b)->reach hp base f ws acc=firsts ws acc
 | ws,acc,0,h,_=>by omega
 | [],acc,f+1,_,_=>by rw [reach,firsts]
 | r::ws,acc,f+1,hl,hx=>by
  obtain ⟨h1,b,h2,h3⟩:=hx r (by simp)
  rw [reach,firsts]
  have hb:(decide (r < base)||acc.contains r)=acc.contains r:=by
   rw [decide_eq_false (by omega),Bool.false_or]
  rw [hb]
  simp only [List.length_cons] at hl
  have hr:aQ hp r=[]:=by simp [aQ,h2,h3.1]
  rw [hr,List.nil_append,nZ ws acc f (by omega) (fun x h=>hx x (by simp [h])),nZ ws (acc++[r]) f (by omega) (fun x h=>hx x (by simp [h]))]
theorem rM{f:Nat->Nat}{v:Value}(h:∀ r∈aG v,f r=r):cQ f v=v:=by
 cases v with
 | pointer a=>cases a with
  | none=>rfl
  | some a=>simp only [cQ];rw [h a.block (by simp [aG])]
 | slice a n e=>cases a with
  | none=>rfl
  | some a=>simp only [cQ];rw [h a.block (by simp [aG])]
 | map r=>cases r with
  | none=>rfl
  | some r=>simp only [cQ];rw [h r (by simp [aG])]
 | iface t v=>
  cases v<;>try rfl
  rename_i a
  cases a with
  | none=>rfl
  | some a=>simp only [cQ];rw [h a.block (by simp [aG])]
 | _=>rfl
theorem map_id'{α:Type}{f:α->α}{l:List α}(h:∀ a∈l,f a=a):l.map f=l:=by
 rw [List.map_congr_left (g:=id) h,List.map_id]
theorem C2{f:Nat->Nat}{v:Value}(h:∀ r∈aT v,f r=r):fm f v=v:=by
 cases v with
 | agg cs=>
  simp only [fm]
  rw [map_id' fun a ha=>rM fun r hr=>h r (List.mem_flatMap.2 ⟨a,ha,hr⟩)]
 | func k fi ca=>
  simp only [fm]
  rw [map_id' fun a ha=>rM fun r hr=>h r (List.mem_append.2 (.inl (List.mem_flatMap.2 ⟨a,ha,hr⟩))),map_id' fun a ha=>rM fun r hr=>h r (List.mem_append.2 (.inr (List.mem_flatMap.2 ⟨a,ha,hr⟩)))]
 | _=>simp only [fm];exact rM (by simpa only [aT] using h)
theorem yE{f:Nat->Nat}{v:Value}(h:∀ r∈refs v,f r=r):ren f v=v:=by
 cases v with
 | tuple vs=>
  simp only [ren]
  rw [map_id' fun a ha=>C2 fun r hr=>h r (List.mem_flatMap.2 ⟨a,ha,hr⟩)]
 | _=>simp only [ren];exact C2 (by simpa only [refs] using h)
def plc(base:Nat)(ks:List Nat)(id:Nat):Nat:=if id < base then id else base+ks.idxOf id
theorem Wg{base:Nat}{ks:List Nat}{id:Nat}(h:id < base):plc base ks id=id:=if_pos h
section
variable{h nw:List Blk}{L:Nat}{H d:List Nat}{vs:List Value}
theorem rN{R:List Nat}(hdn:ez d=true)(hdl:∀ t∈d,t < h.length)
  (AP:(vs.flatMap refs++d.flatMap (aQ h)).filter (h.length<=·)=R) (hne:R≠[]) (hlen:R.length < 4096)
  (hp:∀ r∈R,∃ b,(h++nw)[r]?=some b/\kj b) :
  gc h.length vs ⟨h++nw,L,H,d⟩=some (vs.map (ren (plc h.length (firsts R []))),⟨dy (plc h.length (firsts R [])) d h++(firsts R []).map fun r=>(h++nw).getD r default,L,H,d⟩):=by
 have Wh:d.filter (· < h.length)=d:=List.filter_eq_self.2 fun t ht=>by simpa using hdl t ht
 have Wi:∀ t∈d,aQ (h++nw) t=aQ h t:=fun t ht=>by
  unfold aQ;rw [List.getElem?_append_left (hdl t ht)]
 have hfm:d.flatMap (aQ (h++nw))=d.flatMap (aQ h):=by
  rw [List.flatMap_def,List.flatMap_def,List.map_congr_left Wi]
 have hR:∀ r∈R,h.length<=r/\r < (h++nw).length:=fun r hr=>by
  refine ⟨?_,?_⟩
  ·rw [<- AP] at hr
   simpa using (List.mem_filter.1 hr).2
  ·obtain ⟨b,h1,_⟩:=hp r hr
   exact (List.getElem?_eq_some_iff.1 h1).1
 have ab6:¬ (h++nw).length<=h.length:=by
  cases R with
  | nil=>exact absurd rfl hne
  | cons r R=>have:=hR r (by simp);omega
 have hmem:∀ r,(r∈vs.flatMap refs\/r∈d.flatMap (aQ h))->(decide (r < h.length)||(firsts R []).contains r)=true:=fun r hr=>by
  rcases Nat.lt_or_ge r h.length with h1 | h1
  ·simp [h1]
  ·have:r∈R:=by
    rw [<- AP]
    exact List.mem_filter.2 ⟨List.mem_append.2 hr,by simpa using h1⟩
   have:r∈firsts R []:=(mP R [] r).2 (.inl this)
   simp [this]
 unfold gc
 rw [if_neg ab6]
 simp only [Wh,hfm]
 rw [AP]
 cases hRR:R with
 | nil=>exact absurd hRR hne
 | cons r R'=>
  simp only []
  rw [nZ (r::R') [] 4096 (by rw [<- hRR];exact hlen) (fun x hx=>by rw [<- hRR] at hx;exact ⟨(hR x hx).1,hp x hx⟩),<- hRR]
  unfold lX
  simp only [Wh]
  have hkm:∀ k∈firsts R [],k∈R:=fun k hk=>by
   rcases (mP R [] k).1 hk with h1 | h1
   ·exact h1
   ·cases h1
  refine (if_pos ?_).trans ?_
  ·simp only [Bool.and_eq_true]
   refine ⟨⟨⟨⟨mQ R [] rfl,hdn⟩,?_⟩,?_⟩,?_⟩
   ·rw [List.all_eq_true];intro v hv;rw [List.all_eq_true];intro r hr
    exact hmem r (.inl (List.mem_flatMap.2 ⟨v,hv,hr⟩))
   ·rw [List.all_eq_true];intro t ht;rw [List.all_eq_true];intro r hr
    rw [Wi t ht] at hr
    exact hmem r (.inr (List.mem_flatMap.2 ⟨t,ht,hr⟩))
   ·rw [List.all_eq_true];intro k hk
    have hk':=hkm k hk
    obtain ⟨b,hg,hs⟩:=hp k hk'
    have hr0:aQ (h++nw) k=[]:=by simp [aQ,hg,hs.1]
    rw [hr0]
    simp only [List.all_nil,Bool.and_true,Bool.and_eq_true,decide_eq_true_eq]
    exact hR k hk'
  ·simp only [List.take_left']
   congr 4
   refine List.map_congr_left fun k hk=>?_
   obtain ⟨b,hg,hs⟩:=hp k (hkm k hk)
   rw [List.getD_eq_getElem?_getD,hg]
   exact hs.2 _
theorem Wj{R:List Nat}(hdn:ez d=true)(hdl:∀ t∈d,t < h.length)
  (AP:(vs.flatMap refs++d.flatMap (aQ h)).filter (h.length<=·)=R) (hne:R≠[]) (hlen:R.length < 4096)
  (hp:∀ r∈R,∃ g cs,(h++nw)[r]?=some (.cells g true cs)) :
  gc h.length vs ⟨h++nw,L,H,d⟩=some (vs.map (ren (plc h.length (firsts R []))),⟨dy (plc h.length (firsts R [])) d h++(firsts R []).map fun r=>(h++nw).getD r default,L,H,d⟩):=
 rN hdn hdl AP hne hlen fun r hr=>by
  obtain ⟨g,cs,h1⟩:=hp r hr
  exact ⟨_,h1,kj.plain g cs⟩
theorem Wk{d:List Nat}(hv:∀ v∈vs,∀ r∈refs v,r < h.length)(hdl:∀ t∈d,t < h.length)(hdr:∀ t∈d,∀ r∈aQ h t,r < h.length) :
  gc h.length vs ⟨h++nw,L,H,d⟩=some (vs,⟨h,L,H,d⟩):=by
 have Wh:d.filter (· < h.length)=d:=List.filter_eq_self.2 fun t ht=>by simpa using hdl t ht
 have Wi:∀ t∈d,aQ (h++nw) t=aQ h t:=fun t ht=>by
  unfold aQ;rw [List.getElem?_append_left (hdl t ht)]
 have hfm:d.flatMap (aQ (h++nw))=d.flatMap (aQ h):=by
  rw [List.flatMap_def,List.flatMap_def,List.map_congr_left Wi]
 unfold gc
 by_cases hn:(h++nw).length<=h.length
 ·rw [if_pos hn]
  have:nw=[]:=by
   simp only [List.length_append] at hn
   exact List.eq_nil_of_length_eq_zero (by omega)
  subst this
  simp
 ·rw [if_neg hn]
  simp only [Wh,hfm]
  have:(vs.flatMap refs++d.flatMap (aQ h)).filter (h.length<=·)=[]:=by
   rw [List.filter_eq_nil_iff]
   intro r hr
   rcases List.mem_append.1 hr with hr | hr
   ·obtain ⟨v,h1,h2⟩:=List.mem_flatMap.1 hr
    have:=hv v h1 r h2
    simpa using this
   ·obtain ⟨v,h1,h2⟩:=List.mem_flatMap.1 hr
    have:=hdr v h1 r h2
    simpa using this
  rw [this]
  simp
theorem S9{base:Nat}{d:List Nat}(hb:h.length=base)(hv:∀ v∈vs,∀ r∈refs v,r < base)(hdl:∀ t∈d,t < base)(hdr:∀ t∈d,∀ r∈aQ h t,r < base) :
  gc base vs ⟨h++nw,L,H,d⟩=some (vs,⟨h,L,H,d⟩):=by
 subst hb;exact Wk hv hdl hdr
theorem LB{base a k g:Nat}{cs:List Value}{x:Blk}(hb:h.length=base)(hv:∀ v∈vs,∀ r∈refs v,r < base)(ha:h[a]?=some x)(hx:(cN x).filter (base<=·)=[base+k])(hk:nw[k]?=some (.cells g true cs)) :
  gc base vs ⟨h++nw,L,H,[a]⟩=some (vs,⟨h.set a (fB (plc base [base+k]) x)++[.cells g true cs],L,H,[a]⟩):=by
 subst hb
 have hal:=(List.getElem?_eq_some_iff.1 ha).1
 have hr:aQ h a=cN x:=by simp [aQ,ha]
 have hkl:(h++nw)[h.length+k]?=some (.cells g true cs):=by rw [List.getElem?_append_right (by omega),Nat.add_sub_cancel_left];exact hk
 have h0:(vs.flatMap refs).filter (h.length<=·)=[]:=by
  rw [List.filter_eq_nil_iff]
  intro r hr
  obtain ⟨v,h1,h2⟩:=List.mem_flatMap.1 hr
  have:=hv v h1 r h2
  simpa using this
 rw [Wj (R:=[h.length+k]) rfl (fun t ht=>by simp at ht;omega) (by rw [List.filter_append,h0,List.flatMap_cons,List.flatMap_nil,List.append_nil,hr,hx];rfl) (by simp) (by simp) (fun r hr=>by simp at hr;subst hr;exact ⟨g,cs,hkl⟩)]
 have hf:firsts [h.length+k] []=[h.length+k]:=rfl
 rw [hf,map_id' fun v h1=>yE fun r h2=>Wg (hv v h1 r h2)]
 have hg:(h++nw).getD (h.length+k) default=.cells g true cs:=by rw [List.getD_eq_getElem?_getD,hkl];rfl
 have hm:h.modify a (fB (plc h.length [h.length+k]))=h.set a (fB (plc h.length [h.length+k]) x):=by
  refine List.ext_getElem? fun i=>?_
  rw [List.getElem?_modify,List.getElem?_set]
  by_cases c:a=i
  ·subst c;rw [if_pos rfl,if_pos hal,ha];simp
  ·rw [if_neg c];simp [c]
 simp only [dy,List.map_cons,List.map_nil,hg,hm]
end
end AM
end Go.Proofs.YtgdpefeomemllaaGreat
end
