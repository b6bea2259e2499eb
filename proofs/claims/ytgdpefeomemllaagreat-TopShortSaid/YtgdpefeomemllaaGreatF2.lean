/- Conditions: none. -/
import Derived.Test.YtgdpefeomemllaaGreatF1
set_option linter.all false
set_option maxRecDepth 100000
namespace Go.Proofs.YtgdpefeomemllaaGreat
namespace AM
open Go Go.RowKit
def Mn (P : Program) (f : FuncId) : Prop := ∃ fn, P.funcs[f]? = some fn /\ fn.name ≠ "runtime.NumGoroutine" /\ fn.body.isSome = true
def Um(Yp:Emb->World->Prop):Prop:=∀ (X:Emb) (σ:St) (w:World) (X':Emb) (w':World),Yp X w->Stp X σ w X' w'->Yp X' w'
def qp:Emb->World->Prop:=fun _ _=>True
theorem pF:Um qp:=fun _ _ _ _ _ _ _=>trivial
def Ends(w0:World)(X:Emb)(σ:St)(w:World)(v:Value)(σ':St):Ending->World->Prop:=fun e w'=>∃ u X',e=.returned u/\fN X' v u/\Sim w0 X' σ' w'/\Stp X σ w X' w'
structure g9(P:Program)(w0:World)(Yp:Emb->World->Prop)(fz:fD):Prop where
 ast:gK fz
 acA:Um Yp
 call:∀ g args σ v σ',fz g args σ=some (v,σ')->(∃ f,g=.func f/\Mn P f /\
   ∀ X w (rargs:Array Value),Sim w0 X σ w->(∀ t∈σ.hid,t < σ.heap.length)->σ.lock<=σ.heap.length->gq (fN X) args rargs.toList->Calls P f rargs w fun e w'=>∃ u X',e=.returned u/\fN X' v u/\Sim w0 X' σ' w'/\Stp X σ w X' w') \/
  (∃ k,g=.yield k/\∀ X w (rargs:Array Value),Yp X w->Sim w0 X σ w->(∀ t∈σ.hid,t < σ.heap.length)->σ.lock<=σ.heap.length->gq (fN X) args rargs.toList ->
   ∃ fn tmps assign body,(Instr.yield X.y rargs).run P w=.ok (.round X.y fn tmps assign body) w/\RoundIn Fence.wide 0 P X.y fn tmps assign body w (Ends w0 X σ w v σ'))
theorem g9.gE{P:Program}{w0:World}{Yp:Emb->World->Prop}{fz:fD}(h:g9 P w0 Yp fz):g9 P w0 qp (AM.gE fz):=
 ⟨pg h.ast,pF,fun g args σ v σ' hg=>by
  cases g with
  | func f=>
   rcases h.call (.func f) args σ v σ' hg with h1 | ⟨k,h1,_⟩
   ·exact .inl h1
   ·cases h1
  | _=>simp[AM.gE,jh] at hg⟩
section
variable{P:Program}{X:Emb}{fr:Fr}{a:Act}{o:Oper}{v:Value}{w0 w:World}{σ σ':St}
def abx(w0:World)(X:Emb)(σ:St)(w:World)(v:Value)(σ':St)(u:Value)(w':World):Prop:=∃ X',fN X' v u/\Sim w0 X' σ' w'/\Stp X σ w X' w'
def xz(P:Program)(w0:World)(o:Oper)(a:Act)(X:Emb)(σ:St)(w:World)(v:Value)(σ':St):Prop:=gC.gives P o a w (abx w0 X σ w v σ')
theorem n8.runs(h:n8 P w0 o a X σ w v σ'):xz P w0 o a X σ w v σ':=by obtain⟨_,n,u,w',X',h2,h3,h4⟩:=h;unfold xz gC.gives;rw[h2];rcases h3 with rfl | ⟨rfl,rfl⟩<;>exact⟨X',h4⟩
theorem gn{p:AOp}(S:Sim w0 X σ w)(h:(gD p fr).map (fun v=>(v,σ))=some (v,σ'))(g:∀ v,gD p fr=some v->gX P o a w X v):xz P w0 o a X σ w v σ':=by simp only[aj] at h;obtain⟨u,hu,h⟩:=h;cases h;exact(gX.uk S (g _ hu)).runs
theorem n9{f:FuncId}(h:Mn P f)(args:Array Value)(w:World):(callFunc f args).run P w=.ok (.enter f args) w:=by
 obtain⟨fn,h1,h2,h3⟩:=h;have h4:fn.body≠none:=by intro hb;rw[hb] at h3;cases h3
 simp[callFunc,h1,h2,h4]
theorem Rk{fz:fD}{Yp:Emb->World->Prop}{c:Call}{f:FuncId}(hcf:g9 P w0 Yp fz)(ho:o.op=.call c)(hc:c.callee=.value (.func f))(S:Sim w0 X σ w)(hh:∀ t∈σ.hid,t < σ.heap.length)(hlk:σ.lock<=σ.heap.length)(hx:∀ x∈c.args.toList,∀ v,ev fr x=some v->fN X v (a.eval x))
  (h:aop fz (.call f c.args.toList) fr σ=some (v,σ')):xz P w0 o a X σ w v σ':=by
 simp only[aop,aa] at h;obtain⟨vs,hvs,h⟩:=h;obtain⟨f',e,hen,hcall⟩:=(hcf.call _ _ _ _ _ h).resolve_right (fun⟨k,e,_⟩=>by cases e);cases e;have hr:=pq hx hvs;have hrun:(execOp a.eval o).run P w=.ok (.enter f (c.args.map a.eval)) w:=by have he:a.eval (.func f)=.func (.func f) #[] #[]:=rfl;simp only[execOp,ho,resolve,hc,he,Deferred.ofValue,Sem.run_bind,Sem.run_pure,Result.andThen_ok,invoke,Array.append_empty,Array.empty_append,n9 hen]
 unfold xz gC.gives;rw[hrun];exact(hcall X w _ S hh hlk (by simpa using hr)).mono fun e w' ⟨u,X',h1,h2⟩=>⟨u,h1,X',h2⟩
theorem Mo{fz:fD}{Yp:Emb->World->Prop}{c:Call}{x:Operand}(hcf:g9 P w0 Yp fz)(hY:Yp X w)(ho:o.op=.call c)(hc:c.callee=.value x)(S:Sim w0 X σ w)(hh:∀ t∈σ.hid,t < σ.heap.length)(hlk:σ.lock<=σ.heap.length)(hx0:∀ v,ev fr x=some v->fN X v (a.eval x))(hx:∀ x∈c.args.toList,∀ v,ev fr x=some v->fN X v (a.eval x))
  (h:aop fz (.iP x c.args.toList) fr σ=some (v,σ')):xz P w0 o a X σ w v σ':=by
 simp only[aop,aa] at h;obtain⟨q,hq,vs,hvs,h⟩:=h;split at h
 ·rename_i g fi ca;split at h
  ·cases h
  rename_i hny;have hr:=pq hx hvs;obtain⟨rf,rc,e1,r1,r2⟩:=xe (hx0 _ hq);obtain⟨f',rfl,hen,hcall⟩ | ⟨k,rfl,hcall⟩:=hcf.call _ _ _ _ _ h
  case inr=>
   have hce:ca=#[]:=by simp only[FH,dX,bU] at hny;simpa using hny
   subst hce;have r1':=r1.mono fun _ _ _ h=>mI h;obtain⟨fn,tmps,assign,body,hy1,hy2⟩:=hcall X w (rf++c.args.map a.eval) hY S hh hlk (by simpa using r1'.append hr);have hrun:(execOp a.eval o).run P w=.ok (.round X.y fn tmps assign body) w:=by simp only[execOp,ho,resolve,hc,e1,Emb.name,Deferred.ofValue,Sem.run_bind,Sem.run_pure,Result.andThen_ok,invoke,hy1]
   unfold xz gC.gives;rw[hrun];exact hy2.mono fun e w' ⟨u,X',h1,h2⟩=>⟨u,h1,X',h2⟩
  have hrun:(execOp a.eval o).run P w=.ok (.enter f' (rf++c.args.map a.eval++rc)) w:=by simp only[execOp,ho,resolve,hc,e1,Emb.name,Deferred.ofValue,Sem.run_bind,Sem.run_pure,Result.andThen_ok,invoke,n9 hen]
  unfold xz gC.gives;rw[hrun];refine(hcall X w _ S hh hlk ?_).mono fun e w' ⟨u,X',h1,h2⟩=>⟨u,h1,X',h2⟩;have r1':=r1.mono fun _ _ _ h=>mI h;have r2':=r2.mono fun _ _ _ h=>mI h;simpa using (r1'.append hr).append r2'
 ·cases h
theorem IV{fz:fD}{Yp:Emb->World->Prop}{c:Call}{f:FuncId}(hcf:g9 P w0 Yp fz)(ho:o.op=.call c)(hc:c.callee=.value (.func f))(S:Sim w0 X σ w)(hh:∀ t∈σ.hid,t < σ.heap.length)(hlk:σ.lock<=σ.heap.length)(hx:∀ x∈c.args.toList,∀ v,ev fr x=some v->fN X v (a.eval x))
  (h:aop fz (FJ P f c.args.toList) fr σ=some (v,σ')):xz P w0 o a X σ w v σ':=by
 have plain:aop fz (.call f c.args.toList) fr σ=some (v,σ')->xz P w0 o a X σ w v σ':=fun h=>Rk hcf ho hc S hh hlk hx h;unfold FJ at h;split at h
 ·rename_i fn hf;split at h
  ·rename_i hb;simp only[au,beq_iff_eq] at hb;split at h
   ·rename_i hn;split at h
    ·rename_i x y ha;exact(Ri ho hc hf hb.1 hb.2 (by simpa using hn) ha S (hx x (by rw[ha];simp)) (hx y (by rw[ha];simp)) h).runs
    ·exact plain h
   ·split at h
    ·rename_i hn;split at h
     ·rename_i n t ha hrt;split at h
      ·rename_i e ht;exact(Rj ho hc hf hb.1 hb.2 (by simpa using hn) ha hrt ht S (hx n (by rw[ha];simp)) h).runs
      ·exact plain h
     ·exact plain h
    ·exact plain h
  ·exact plain h
 ·exact plain h
theorem uZ{name:String} : ∀ {l:List Nat} {t:TypeId} {f:FuncId},Il (qR P name l) t=some f->FI P t name=some f
 | [],t,f,h=>by simp[qR,Il] at h
 | k::l,t,f,h=>by
  simp only[qR] at h;split at h
  ·rename_i g hg;simp only[Il] at h;split at h
   ·rename_i e;subst e;cases h;exact hg
   ·exact uZ h
  ·exact uZ h
theorem Mp{t:TypeId}{name:String}{f:FuncId}(h:FI P t name=some f)(d:Nat)(p:Option Addr)(w:World):(method (d+1) t (.pointer p) name).run P w=.ok (f,.pointer p) w:=by
 unfold FI at h;split at h
 ·rename_i i e hi ht;split at h
  ·rename_i m hm;split at h
   ·rename_i f' hf;split at h
    ·rename_i hp;cases h;have aeV:m.path=#[]:=by simpa using hp
     simp[method,typeInfo,hi,hm,aeV,follow,hf,receiverAt,fL ht,Place.get]
    ·cases h
   ·cases h
  ·cases h
 ·cases h
theorem Rl{fz:fD}{Yp:Emb->World->Prop}{c:Call}{x:Operand}{name:String}{l:List Nat}(hcf:g9 P w0 Yp fz)(ho:o.op=.call c)(hc:c.callee=.invoke x name)(S:Sim w0 X σ w)(hh:∀ t∈σ.hid,t < σ.heap.length)(hlk:σ.lock<=σ.heap.length)(hx0:∀ v,ev fr x=some v->fN X v (a.eval x))(hx:∀ x∈c.args.toList,∀ v,ev fr x=some v->fN X v (a.eval x))
  (h:aop fz (.Dx (qR P name l) x c.args.toList) fr σ=some (v,σ')):xz P w0 o a X σ w v σ':=by
 simp only[aop,aa] at h;obtain⟨q,hq,vs,hvs,h⟩:=h;split at h
 ·rename_i t p;simp only[aa] at h;obtain⟨f,hf,h⟩:=h;obtain⟨f',e,hen,hcall⟩:=(hcf.call _ _ _ _ _ h).resolve_right (fun⟨k,e,_⟩=>by cases e);cases e;have hr:=pq hx hvs;obtain⟨rp,e1,hrp⟩:∃ rp,a.eval x=.iface t (.pointer rp)/\fN X (.pointer p) (.pointer rp):=by
   have h0:=hx0 _ hq;cases p with
   | none=>exact⟨none,(gw rfl).1 h0,(gw rfl).2 rfl⟩
   | some b=>
    have h1:gL X (.iface t (.pointer (some b))) (a.eval x):=h0;obtain⟨ra,e,h2⟩:=h1;exact⟨some ra,e,pE h2⟩
  have aby:=Mp (P:=P) (uZ hf) (P.types.size+Made.depth - 1) rp w;have hd:P.types.size+Made.depth - 1+1=P.types.size+Made.depth:=by simp[Made.depth]
  rw[hd] at aby;have hrun:(execOp a.eval o).run P w=.ok (.enter f (#[.pointer rp]++c.args.map a.eval)) w:=by
   have ahn:(#[Value.iface t (.pointer rp)]++c.args.map a.eval).extract 1 (#[Value.iface t (.pointer rp)]++c.args.map a.eval).size=c.args.map a.eval:=by generalize c.args.map a.eval=q;apply bR.1;rw[Array.toList_extract];simp[List.extract,eW];exact bt (by simp)
   have h0:(#[Value.iface t (.pointer rp)]++c.args.map a.eval)[0]?=some (.iface t (.pointer rp)):=by rw[<- ez];simp
   simp only[execOp,ho,resolve,hc,e1,Sem.run_bind,Sem.run_pure,Result.andThen_ok,invoke,h0,ahn,callMethod,run_program,aby,n9 hen]
  unfold xz gC.gives;rw[hrun];exact(hcall X w _ S hh hlk (by simpa using gq.cons hrp hr)).mono fun e w' ⟨u,X',h1,h2⟩=>⟨u,h1,X',h2⟩
 ·cases h
theorem vS{sh:EqK}{x y:Operand}(h:¬ (FK sh&&!isConst x&&!isConst y)=true):sh=.iface->isConst x=true\/isConst y=true:=fun e=>by
 subst e;simp only[FK,dX,au,bU,not_and,Bool.not_eq_false] at h;cases hx:isConst x with
 | true=>exact .inl rfl
 | false=>exact .inr (h hx)
set_option maxHeartbeats 1000000 in
theorem nK{fz:fD}{Yp:Emb->World->Prop}{ao:AOp}(hcf:g9 P w0 Yp fz)(hY:Yp X w)(hc:gF P o.op=some ao)(S:Sim w0 X σ w)(hh:∀ t∈σ.hid,t < σ.heap.length)(hlk:σ.lock<=σ.heap.length)(hx:∀ x∈o.op.operands.toList,∀ v,ev fr x=some v->fN X v (a.eval x))(h:aop fz ao fr σ=some (v,σ')):xz P w0 o a X σ w v σ':=by
 cases hop:o.op with
 | move x=>
  rw[hop] at hc hx;simp only[gF,ay] at hc;subst hc;exact gn S h fun v hv=>Iu (.inl hop) (hx x (by simp[Op.operands])) hv w
 | assign x=>
  rw[hop] at hc hx;simp only[gF,ay] at hc;subst hc;exact gn S h fun v hv=>Iu (.inr hop) (hx x (by simp[Op.operands])) hv w
 | pick c x y=>
  rw[hop] at hc hx;simp only[gF,ay] at hc;subst hc;exact gn S h fun v hv=>L6 hop (hx c (by simp[Op.operands])) (hx x (by simp[Op.operands])) (hx y (by simp[Op.operands])) hv w
 | alloc e=>
  rw[hop] at hc;simp only[gF,aj] at hc;obtain⟨zs,hz,rfl⟩:=hc;exact(Mi hop hz S h).runs
 | box e x=>
  rw[hop] at hc hx;simp only[gF,ay] at hc;subst hc;exact(Uc hop S (hx x (by simp[Op.operands])) h).runs
 | build t ps=>
  rw[hop] at hc hx;simp only[gF,aa,aj] at hc;obtain⟨zs,hz,pl,hpl,ps',hps,rfl⟩:=hc;exact gn S h fun v hv=>IJ hop hz hpl hps (fun q hq=>hx q.2 (by simp only[Op.operands,bw];exact⟨q,hq,rfl⟩)) hv w
 | buildSlice t n ps=>
  rw[hop] at hc hx;simp only[gF,aa] at hc;obtain⟨e,he,s,hs,zs,hz,hc⟩:=hc;split at hc
  ·rename_i hk;simp only[au,decide_eq_true_eq] at hk;simp only[aj] at hc;obtain⟨ps',hps,rfl⟩:=hc;exact(IN hop he hs hz hk.1.1 hk.2 hk.1.2 hps S (fun q hq=>hx q.2 (by simp only[Op.operands,bw];exact⟨q,hq,rfl⟩)) h).runs
  ·cases hc
 | load t x=>
  rw[hop] at hc hx;simp only[gF,aj] at hc;obtain⟨n,hn,rfl⟩:=hc;exact(Q6 hop hn S (hx x (by simp[Op.operands])) h).runs
 | store t x y=>
  rw[hop] at hc hx;simp only[gF,aj] at hc;obtain⟨n,hn,rfl⟩:=hc;exact(Mh hop hn S (hx x (by simp[Op.operands])) (hx y (by simp[Op.operands])) h).runs
 | nilCheck x=>
  rw[hop] at hc hx;simp only[gF,ay] at hc;subst hc;exact gn S h fun v hv=>Iv hop (hx x (by simp[Op.operands])) hv w
 | binOp op t x y yt=>
  rw[hop] at hc hx;have h1:=hx x (by simp[Op.operands]);have h2:=hx y (by simp[Op.operands]);simp only[gF] at hc;split at hc
  ·cases hc;exact gn S h fun v hv=>D3 hop h1 h2 hv w
  ·cases hc;exact gn S h fun v hv=>D3 hop h1 h2 hv w
  ·split at hc
   ·simp only[aa] at hc;obtain⟨sh,hsh,hc⟩:=hc;split at hc
    ·cases hc
    ·rename_i hic;cases hc;exact gn S h fun v hv=>D4 hop (.inl ⟨rfl,rfl⟩) hsh (vS hic) h1 h2 hv w
   ·simp only[aa] at hc;obtain⟨sh,hsh,hc⟩:=hc;split at hc
    ·cases hc
    ·rename_i hic;cases hc;exact gn S h fun v hv=>D4 hop (.inr ⟨rfl,rfl⟩) hsh (vS hic) h1 h2 hv w
   ·cases hc
 | unOp op t x=>
  rw[hop] at hc hx;simp only[gF,ay] at hc;subst hc;exact gn S h fun v hv=>T7 hop (hx x (by simp[Op.operands])) hv w
 | convert s d x=>
  rw[hop] at hc hx;have h1:=hx x (by simp[Op.operands]);simp only[gF] at hc;split at hc
  ·rename_i hs hd;cases hc;exact gn S h fun v hv=>L8 hop hs hd h1 hv w
  ·rename_i hs hd;split at hc
   ·rename_i he;cases hc;exact(Q7 hop hs hd he S h1 h).runs
   ·cases hc
  ·rename_i hs hd;split at hc
   ·rename_i he;cases hc;exact(Q8 hop hs hd he S h1 h).runs
   ·cases hc
  ·rename_i hs hd;split at hc
   ·rename_i he;simp only[au] at he;cases hc;exact(Q9 hop hs hd he.1 he.2 S h1 h).runs
   ·cases hc
  ·cases hc
 | makeFunc g fi ca=>
  rw[hop] at hc hx;cases g<;>simp only[gF,reduceCtorEq,ay] at hc;subst hc;exact gn S h fun v hv=>L9 hop (fun x hx'=>hx x (by simp only[Op.operands,Array.toList_append,aP];exact .inl hx')) (fun x hx'=>hx x (by simp only[Op.operands,Array.toList_append,aP];exact .inr hx')) hv w
 | makeSlice t l c=>
  rw[hop] at hc hx;simp only[gF,aa] at hc;obtain⟨e,he,s,hs,zs,hz,hc⟩:=hc;split at hc
  ·rename_i hk;simp only[au,decide_eq_true_eq] at hk;cases hc;exact(FX hop he hs hz hk.1.1 hk.2 hk.1.2 S (hx l (by simp[Op.operands])) (hx c (by simp[Op.operands])) h).runs
  ·cases hc
 | slice t x lo hi mx=>
  rw[hop] at hc hx;have h1:=hx x (by simp[Op.operands]);have h2:∀ y,lo=some y->∀ v,ev fr y=some v->fN X v (a.eval y):=fun y e=>hx y (by subst e;simp[Op.operands]);have h3:∀ y,hi=some y->∀ v,ev fr y=some v->fN X v (a.eval y):=fun y e=>hx y (by subst e;simp[Op.operands]);have h4:∀ y,mx=some y->∀ v,ev fr y=some v->fN X v (a.eval y):=fun y e=>hx y (by subst e;simp[Op.operands]);simp only[gF] at hc;split at hc
  ·rename_i e ht;simp only[aa] at hc;obtain⟨s,hs,hc⟩:=hc;split at hc
   ·rename_i h0;simp only[au,decide_eq_true_eq] at h0;cases hc;exact gn S h fun v hv=>IA hop ht hs h0.1 h0.2 h1 h2 h3 h4 hv w
   ·cases hc
  ·rename_i ht;split at hc
   ·rename_i hm;cases hc;obtain rfl:mx=none:=by cases mx<;>simp at hm;rfl
    exact gn S h fun v hv=>FQ hop ht h1 h2 h3 hv w
   ·cases hc
  ·rename_i n e ht;simp only[aa] at hc;obtain⟨s,hs,hc⟩:=hc;split at hc
   ·rename_i h0;simp only[au,decide_eq_true_eq] at h0;cases hc;exact gn S h fun v hv=>FR hop ht hs h0.2 h1 h2 h3 h4 hv w
   ·cases hc
  ·cases hc
 | fieldAddr t x f=>
  rw[hop] at hc hx;simp only[gF] at hc;split at hc
  ·rename_i fs ht;simp only[aa] at hc;obtain⟨fd,hf,s,hs,hc⟩:=hc;split at hc
   ·rename_i h0;cases hc;exact gn S h fun v hv=>Iw hop ht hf hs h0 (hx x (by simp[Op.operands])) hv w
   ·cases hc
  ·cases hc
 | field t x f=>
  rw[hop] at hc hx;simp only[gF] at hc;split at hc
  ·rename_i fs ht;simp only[aa,aj] at hc;obtain⟨fd,hf,n,hn,rfl⟩:=hc;exact gn S h fun v hv=>Iy hop ht hf hn (hx x (by simp[Op.operands])) hv w
  ·cases hc
 | indexAddr t x i=>
  rw[hop] at hc hx;have h1:=hx x (by simp[Op.operands]);have h2:=hx i (by simp[Op.operands]);simp only[gF] at hc;split at hc
  ·rename_i e ht;simp only[aa] at hc;obtain⟨s,hs,hc⟩:=hc;split at hc
   ·cases hc;exact gn S h fun v hv=>Iz hop ht hs h1 h2 hv w
   ·cases hc
  ·rename_i n e ht;simp only[aa] at hc;obtain⟨s,hs,hc⟩:=hc;split at hc
   ·cases hc;exact gn S h fun v hv=>FP hop ht hs h1 h2 hv w
   ·cases hc
  ·cases hc
 | index t x i=>
  rw[hop] at hc hx;have h1:=hx x (by simp[Op.operands]);have h2:=hx i (by simp[Op.operands]);simp only[gF] at hc;split at hc
  ·rename_i n e ht;simp only[aa,aj] at hc;obtain⟨s,hs,m,hm,rfl⟩:=hc;exact gn S h fun v hv=>QZ hop ht hs hm h1 h2 hv w
  ·rename_i ht;cases hc;exact gn S h fun v hv=>Ma hop ht h1 h2 hv w
  ·cases hc
 | extract x i=>
  rw[hop] at hc hx;simp only[gF,ay] at hc;subst hc;exact gn S h fun v hv=>QY hop (hx x (by simp[Op.operands])) hv w
 | call c=>
  rw[hop] at hc hx;have zC:∀ x∈c.args.toList,∀ v,ev fr x=some v->fN X v (a.eval x):=fun x hx'=>hx x (by simp only[Op.operands,Call.operands,Array.toList_append,aP];exact .inr hx');simp only[gF] at hc;split at hc
  ·rename_i f hcal;cases hc;exact IV hcf hop hcal S hh hlk zC h
  ·rename_i x m hcal;split at hc
   ·cases hc;exact Rl hcf hop hcal S hh hlk (hx x (by simp[Op.operands,Call.operands,hcal])) zC h
   ·cases hc
  ·rename_i x _ hcal;split at hc
   ·cases hc;exact Mo hcf hY hop hcal S hh hlk (hx x (by simp[Op.operands,Call.operands,hcal])) zC h
   ·cases hc
  ·rename_i hcal;split at hc
   ·rename_i x y tx ty ha hta;simp only[aa] at hc;obtain⟨e,he,s,hs,zs,hz,hc⟩:=hc;have h1:=zC x (by rw[ha];simp);have h2:=zC y (by rw[ha];simp);split at hc
    ·rename_i q hu;split at hc
     ·rename_i hk;simp only[au,decide_eq_true_eq] at hk;cases hc;exact(yy hop hcal ha hta (nj he) hu (by simp) hs hz hk.1.1 hk.2 hk.1.2 S h1 h2 h).runs
     ·cases hc
    ·rename_i hu;split at hc
     ·rename_i hk;simp only[au,decide_eq_true_eq] at hk;cases hc;exact(yy hop hcal ha hta (nj he) hu (by simp) hs hz hk.1.1 hk.2 hk.1.2 S h1 h2 h).runs
     ·cases hc
    ·rename_i hu;split at hc
     ·rename_i hk;simp only[au] at hk;split at hc
      ·cases hc;exact(FY hop hcal ha hta (nj he) hu hk.1 hz rfl hk.2 S h1 h2 h).runs
      ·cases hc
     ·cases hc
    ·cases hc
   ·cases hc
  ·rename_i hcal;split at hc
   ·rename_i x y tx ty ha hta;simp only[aa] at hc;obtain⟨e,he,s,hs,hc⟩:=hc;have h1:=zC x (by rw[ha];simp);have h2:=zC y (by rw[ha];simp);split at hc
    ·rename_i hk;cases hc;exact(Rb hop hcal ha hta (nj he) hs hk S h1 h2 h).runs
    ·cases hc
   ·cases hc
  ·rename_i hcal;split at hc
   ·rename_i x tx ha hta;simp only[aa] at hc;obtain⟨e,he,s,hs,zs,hz,hc⟩:=hc;have h1:=zC x (by rw[ha];simp);split at hc
    ·rename_i hk;simp only[au,decide_eq_true_eq] at hk;cases hc;exact(Mk hop hcal ha hta (nj he) hs hz hk.1 S h1 h).runs
    ·cases hc
   ·cases hc
  ·rename_i hcal;split at hc
   ·rename_i x tx ha hta;have h1:=zC x (by rw[ha];simp);split at hc
    ·rename_i e hu;cases hc;exact gn S h fun v hv=>Q3 hop hcal ha hta hu h1 hv w
    ·rename_i hu;cases hc;exact gn S h fun v hv=>Me hop hcal ha hta hu h1 hv w
    ·rename_i n e hu;cases hc;exact gn (p:=.FF n) (fr:=fr) S h fun v hv=>Mf (fr:=fr) hop hcal ha hta hu hv w
    ·rename_i k e hu;cases hc;exact(Rh hop hcal ha hta hu S h1 h).runs
    ·cases hc
   ·cases hc
  ·rename_i hcal;split at hc
   ·rename_i x tx ha hta;have h1:=zC x (by rw[ha];simp);split at hc
    ·rename_i e hu;cases hc;exact gn S h fun v hv=>Q4 hop hcal ha hta hu h1 hv w
    ·cases hc
   ·cases hc
  ·rename_i hcal;cases hc;exact gn S h fun v hv=>IK (mx:=false) hop hcal zC hv w
  ·rename_i hcal;cases hc;exact gn S h fun v hv=>IK (mx:=true) hop hcal zC hv w
  ·cases hc
 | makeInterface ty x=>
  rw[hop] at hc hx;simp only[gF] at hc;split at hc
  ·rename_i e ht;cases hc;exact gn S h fun v hv=>L7 hop ht (hx x (by simp[Op.operands])) hv w
  ·cases hc;simp[aop,failK] at h
 | panic _=>
  rw[hop] at hc;simp only[gF,ay] at hc;subst hc;simp[aop,failK] at h
 | makeMap t r=>
  have hmk:ao=.nI:=by rw[hop] at hc;simp only[gF] at hc;split at hc<;>first | (cases hc;rfl) | (cases hc;done)
  subst hmk;exact(Mm hop hc S h).runs
 | mapUpdate t m k x=>
  rw[hop] at hc hx;simp only[gF] at hc;split at hc
  ·rename_i kt e ht;simp only[aj] at hc;obtain⟨s,hs,rfl⟩:=hc;exact(D5 (.inr hop) ht hs S (hx m (by simp[Op.operands])) (hx k (by simp[Op.operands])) (hx x (by simp[Op.operands])) h).runs
  ·cases hc
 | insert t m k x=>
  rw[hop] at hc hx;simp only[gF] at hc;split at hc
  ·rename_i kt e ht;simp only[aj] at hc;obtain⟨s,hs,rfl⟩:=hc;exact(D5 (.inl hop) ht hs S (hx m (by simp[Op.operands])) (hx k (by simp[Op.operands])) (hx x (by simp[Op.operands])) h).runs
  ·cases hc
 | lookup t m k ok=>
  rw[hop] at hc hx;simp only[gF] at hc;split at hc
  ·rename_i kt e ht;simp only[aa,aj] at hc;obtain⟨s,hs,z,hz,rfl⟩:=hc;exact(Rg hop ht hs hz S (hx m (by simp[Op.operands])) (hx k (by simp[Op.operands])) h).runs
  ·cases hc
 | _=>rw[hop] at hc;simp[gF] at hc
end
end AM
namespace AM
open Go Go.RowKit
theorem q9:∀ {l:List Nat},jP l=true->l.Nodup
 | [],_=>List.nodup_nil
 | r::l,h=>by simp only[jP,au,bU,eF,decide_eq_false_iff_not] at h;exact cH.2 ⟨h.1,q9 h.2⟩
theorem lN(f:Nat->Nat):∀ (l:List Nat) (h:List Blk),(jq f l h).length=h.length
 | [],_=>rfl
 | t::l,h=>by rw[jq,lN];simp
theorem rm(f:Nat->Nat):∀ (l:List Nat) (h:List Blk) (i:Nat),i∉l->(jq f l h)[i]?=h[i]?
 | [],_,_,_=>rfl
 | t::l,h,i,hi=>by simp only[aJ,not_or] at hi;rw[jq,rm f l _ i hi.2,dz];have:¬ t=i:=fun e=>hi.1 e.symm;simp[this]
theorem Bu(f:Nat->Nat):∀ (l:List Nat) (h:List Blk) (i:Nat),l.Nodup->i∈l->(jq f l h)[i]?=h[i]?.map (kR f)
 | [],_,_,_,hi=>by cases hi
 | t::l,h,i,hn,hi=>by
  obtain⟨h1,h2⟩:=cH.1 hn;rcases aJ.1 hi with rfl | hi
  ·rw[jq,rm f l _ i h1,dz];simp
  ·rw[jq,Bu f l _ i h2 hi,dz];have:¬ t=i:=fun e=>h1 (by rw[e];exact hi);simp[this]
section
variable{X:Emb}{base:Nat}{keep:List Nat}
def jx(base:Nat)(keep:List Nat)(id:Nat):Nat:=if id < base then id else base+keep.idxOf id
def um(X:Emb)(base:Nat)(keep:List Nat):Emb:=⟨fun id=>if id < base then X id else (keep[id - base]?).bind X,X.y⟩
theorem vT(X:Emb)(base:Nat)(keep:List Nat)(id:Nat):um X base keep id=if id < base then X id else (keep[id - base]?).bind X:=rfl
def okR(base:Nat)(keep:List Nat)(r:Nat):Prop:=r < base\/r∈keep
theorem zP{r:Nat}(h:okR base keep r):um X base keep (jx base keep r)=X r:=by
 rw[vT];unfold jx;by_cases hr:r < base
 ·simp[hr]
 ·have hk:=h.resolve_left hr;have hi:=bP hk;rw[if_neg hr,if_neg om,cx,aq hi];simp
theorem Zi{f:Nat->Nat}{v:Value}(h:sc v=true):iX f v=v:=by unfold iX;split<;>first | rfl | simp[sc] at h
theorem sI{v u:Value}(h:gL X v u)(ho:∀ r∈fJ v,okR base keep r):gL (um X base keep) (iX (jx base keep) v) u:=by
 unfold gL at h;split at h
 ·rename_i a;obtain⟨ra,h1,bx,h2,h3⟩:=h;exact⟨ra,h1,bx,(zP (ho a.block (by simp[fJ]))).trans h2,h3⟩
 ·rename_i a n e;obtain⟨ra,c,h1,h2,h3,bx,h4,h5⟩:=h;exact⟨ra,c,h1,h2,h3,bx,(zP (ho a.block (by simp[fJ]))).trans h4,h5⟩
 ·rename_i ty a;obtain⟨ra,h1,bx,h2,h3⟩:=h;exact⟨ra,h1,bx,(zP (ho a.block (by simp[fJ]))).trans h2,h3⟩
 ·exact h
 ·obtain⟨h1,rfl⟩:=h;rw[Zi h1];exact(iR h1).2 rfl
theorem Bv{l m:List Value}(h:gq (gL X) l m)(ho:∀ r∈l.flatMap fJ,okR base keep r):gq (gL (um X base keep)) (l.map (iX (jx base keep))) m:=
 ⟨by simp[h.1],fun i v u hv hu=>by rw[bW,aj] at hv;obtain⟨q,hq,rfl⟩:=hv;exact sI (h.2 i q u hq hu) fun r hr=>ho r (aY.2 ⟨q,aW hq,hr⟩)⟩
theorem Bw{v u:Value}(h:lg X v u)(ho:∀ r∈fU v,okR base keep r):lg (um X base keep) (ke (jx base keep) v) u:=by
 cases v<;>simp only[lg] at h<;>first
  | (
    have hr:=sI h ho;exact lq hr)
  | (obtain⟨rs,rfl,h2⟩:=h;exact⟨rs,rfl,Bv h2 ho⟩)
  | (
    rename_i o;obtain⟨q,rfl,h2⟩:=h;cases o with
    | none=>exact⟨q,rfl,h2⟩
    | some r=>
     obtain⟨b,bx,rfl,hx,hg⟩:=h2;exact⟨some b,rfl,b,bx,rfl,(zP (ho r (by simp[fU,fJ]))).trans hx,hg⟩)
  | (
    obtain⟨rf,rc,rfl,h2,h3⟩:=h;exact⟨rf,rc,rfl,Bv h2 (fun r hr=>ho r (aP.2 (.inl hr))),Bv h3 (fun r hr=>ho r (aP.2 (.inr hr)))⟩)
theorem Bz{f:Nat->Nat}{v:Value}(h:fY v=true):fY (iX f v)=true:=by unfold iX;split<;>first | rfl | exact h
theorem Rm{f:Nat->Nat}{v:Value}(h:held v=true):held (ke f v)=true:=by
 cases v with
 | func g fi ca=>
  cases g<;>simp only[ke,held] at h ⊢;case func g=>
   simp only[au,aF,List.all_map,Function.comp] at h ⊢;exact⟨fun v hv=>Bz (h.1 v hv),fun v hv=>Bz (h.2 v hv)⟩
  all_goals (simp[fY,sc] at h)
 | agg cs=>simp[held,fY,sc] at h
 | pointer o=>cases o<;>rfl
 | slice o n e=>cases o with
  | none=>exact h
  | some b=>rfl
 | map o=>cases o with
  | none=>rfl
  | some b=>simp[held,fY,sc] at h
 | iface t v=>cases v with
  | pointer p=>cases p<;>rfl
  | _=>exact h
 | _=>exact h
theorem BA{es:List (Value×Value)}{res:List MapEntry}(h:sB X es res)(ho:∀ r∈es.flatMap fun p=>fU p.2,okR base keep r):sB (um X base keep) (es.map fun p=>(p.1,ke (jx base keep) p.2)) res where
 len:=by simp[h.len]
 nd:=h.nd
 fwd:=fun p hp=>by obtain⟨q,hq,rfl⟩:=bw.1 hp;obtain⟨h1,h0,e,he,h2,h3⟩:=h.fwd q hq;exact⟨h1,Rm h0,e,he,h2,Bw h3 fun r hr=>ho r (aY.2 ⟨q,hq,hr⟩)⟩
 bwd:=fun e he=>by obtain⟨p,hp,e2⟩:=h.bwd e he;exact⟨_,bw.2 ⟨p,hp,rfl⟩,e2⟩
theorem IW{v u:Value}(h:fN X v u)(ho:∀ r∈refs v,okR base keep r):fN (um X base keep) (ren (jx base keep) v) u:=by
 cases v<;>simp only[fN] at h<;>first
  | (
    have hr:=Bw h ho;exact jA hr)
  | (
    obtain⟨rs,rfl,h2⟩:=h;refine⟨rs,rfl,by simpa using h2.1,fun i q u hq hu=>?_⟩;rw[bW,aj] at hq;obtain⟨p,hp,rfl⟩:=hq;exact Bw (h2.2 i p u hp hu) fun r hr=>ho r (aY.2 ⟨p,aW hp,hr⟩))
theorem IX{q:Value}(hq:∀ r∈fJ q,r < base):iX (jx base keep) q=q:=by
 unfold iX;split
 ·rename_i a;simp[jx,hq a.block (by simp[fJ])]
 ·rename_i a n e;simp[jx,hq a.block (by simp[fJ])]
 ·rename_i r;simp[jx,hq r (by simp[fJ])]
 ·rename_i ty a;simp[jx,hq a.block (by simp[fJ])]
 ·rfl
theorem BB{l:List Value}(hl:∀ r∈l.flatMap fJ,r < base):l.map (iX (jx base keep))=l:=
 (bQ fun q hq=>IX fun r hr=>hl r (aY.2 ⟨q,hq,hr⟩)).trans (List.map_id _)
theorem Un{q:Value}(hq:∀ r∈fU q,r < base):ke (jx base keep) q=q:=by
 cases q<;>simp only[ke]<;>first
  | exact IX hq
  | (rw[BB hq])
  | (rw[BB (fun r hr=>hq r (aP.2 (.inl hr))),BB (fun r hr=>hq r (aP.2 (.inr hr)))])
theorem IY{es:List (Value×Value)}{res:List MapEntry}(h:sB X es res)(ho:∀ r∈es.flatMap fun p=>fU p.2,r < base):sB (um X base keep) es res:=by
 have h1:=BA (keep:=keep) h fun r hr=>.inl (ho r hr);have:es.map (fun p=>(p.1,ke (jx base keep) p.2))=es:=
  (bQ fun p hp=>by rw[Un fun r hr=>ho r (aY.2 ⟨p,hp,hr⟩)];rfl).trans (List.map_id _)
 rwa [this] at h1
theorem IZ{v u:Value}(h:gL X v u)(ho:∀ r∈fJ v,r < base):gL (um X base keep) v u:=by
 have h1:=sI (keep:=keep) h fun r hr=>.inl (ho r hr);have:iX (jx base keep) v=v:=by
  unfold iX;split
  ·rename_i a;simp[jx,ho a.block (by simp[fJ])]
  ·rename_i a n e;simp[jx,ho a.block (by simp[fJ])]
  ·rename_i r;simp[jx,ho r (by simp[fJ])]
  ·rename_i ty a;simp[jx,ho a.block (by simp[fJ])]
  ·rfl
 rwa [this] at h1
end
structure Gcd(w0:World)(base:Nat)(X:Emb)(σ:St)(w:World)(vs vs':List Value)(σ':St)(X':Emb):Prop where
 y:X'.y=X.y
 sim:Sim w0 X' σ' w
 low:∀ id,id < base->X' id=X id
 high:∀ id bx,base<=id->X' id=some bx->∃ id0,base<=id0/\X id0=some bx
 vals:vs'.length=vs.length/\∀ (i:Nat) (v v' u:Value),vs[i]?=some v->vs'[i]?=some v'->fN X v u->fN X' v' u
 lock:σ'.lock=σ.lock
 hid:σ'.hid=σ.hid
 len:base<=σ.heap.length->base<=σ'.heap.length
 fA:∀ t,t < base->(t∈σ'.fA↔t∈σ.fA)
 AV:∀ t,t∈σ'.fA->t∈σ.fA
 keep:∀ id,id < base->id∉σ.fA->σ'.heap[id]?=σ.heap[id]?
theorem Uo{w0 w:World}{X:Emb}{σ σ':St}{base:Nat}{vs vs':List Value}(S:Sim w0 X σ w)(hh:∀ t∈σ.hid,t < base)(hlk:σ.lock<=base)(hD:∀ id bx,id < base->X id=some bx->id∉σ.hid->id∉σ.fA->∀ r∈fV σ.heap id,r < base)
  (h:gc base vs σ=some (vs',σ')):∃ X',Gcd w0 base X σ w vs vs' σ' X':=by
 have key:∀ keep:List Nat,base < σ.heap.length->keep.Nodup->(∀ r∈keep,base<=r/\r < σ.heap.length/\∀ q∈fV σ.heap r,okR base keep q)->(σ.fA.filter (· < base)).Nodup->(∀ t∈σ.fA.filter (· < base),∀ q∈fV σ.heap t,okR base keep q) ->
   ∀ h':List Blk,(∀ i,i < base->h'[i]?=if i∈σ.fA then (σ.heap[i]?).map (kR (jx base keep)) else σ.heap[i]?)->(∀ i,base<=i->h'[i]?=(keep[i - base]?).map fun r=>kR (jx base keep) (σ.heap.getD r default)) ->
   Sim w0 (um X base keep) { σ with heap:=h',fA:=σ.fA.filter (· < base) } w:=by
  intro keep hlt hnd hk hnd2 hok h' DB hhigh;have hX:∀ id bx,um X base keep id=some bx->(id < base/\X id=some bx)\/(base<=id/\∃ r,keep[id - base]?=some r/\X r=some bx):=by
   intro id bx hx;rw[vT] at hx;split at hx
   ·rename_i hi;exact .inl ⟨hi,hx⟩
   ·rename_i hi;simp only[aa] at hx;obtain⟨r,h1,h2⟩:=hx;exact .inr ⟨om,r,h1,h2⟩
  refine⟨S.bel,?_,?_,?_,?_,?_,fun id bx hx=>by
   rcases hX id bx hx with ⟨_,hx⟩ | ⟨_,r,_,hx⟩
   ·exact S.zero id bx hx
   ·exact S.zero r bx hx,fun id bx es hx iJ hc=>by
   simp only at iJ hc;rcases hX id bx hx with ⟨hi,hx⟩ | ⟨hi,r,hr,hx⟩
   ·rw[DB id hi] at hc;by_cases hdt:id∈σ.fA
    ·rw[if_pos hdt,aj] at hc;obtain⟨b,hb,hbe⟩:=hc;have hrefs:=hok id (by simp[hdt,hi]);cases b with
     | void=>simp[kR] at hbe
     | cells g0 pl0 cs0=>cases pl0<;>simp[kR] at hbe
     | map es0=>
      obtain⟨c1,c2,res,ck,c3,c4⟩:=S.j4 id bx es0 hx iJ hb;simp only[kR,Blk.map.injEq] at hbe;subst hbe;exact⟨c1,c2,res,ck,c3,BA c4 fun q hq=>hrefs q (by simp only[fV,hb,iN];exact hq)⟩
    ·rw[if_neg hdt] at hc;have hrefs:=hD id bx hi hx iJ hdt;obtain⟨c1,c2,res,ck,c3,c4⟩:=S.j4 id bx es hx iJ hc;exact⟨c1,c2,res,ck,c3,IY c4 fun q hq=>hrefs q (by simp only[fV,hc,iN];exact hq)⟩
   ·rw[hhigh id hi,hr] at hc;simp only[bq,ay] at hc;obtain⟨k1,k2,k3⟩:=hk r (aW hr);have hrh:r∉σ.hid:=fun e=>by have:=hh r e;omega
    have hg:σ.heap[r]?=some (σ.heap.getD r default):=by rw[aq k2];simp[aq k2]
    generalize σ.heap.getD r default=b at *;cases b with
    | void=>simp[kR] at hc
    | cells g0 pl0 cs0=>cases pl0<;>simp[kR] at hc
    | map es0=>
     obtain⟨c1,c2,res,ck,c3,c4⟩:=S.j4 r bx es0 hx hrh hg;simp only[kR,Blk.map.injEq] at hc;subst hc;exact⟨c1,c2,res,ck,c3,BA c4 fun q hq=>k3 q (by simp only[fV,hg,iN];exact hq)⟩⟩
  ·intro id bx hx;rcases bu id h'.length with h1 | h1
   ·exact h1
   ·exfalso;have hn:=aQ h1;rcases hX id bx hx with ⟨hi,hx⟩ | ⟨hi,r,hr,hx⟩
    ·rw[DB id hi,aq (S.dom id bx hx)] at hn;split at hn<;>simp at hn
    ·rw[hhigh id hi,hr] at hn;simp at hn
  ·intro id bx hx;rcases hX id bx hx with ⟨hi,hx⟩ | ⟨hi,r,hr,hx⟩
   ·exact S.place id bx hx
   ·exact S.place r bx hx
  ·intro id bx g pl cs hx iJ hc;simp only at iJ hc;rcases hX id bx hx with ⟨hi,hx⟩ | ⟨hi,r,hr,hx⟩
   ·rw[DB id hi] at hc;by_cases hdt:id∈σ.fA
    ·rw[if_pos hdt,aj] at hc;obtain⟨b,hb,hbe⟩:=hc;have hrefs:=hok id (by simp[hdt,hi]);cases b with
     | map es=>simp[kR] at hbe
     | void=>simp[kR] at hbe
     | cells g0 pl0 cs0=>
      obtain⟨c1,c2,c3,c4,c5,c6⟩:=S.cell id bx g0 pl0 cs0 hx iJ hb;cases pl0 with
      | true=>
       simp only[kR,Blk.cells.injEq] at hbe;obtain⟨rfl,rfl,rfl⟩:=hbe;refine⟨c1,c2,c3,c4,fun j v hv=>?_,c6⟩;obtain⟨u,hu,hr⟩:=c5 j v hv;have hs:=aF.1 (c4 rfl) v (aW hv);exact⟨u,hu,(iR hs).2 ((iR hs).1 hr)⟩
      | false=>
       simp only[kR,Blk.cells.injEq] at hbe;obtain⟨rfl,rfl,rfl⟩:=hbe;refine⟨c1,by simpa using c2,by simpa using c3,fun e=>by simp at e,fun j v hv=>?_,c6⟩;rw[bW,aj] at hv;obtain⟨q,hq,rfl⟩:=hv;obtain⟨u,hu,hr⟩:=c5 j q hq;refine⟨u,hu,sI hr fun r hr'=>hrefs r ?_⟩;simp only[fV,hb,iN];exact aY.2 ⟨q,aW hq,hr'⟩
    ·rw[if_neg hdt] at hc;have hrefs:=hD id bx hi hx iJ hdt;obtain⟨c1,c2,c3,c4,c5,c6⟩:=S.cell id bx g pl cs hx iJ hc;refine⟨c1,c2,c3,c4,fun j v hv=>?_,c6⟩;obtain⟨u,hu,hr⟩:=c5 j v hv;refine⟨u,hu,?_⟩;cases pl with
     | true=>
      have hs:=aF.1 (c4 rfl) v (aW hv);exact(iR hs).2 ((iR hs).1 hr)
     | false=>
      refine IZ hr fun r hr'=>hrefs r ?_;simp only[fV,hc,iN];exact aY.2 ⟨v,aW hv,hr'⟩
   ·rw[hhigh id hi,hr] at hc;simp only[bq,ay] at hc;obtain⟨k1,k2,k3⟩:=hk r (aW hr);have hrh:r∉σ.hid:=fun e=>by have:=hh r e;omega
    have hg:σ.heap[r]?=some (σ.heap.getD r default):=by rw[aq k2];simp[aq k2]
    generalize σ.heap.getD r default=b at *;cases b with
    | map es=>simp[kR] at hc
    | void=>simp[kR] at hc
    | cells g0 pl0 cs0=>
     obtain⟨c1,c2,c3,c4,c5,c6⟩:=S.cell r bx g0 pl0 cs0 hx hrh hg;cases pl0 with
     | true=>
      simp only[kR,Blk.cells.injEq] at hc;obtain⟨rfl,rfl,rfl⟩:=hc;refine⟨c1,c2,c3,c4,fun j v hv=>?_,c6⟩;obtain⟨u,hu,hr⟩:=c5 j v hv;have hs:=aF.1 (c4 rfl) v (aW hv);exact⟨u,hu,(iR hs).2 ((iR hs).1 hr)⟩
     | false=>
      simp only[kR,Blk.cells.injEq] at hc;obtain⟨rfl,rfl,rfl⟩:=hc;refine⟨c1,by simpa using c2,by simpa using c3,fun e=>by simp at e,fun j v hv=>?_,c6⟩;rw[bW,aj] at hv;obtain⟨q,hq,rfl⟩:=hv;obtain⟨u,hu,hr⟩:=c5 j q hq;refine⟨u,hu,sI hr fun r' hr'=>k3 r' ?_⟩;simp only[fV,hg,iN];exact aY.2 ⟨q,aW hq,hr'⟩
  ·intro i j bi bj hi hj oi oj e;rcases hX i bi hi with ⟨hi',hi⟩ | ⟨hi',r,hr,hi⟩<;>rcases hX j bj hj with ⟨hj',hj⟩ | ⟨hj',q,hq,hj⟩
   ·exact S.inj i j bi bj hi hj oi oj e
   ·have:=S.inj i q bi bj hi hj oi oj e;have:=(hk q (aW hq)).1;omega
   ·have:=S.inj r j bi bj hi hj oi oj e;have:=(hk r (aW hr)).1;omega
   ·have hrq:=S.inj r q bi bj hi hj oi oj e;subst hrq;have h1:=(af.1 hr);have h2:=(af.1 hq);obtain⟨l1,e1⟩:=h1;obtain⟨l2,e2⟩:=h2;have:=(List.getElem_inj hnd).1 (e1.trans e2.symm);omega
  ·intro id bx hx hl;rcases hX id bx hx with ⟨hi,hx⟩ | ⟨hi,r,hr,hx⟩
   ·exact S.lock id bx hx hl
   ·exact S.lock r bx hx (by have:=(hk r (aW hr)).1;simp only at hl;omega)
 unfold gc at h;split at h
 ·rename_i hle;cases h;exact⟨X,rfl,S,fun _ _=>rfl,fun id bx hi hx=>⟨id,hi,hx⟩,⟨rfl,fun i v v' u h1 h2 hr=>by rw[h1] at h2;cases h2;exact hr⟩,rfl,rfl,fun h=>h,fun t _=>Iff.rfl,fun t h=>h,fun _ _ _=>rfl⟩
 ·rename_i hgt;simp only at h;have aho:∀ (l:List Nat),l.filter (base<=·)=[]->∀ r∈l,r < base:=fun l hl r hr=>by rw[dI] at hl;have:=hl r hr;simp at this;exact this
  split at h
  ·rename_i xA;cases h;have hro:=aho _ xA;have hdt:(σ.fA.filter (· < base)).flatMap (fV σ.heap)=(σ.fA.filter (· < base)).flatMap (fV σ.heap):=rfl
   -- the same state,through the general law with nothing kept: old blocks that were written hold old references only
   refine⟨um X base [],rfl,?_,fun id hi=>by simp[um,hi],fun id bx hi hx=>?_,⟨rfl,fun i v v' u h1 h2 hr=>?_⟩,rfl,rfl,fun _=>by simp;omega,fun t ht=>by simp[ht],fun t h=>by simp at h;exact h.1,fun id hi _=>by simp[hi]⟩
   ·have hD':∀ id bx,id < base->X id=some bx->id∉σ.hid->∀ r∈fV σ.heap id,r < base:=fun id bx hi hx hn r hr=>by
     by_cases hdt:id∈σ.fA
     ·exact hro r (aP.2 (.inr (aY.2 ⟨id,by simp[hdt,hi],hr⟩)))
     ·exact hD id bx hi hx hn hdt r hr
    have hX:∀ id bx,um X base [] id=some bx->id < base/\X id=some bx:=fun id bx hx=>by
     rw[vT] at hx;split at hx
     ·rename_i hi;exact⟨hi,hx⟩
     ·simp at hx
    refine⟨S.bel,fun id bx hx=>?_,fun id bx hx=>S.place id bx (hX id bx hx).2,fun id bx g pl cs hx iJ hc=>?_,fun i j bi bj hi hj=>S.inj i j bi bj (hX i bi hi).2 (hX j bj hj).2,fun id bx hx=>S.lock id bx (hX id bx hx).2,fun id bx hx=>S.zero id bx (hX id bx hx).2,fun id bx es hx iJ hc=>by obtain⟨hi,hx⟩:=hX id bx hx;simp only[bX hi] at hc;obtain⟨c1,c2,res,ck,c3,c4⟩:=S.j4 id bx es hx iJ hc;exact⟨c1,c2,res,ck,c3,IY c4 fun q hq=>hD' id bx hi hx iJ q (by simp only[fV,hc,iN];exact hq)⟩⟩
    ·have:=(hX id bx hx).1;simp;omega
    ·obtain⟨hi,hx⟩:=hX id bx hx;simp only[bX hi] at hc;obtain⟨c1,c2,c3,c4,c5,c6⟩:=S.cell id bx g pl cs hx iJ hc;refine⟨c1,c2,c3,c4,fun j v hv=>?_,c6⟩;obtain⟨u,hu,hr⟩:=c5 j v hv;refine⟨u,hu,?_⟩;cases pl with
     | true=>
      have hs:=aF.1 (c4 rfl) v (aW hv);exact(iR hs).2 ((iR hs).1 hr)
     | false=>
      refine IZ hr fun r hr'=>hD' id bx hi hx iJ r ?_;simp only[fV,hc,iN];exact aY.2 ⟨v,aW hv,hr'⟩
   ·rw[vT] at hx;rw[if_neg om] at hx;simp at hx
   ·rw[h1] at h2;cases h2;have hv:=IW (base:=base) (keep:=[]) hr fun r hr'=>.inl (hro r (aP.2 (.inl (aY.2 ⟨v,aW h1,hr'⟩))));have Zj:∀ (q:Value),(∀ r∈fJ q,r < base)->iX (jx base []) q=q:=fun q hq=>by
     unfold iX;split
     ·rename_i a;simp[jx,hq a.block (by simp[fJ])]
     ·rename_i a n e;simp[jx,hq a.block (by simp[fJ])]
     ·rename_i r;simp[jx,hq r (by simp[fJ])]
     ·rename_i ty a;simp[jx,hq a.block (by simp[fJ])]
     ·rfl
    have hmap:∀ (l:List Value),(∀ r∈l.flatMap fJ,r < base)->l.map (iX (jx base []))=l:=fun l hl=>by refine(bQ fun q hq=>Zj q fun r hr=>hl r (aY.2 ⟨q,hq,hr⟩)).trans (List.map_id _)
    have abz:∀ (q:Value),(∀ r∈fU q,r < base)->ke (jx base []) q=q:=fun q hq=>by
     cases q<;>simp only[ke]<;>first
      | exact Zj _ hq
      | (rw[hmap _ hq])
      | (rw[hmap _ (fun r hr=>hq r (aP.2 (.inl hr))),hmap _ (fun r hr=>hq r (aP.2 (.inr hr)))])
    have aeW:ren (jx base []) v=v:=by
     have hq:∀ r∈refs v,r < base:=fun r hr'=>hro r (aP.2 (.inl (aY.2 ⟨v,aW h1,hr'⟩)));cases v<;>simp only[ren]<;>first
      | exact abz _ hq
      | (
        congr 1;apply bR.1;refine(bQ fun q hq'=>abz q fun r hr=>hq r (aY.2 ⟨q,hq',hr⟩)).trans (List.map_id _))
    rwa [aeW] at hv
  ·rename_i r rs xA;unfold qN at h;simp only at h;split at h
   ·rename_i hc;simp only[au] at hc;obtain⟨⟨⟨⟨n1,n2⟩,h1⟩,h2⟩,h3⟩:=hc;generalize reach σ.heap base 4096 (r::rs) []=keep at *;simp only[ay,bT] at h;obtain⟨rfl,rfl⟩:=h;have ok:∀ q,(decide (q < base)||keep.contains q)=true->okR base keep q:=fun q hq=>by simp only[bF,decide_eq_true_eq,eF] at hq;exact hq
    refine⟨um X base keep,rfl,key keep om (q9 n1) (fun r hr=>?_) (q9 n2) (fun t ht q hq=>?_) _ (fun i hi=>?_) (fun i hi=>?_),fun id hi=>by simp[um,hi],fun id bx hi hx=>?_,⟨by simp,fun i v v' u e1 e2 hr=>?_⟩,rfl,rfl,fun _=>by simp[lN];omega,fun t ht=>by simp[ht],fun t h=>by simp at h;exact h.1,fun id hi hnd=>?_⟩
    ·have:=aF.1 h3 r hr;simp only[au,decide_eq_true_eq] at this;exact⟨this.1.1,this.1.2,fun q hq=>ok q (aF.1 this.2 q hq)⟩
    ·exact ok q (aF.1 (aF.1 h2 t ht) q hq)
    ·rw[aA (by rw[lN];simp;omega)];have hti:(σ.heap.take base)[i]?=σ.heap[i]?:=bX hi;by_cases hdt:i∈σ.fA
     ·rw[if_pos hdt,Bu _ _ _ _ (q9 n2) (by simp[hdt,hi]),hti];rfl
     ·rw[if_neg hdt,rm _ _ _ _ (by simp[hdt]),hti]
    ·have hl:(jq (fun id=>if id < base then id else base+keep.idxOf id) (σ.fA.filter (· < base)) (σ.heap.take base)).length=base:=by rw[lN];simp;omega
     rw[aM om,hl,bW];rfl
    ·rw[vT] at hx;rw[if_neg om] at hx;simp only[aa] at hx;obtain⟨q,hq,hx⟩:=hx;have:=aF.1 h3 q (aW hq);simp only[au,decide_eq_true_eq] at this;exact⟨q,this.1.1,hx⟩
    ·rw[bW,e1] at e2;simp only[bq,ay] at e2;subst e2;exact IW hr fun q hq=>ok q (aF.1 (aF.1 h1 v (aW e1)) q hq)
    ·rw[aA (by rw[lN];simp;omega),rm _ _ _ _ (by simp[hnd])];exact bX hi
   ·cases h
end AM
namespace AM
open Go Go.RowKit
section
variable{P:Program}{w0:World}{lo:Nat}
def FrR(X:Emb)(fr:Fr)(a:Act):Prop:=∀ t v,fr.get t=some v->fN X v (a.tmps.getD t undef)
theorem FrR.evo{X X':Emb}{fr:Fr}{a:Act}(h:FrR X fr a)(e:Evo X X'):FrR X' fr a:=fun t v ht=>(h t v ht).evo e
theorem FrR.put{X:Emb}{fr:Fr}{a:Act}{v u:Value}{d:Option Nat}(h:FrR X fr a)(hv:fN X v u)(hd:∀ k,d=some k->k < a.tmps.size):FrR X (fr.put d v) (a.put d u):=by
 cases d with
 | none=>exact h
 | some k=>
  have hk:=hd k rfl;intro t q ht;simp only[Fr.put,Fr.get] at ht;split at ht
  ·rename_i e;subst e;cases ht;simpa[Act.put,hk] using hv
  ·rename_i e;have:(a.put (some k) u).tmps.getD t undef=a.tmps.getD t undef:=by simp[Act.put,c8 e]
   rw[this];exact h t q ht
theorem BC{X:Emb}{v:Value}(h:l8 (.const v)=true):fN X v v:=by
 unfold l8 at h;split at h
 ·rename_i cs e;cases e;exact⟨cs,rfl,jE fun v hv=>aF.1 h v hv⟩
 ·rename_i e;cases e;exact(gw h).2 rfl
 ·cases h
 ·rename_i h1 h2 _;exact absurd rfl (h2 v)
theorem FrR.ev{X:Emb}{fr:Fr}{a:Act}(h:FrR X fr a){x:Operand}(hc:l8 x=true){v:Value}(hv:ev fr x=some v):fN X v (a.eval x):=by
 cases x with
 | tmp t=>exact h t v hv
 | const q=>simp only[AM.ev,ay] at hv;subst hv;exact BC hc
 | func f=>simp only[AM.ev,ay] at hv;subst hv;exact(gw rfl).2 rfl
 | global g=>simp[AM.ev] at hv
def Mark(lo:Nat)(X:Emb)(w:World)(d:Deferred):Prop:=∃ D,d = { target:=.collected D,args:=#[] }/\w.heap[D]?=some (.deferred (some []))/\lo<=D/\∀ id bx,X id=some bx->bx.b≠D
structure Marks(lo:Nat)(X:Emb)(ds:List Deferred)(w:World):Prop where
 each:∀ d∈ds,Mark lo X w d
 one:ds.Nodup
 low:lo<=w.heap.size
theorem Marks.nil{X:Emb}{w:World}(h:lo<=w.heap.size):Marks lo X [] w:=⟨fun d h=>by (cases h),List.nodup_nil,h⟩
theorem tU{w:World}{k:Nat}{o:Obj}(h:w.heap[k]?=some o):k < w.heap.size:=(bA.1 h).1
theorem Stp.clear{X X':Emb}{σ:St}{w w':World}{D:Nat}(s:Stp X σ w X' w')(hD:D < w.heap.size)(h:∀ id bx,X id=some bx->bx.b≠D):w'.heap[D]?=w.heap[D]?/\∀ id bx,X' id=some bx->bx.b≠D:=
 ⟨s.frame D hD fun id bx hx _ _ _=>h id bx hx,fun id bx hx e=>by
  rcases s.back id bx hx with ⟨by',h1,_,h3⟩ | ⟨_,_,h3,_⟩
  ·rcases h3 with h3 | h3
   ·exact h id by' h1 (by rw[<- h3];exact e)
   ·omega
  ·omega⟩
theorem Marks.step{X X':Emb}{σ:St}{w w':World}{ds:List Deferred}(m:Marks lo X ds w)(s:Stp X σ w X' w'):Marks lo X' ds w':=
 ⟨fun d hd=>by obtain⟨D,h1,h2,h3,h4⟩:=m.each d hd;obtain⟨k1,k2⟩:=s.clear (tU h2) h4;exact⟨D,h1,by rw[k1];exact h2,h3,k2⟩,m.one,bh m.low s.size⟩
theorem Marks.sub{X X':Emb}{w:World}{ds:List Deferred}(m:Marks lo X ds w)(h:∀ id bx,X' id=some bx->∃ id',X id'=some bx):Marks lo X' ds w:=
 ⟨fun d hd=>by obtain⟨D,h1,h2,h3,h4⟩:=m.each d hd;exact⟨D,h1,h2,h3,fun id bx hx=>by obtain⟨id',h'⟩:=h id bx hx;exact h4 id' bx h'⟩,m.one,m.low⟩
structure Good(w0:World)(lo n:Nat)(X:Emb)(σ:St)(fr:Fr)(a:Act)(w:World):Prop where
 sim:Sim w0 X σ w
 fr:FrR X fr a
 size:n<=a.tmps.size
 defers:Marks lo X a.defers w
 hid:∀ t∈σ.hid,t < σ.heap.length
 lock:σ.lock<=σ.heap.length
theorem Good.step{n:Nat}{X X':Emb}{σ σ':St}{fr fr':Fr}{a a':Act}{w w':World}(G:Good w0 lo n X σ fr a w)(h1:Ast σ σ')(h2:Sim w0 X' σ' w')(h3:FrR X' fr' a')(h4:a'.tmps.size=a.tmps.size)(h5:a'.defers=a.defers)(hs:Stp X σ w X' w'):Good w0 lo n X' σ' fr' a' w':=
 ⟨h2,h3,by rw[h4];exact G.size,by rw[h5];exact G.defers.step hs,fun t ht=>bg (G.hid t (by rw[<- h1.hid];exact ht)) h1.len,by rw[h1.lock];exact bh G.lock h1.len⟩
def Post(w0:World)(lo n:Nat)(X:Emb)(σ:St)(w:World)(fr':Fr)(σ':St)(a':Act)(w':World):Prop:=∃ X',Good w0 lo n X' σ' fr' a' w'/\Stp X σ w X' w'
theorem rq{ops:Array Oper}{n:Nat}{o:Oper}{ao:fB}(hc:kV P ops n o=some ao):(∀ x∈o.op.operands.toList,l8 x=true)/\(∀ d,o.dst=some d->d < n)/\∃ p,gF P o.op=some p /\
  ((o.guard=none/\ao=⟨o.dst,none,0,true,p⟩)\/∃ g b s,o.guard=some (g,b)/\(ops[g]?).bind (·.dst)=some s/\ao=⟨o.dst,some (s,b),0,true,p⟩):=by
 unfold kV at hc;by_cases hk:(o.op.operands.toList.all l8&&T0 n o.dst)=true
 ·rw[if_pos hk] at hc;simp only[au] at hk;simp only[aa] at hc;obtain⟨p,hp,hc⟩:=hc;refine⟨fun x hx=>aF.1 hk.1 x hx,fun d hd=>by have:=hk.2;rw[hd] at this;simpa[T0] using this,p,hp,?_⟩;cases hg:o.guard with
  | none=>rw[hg] at hc;simp only[ay] at hc;exact .inl ⟨rfl,hc.symm⟩
  | some gb=>
   obtain⟨g,b⟩:=gb;rw[hg] at hc;simp only at hc;cases hs:(ops[g]?).bind (·.dst) with
   | none=>rw[hs] at hc;simp at hc
   | some s=>rw[hs] at hc;simp only[ay] at hc;exact .inr ⟨g,b,s,rfl,hs,hc.symm⟩
 ·rw[if_neg hk] at hc;cases hc
theorem D7{ops:Array Oper}{o:Oper}{ao:fB}{X:Emb}{fr:Fr}{a:Act}{b:Bool}{p:AOp}{g s:Nat}{b':Bool}(hg:o.guard=some (g,b'))(hs:(ops[g]?).bind (·.dst)=some s)(hao:ao=⟨o.dst,some (s,b'),0,true,p⟩)
  (hf:∀ v,fr.get s=some v->fN X v (a.tmps.getD s undef)) (h:want ao fr=some b):Region.wanted o (yielded ops a.tmps)=b:=by
 subst hao;simp only[want] at h;simp only[Region.wanted,hg,yielded,hs,ak];split at h
 ·rename_i c e;cases h;have hr:=kE (hf _ e);have:a.tmps[s]?=some (.bool c):=by
   rw[eu] at hr;cases he:a.tmps[s]? with
   | none=>rw[he] at hr;simp[undef] at hr
   | some q=>rw[he] at hr;simp at hr;rw[hr]
  rw[this];cases c<;>cases b'<;>rfl
 ·rename_i vs e;cases h;obtain⟨rs,hr,_⟩:=Bg (hf _ e);rw[eu] at hr;cases he:a.tmps[s]? with
  | none=>cases b'<;>rfl
  | some q=>rw[he] at hr;simp at hr;subst hr;cases b'<;>rfl
 ·cases h
theorem Rn{ops:Array Oper}{n:Nat}{o:Oper}{ao:fB}{X:Emb}{fr:Fr}{a:Act}{b:Bool}(hc:kV P ops n o=some ao)(hf:FrR X fr a)(h:want ao fr=some b):Region.wanted o (yielded ops a.tmps)=b:=by
 obtain⟨_,_,p,_,h2⟩:=rq hc;rcases h2 with ⟨hg,rfl⟩ | ⟨g,b',s,hg,hs,hao⟩
 ·simp only[want,ay] at h;simp[Region.wanted,hg,h]
 ·exact D7 hg hs hao (fun v hv=>hf s v hv) h
theorem gy{ops:Array Oper}{n:Nat}{o:Oper}{ao:fB}(hc:kV P ops n o=some ao):gF P o.op=some ao.op/\ao.dst=o.dst/\(∀ x∈o.op.operands.toList,l8 x=true)/\∀ d,o.dst=some d->d < n:=by obtain⟨h1,h2,p,hp,h3⟩:=rq hc;rcases h3 with ⟨_,rfl⟩ | ⟨_,_,_,_,_,rfl⟩<;>exact⟨hp,rfl,h1,h2⟩
theorem pG{X:Emb} : fN X gB undef:=nh
theorem size_put(a:Act)(d:Option Tmp)(v:Value):(a.put d v).tmps.size=a.tmps.size:=gC.size_put a d v
theorem iL(a:Act)(d:Option Tmp)(v:Value):(a.put d v).defers=a.defers:=gC.iL a d v
theorem og{o:Op}{ao:AOp}(h:gF P o=some ao):∀ c,o≠.defer c:=fun c e=>by subst e;simp[gF] at h
theorem u7{fz:fD}{Yp:Emb->World->Prop}{r:Option Nat}(hcf:g9 P w0 Yp fz){ops:Array Oper}{n:Nat}{Q:Exit->Act->World->Prop} : ∀ (l:List Oper) (asq:List fB),jy P ops n l=some asq->∀ (fr:Fr) (σ:St) (fr':Fr) (σ':St),lI fz asq fr σ=some (fr',σ') ->
  ∀ (X:Emb) (a:Act) (w:World),Good w0 lo n X σ fr a w->Yp X w->(∀ a' w',Post w0 lo n X σ w fr' σ' a' w'->Q .normal a' w')->wpListIn (gC.fw r) 0 P ops Q l a w
 | [],asq,hc,fr,σ,fr',σ',h,X,a,w,G,hY,hQ=>by
  simp only[jy,ay] at hc;subst hc;simp only[lI,ay,bT] at h;obtain⟨rfl,rfl⟩:=h;exact wpListIn_nil (hQ a w ⟨X,G,Stp.refl _ _ _⟩)
 | o::l,asq,hc,fr,σ,fr',σ',h,X,a,w,G,hY,hQ=>by
  simp only[jy,aa,aj] at hc;obtain⟨ao,hao,as',has',rfl⟩:=hc;simp only[lI,aa] at h;obtain⟨b,hb,h⟩:=h;have hw:=Rn hao G.fr hb;obtain⟨c1,c2,c3,c4⟩:=gy hao;have oN:∀ k,ao.dst=some k->k < a.tmps.size:=fun k hk=>bg (c4 k (by rw[<- c2];exact hk)) G.size;cases b with
  | true=>
   simp only[if_true,aa] at h;obtain⟨⟨v,σ1⟩,h1,h2⟩:=h;have hg:=nK (w:=w) (a:=a) (X:=X) hcf hY c1 G.sim G.hid G.lock (fun x hx v hv=>G.fr.ev (c3 x hx) hv) h1;have ha1:=lu hcf.ast G.lock h1;have next:∀ u w1 X1,fN X1 v u->Sim w0 X1 σ1 w1->Stp X σ w X1 w1->Good w0 lo n X1 σ1 (fr.put ao.dst v) (a.put o.dst u) w1:=fun u w1 X1 r1 r2 r3=>by rw[<- c2];exact G.step ha1 r2 ((G.fr.evo r3.evo).put r1 oN) (size_put _ _ _) (iL _ _ _) r3
   refine wpListIn_step fun K hK=>?_;rw[hw,if_pos rfl];refine gC.uy (og c1) (T:=abx w0 X σ w v σ1) (fun u w1 ⟨X1,r1,r2,r3⟩=>?_) hg;exact hK _ _ (u7 (Q:=Q) hcf l as' has' _ _ _ _ h2 X1 _ w1 (next u w1 X1 r1 r2 r3) (hcf.acA _ _ _ _ _ hY r3) fun a' w' ⟨X2,g2,s2⟩=>hQ a' w' ⟨X2,g2,r3.trans ha1 s2⟩)
  | false=>
   simp only[aO,if_false] at h;have G1:Good w0 lo n X σ (fr.put ao.dst gB) (a.put o.dst undef) w:=by rw[<- c2];exact G.step (Ast.refl _) G.sim (G.fr.put pG oN) (size_put _ _ _) (iL _ _ _) (Stp.refl _ _ _)
   refine wpListIn_step fun K hK=>?_;rw[hw,if_neg (by simp)];exact⟨fun _ _=>(by cases r<;>exact trivial),hK _ _ (u7 (Q:=Q) hcf l as' has' _ _ _ _ h X _ w G1 hY hQ)⟩
end
end AM
namespace AM
open Go Go.RowKit
def vU(σ:St)(bn:List (Nat×Nat×Nat))(o:fB):St:={ σ with lock:=jW o.wr (mF o) bn σ.lock σ.heap.length,hid:=gj o.bef bn++σ.hid }
structure Trace(fz:fD)(asq:List fB)(off:Nat)(st:Nat->St)(frm:Nat->Fr)(val:Nat->Value)(ran:Nat->Bool)(bn:Nat->List (Nat×Nat×Nat)):Prop where
 want:∀ i o,asq[i]?=some o->want o (frm (off+i))=some (ran (off+i))
 frame:∀ i o,asq[i]?=some o->frm (off+i+1)=(frm (off+i)).put o.dst (val (off+i))
 uk:∀ i o,asq[i]?=some o->ran (off+i)=true->∃ s',aop fz o.op (frm (off+i)) (vU (st (off+i)) (bn (off+i)) o)=some (val (off+i),s')/\st (off+i+1) = { s' with lock:=(st (off+i)).lock,hid:=(st (off+i)).hid }
 abA:∀ i o,asq[i]?=some o->ran (off+i)=false->val (off+i)=gB/\st (off+i+1)=st (off+i)
 born:∀ i o,asq[i]?=some o->bn (off+i+1)=if (st (off+i)).heap.length < (st (off+i+1)).heap.length then (off+i,(st (off+i)).heap.length,(st (off+i+1)).heap.length)::bn (off+i) else bn (off+i)
theorem BD{fz:fD} : ∀ (l:List fB) (born:List (Nat×Nat×Nat)) (j:Nat) (fr:Fr) (σ:St) (fr':Fr) (σ':St),lK fz born j l fr σ=some (fr',σ') ->
  ∃ st frm val ran bn,st j=σ/\frm j=fr/\bn j=born/\st (j+l.length)=σ'/\frm (j+l.length)=fr'/\Trace fz l j st frm val ran bn
 | [],born,j,fr,σ,fr',σ',h=>by
  simp only[lK,ay,bT] at h;refine⟨fun _=>σ,fun _=>fr,fun _=>gB,fun _=>false,fun _=>born,rfl,rfl,rfl,h.2,h.1,⟨?_,?_,?_,?_,?_⟩⟩<;>(intro i o ho;simp at ho)
 | o::l,born,j,fr,σ,fr',σ',h=>by
  simp only[lK,aa] at h;obtain⟨b,hb,h⟩:=h
  -- what the first operation leaves
  obtain⟨v,σ1,born1,h1,h2,xg⟩:∃ v σ1 born1,(b=true->∃ s',aop fz o.op fr (vU σ born o)=some (v,s')/\σ1 = { s' with lock:=σ.lock,hid:=σ.hid })/\(b=false->v=gB/\σ1=σ) /\
    (born1=if σ.heap.length < σ1.heap.length then (j,σ.heap.length,σ1.heap.length)::born else born)/\lK fz born1 (j+1) l (fr.put o.dst v) σ1=some (fr',σ'):=by
   cases b with
   | true=>
    simp only[if_true,aa] at h;obtain⟨⟨v,s'⟩,h1,h2⟩:=h;exact⟨v,{ s' with lock:=σ.lock,hid:=σ.hid },_,fun _=>⟨s',h1,rfl⟩,fun e=>(by cases e),rfl,h2⟩
   | false=>
    simp only[aO,if_false] at h;exact⟨gB,σ,_,fun e=>(by cases e),fun _=>⟨rfl,rfl⟩,rfl,by simpa using h⟩
  obtain⟨hborn,xg⟩:=xg;obtain⟨st,frm,val,ran,bn,e1,e2,e3,e4,e5,T⟩:=BD l born1 (j+1) _ _ _ _ xg;have sh:∀ i,j+(i+1)=j+1+i:=fun i=>by omega
  refine⟨fun i=>if i=j then σ else st i,fun i=>if i=j then fr else frm i,fun i=>if i=j then v else val i,fun i=>if i=j then b else ran i,fun i=>if i=j then born else bn i,by simp,by simp,by simp,?_,?_,⟨?_,?_,?_,?_,?_⟩⟩
  ·have:¬ j+(l.length+1)=j:=om
   simp only[az,this,if_false];rw[sh];exact e4
  ·have:¬ j+(l.length+1)=j:=om
   simp only[az,this,if_false];rw[sh];exact e5
  all_goals
   intro i o' ho';cases i with
   | zero=>
    simp at ho';subst ho';have n1:¬ j+1=j:=om
    simp only[bY,if_true,n1,if_false,e1,e2,e3];try (first
     | exact hb
     | exact fun e=>h1 e
     | exact fun e=>h2 e
     | exact hborn)
   | succ i=>
    have n1:¬ j+(i+1)=j:=om
    have n2:¬ j+(i+1)+1=j:=om
    simp only[n1,n2,if_false];rw[sh];have ho2:l[i]?=some o':=by simpa using ho'
    first
     | exact T.want i o' ho2
     | exact T.frame i o' ho2
     | exact T.uk i o' ho2
     | exact T.abA i o' ho2
     | exact T.born i o' ho2
end AM
namespace AM
open Go Go.RowKit
section
variable{P:Program}
structure OS(ops:Array Oper):Prop where
 aeU:∀ (j:Nat) (o:Oper) cs b,ops[j]?=some o->o.op≠.select cs b
 back:∀ (j:Nat) (o:Oper) (e:Edge),ops[j]?=some o->e∈o.after->Region.binds .any e=true->e.on < j
 one:∀ (j k:Nat) (o o':Oper) d,ops[j]?=some o->ops[k]?=some o'->j≠k->o'.dst=some d->o.dst≠some d
 bound:∀ (j k:Nat) (o o':Oper) d,ops[j]?=some o->ops[k]?=some o'->j≠k->o'.dst=some d->d∈o.looksAt ops ->
  (∃ e∈o.after,Region.binds .any e=true/\e.on=k)\/(∃ e∈o'.after,Region.binds .any e=true/\e.on=j)
theorem BE{ops:Array Oper}(h:D0 ops=true):OS ops:=by
 unfold D0 at h;rw[aF] at h;have hlt:∀ {j:Nat} {o:Oper},ops[j]?=some o->j < ops.size:=fun ho=>(bA.1 ho).1;refine⟨fun j o cs b ho=>?_,fun j o e ho he hb=>?_,fun j k o o' d ho hk hjk hd=>?_,fun j k o o' d ho hk hjk hd hm=>?_⟩;all_goals
  have hj:=h j (cj.2 (hlt ho));simp only[ho,au] at hj;obtain⟨⟨h1,h3⟩,h4⟩:=hj
 ·intro he;simp[he] at h1
 ·rw[aF] at h3;have:=h3 e (by simpa using he);rw[hb] at this;simpa using this
 ·rw[aF] at h4;have:=h4 k (cj.2 (hlt hk));simp only[hk,hd,bF,beq_iff_eq,hjk,false_or,au] at this;simpa using this.1
 ·rw[aF] at h4;have:=h4 k (cj.2 (hlt hk));simp only[hk,hd,bF,beq_iff_eq,hjk,false_or,au] at this;rcases this.2 with (h5 | h5) | h5
  ·simp at h5;exact absurd hm h5
  ·rw[List.any_eq_true] at h5;obtain⟨e,he,hb⟩:=h5;simp only[au,beq_iff_eq] at hb;exact .inl ⟨e,by simpa using he,hb.1,hb.2⟩
  ·rw[List.any_eq_true] at h5;obtain⟨e,he,hb⟩:=h5;simp only[au,beq_iff_eq] at hb;exact .inr ⟨e,by simpa using he,hb.1,hb.2⟩
theorem lO{ops:Array Oper}{n:Nat} : ∀ {l:List Oper} {asq:List fB},jy P ops n l=some asq->asq.length=l.length/\∀ (j:Nat) (o:Oper),l[j]?=some o->∃ ao,asq[j]?=some ao/\kV P ops n o=some ao
 | [],asq,h=>by simp only[jy,ay] at h;subst h;simp
 | o::l,asq,h=>by
  simp only[jy,aa,aj] at h;obtain⟨ao,hao,as',has',rfl⟩:=h;obtain⟨h1,h2⟩:=lO has';refine⟨by simp[h1],fun j o' hj=>?_⟩;cases j with
  | zero=>simp at hj;subst hj;exact⟨ao,rfl,hao⟩
  | succ j=>obtain⟨a,e1,e2⟩:=h2 j o' (by simpa using hj);exact⟨a,by simpa using e1,e2⟩
theorem Mq{asq:List fB}{bs:List Nat}{j:Nat}{ao:fB}(h:asq[j]?=some ao):(marked asq bs)[j]?=some (m9 asq bs j ao):=by simp[marked,bW,List.getElem?_zipIdx,h]
theorem BF{q:Edge->Bool}{g:Edge->Nat}{t:Nat} : ∀ (l:List Edge) (s:Nat),(l.foldl (fun s e=>if q e then s|||g e else s) s).testBit t=true->s.testBit t=true\/∃ e∈l,q e=true/\(g e).testBit t=true
 | [],s,h=>.inl h
 | e::l,s,h=>by
  simp only[dg] at h;rcases BF l _ h with h | ⟨e',h1,h2⟩
  ·split at h
   ·rename_i hq;rw[Nat.testBit_or,bF] at h;rcases h with h | h
    ·exact .inl h
    ·exact .inr ⟨e,by simp,hq,h⟩
   ·exact .inl h
  ·exact .inr ⟨e',by simp[h1],h2⟩
theorem D8:∀ (l:List Oper) (acc:List Nat),(∀ k,k < acc.length->(kW l acc).getD k 0=acc.getD k 0) /\
  ∀ i o,l[i]?=some o->∀ t,((kW l acc).getD (acc.length+i) 0).testBit t=true->∃ e∈o.after.toList,Region.binds .any e=true/\(t=e.on\/(e.on < acc.length+i/\((kW l acc).getD e.on 0).testBit t=true))
 | [],acc=>⟨fun _ _=>rfl,fun i o h=>by simp at h⟩
 | o::l,acc=>by
  let b:=o.after.toList.foldl (fun s e=>if Region.binds .any e then s|||(2 ^ e.on|||acc.getD e.on 0) else s) 0;obtain⟨h1,h2⟩:=D8 l (acc++[b]);have hacc:∀ k,k < acc.length->(kW (o::l) acc).getD k 0=acc.getD k 0:=fun k hk=>by show(kW l (acc++[b])).getD k 0=_;rw[h1 k (by simp;omega)];simp[aA hk]
  refine⟨hacc,fun i o' hi t ht=>?_⟩;cases i with
  | zero=>
   simp at hi;subst hi;have hb:(kW (o::l) acc).getD (acc.length+0) 0=b:=by show(kW l (acc++[b])).getD (acc.length+0) 0=_;rw[h1 _ (by simp)];simp
   rw[hb] at ht;rcases BF _ _ ht with h | ⟨e,e1,e2,e3⟩
   ·simp at h
   ·refine⟨e,e1,e2,?_⟩;rw[Nat.testBit_or,bF] at e3;rcases e3 with e3 | e3
    ·left;rw[Nat.testBit_two_pow] at e3;exact(by simpa using e3:e.on=t).symm
    ·right;have hlt:e.on < acc.length:=by
      rcases bu e.on acc.length with h | h
      ·exact h
      ·rw[aE,aQ h] at e3;simp at e3
     exact⟨om,by rw[hacc _ hlt];exact e3⟩
  | succ i=>
   have hl:acc.length+(i+1)=(acc++[b]).length+i:=by simp;omega
   rw[hl] at ht ⊢;exact h2 i o' (by simpa using hi) t ht
theorem qq{ops:Array Oper}(st:OS ops){D:Nat->Prop}(hcl:∀ (k:Nat) (o:Oper) (e:Edge),ops[k]?=some o->D k->e∈o.after->Region.binds .any e=true->D e.on) :
  ∀ (j:Nat) (o:Oper),ops[j]?=some o->(∀ e∈o.after,Region.binds .any e=true->D e.on)->∀ t,((kW ops.toList []).getD j 0).testBit t=true->D t/\t < j:=by
 intro j;induction j using Nat.strongRecOn with
 | _ j ih=>
  intro o ho hr t ht;have hb:=(D8 ops.toList []).2 j o (by simpa using ho) t (by simpa using ht);obtain⟨e,e1,e2,e3⟩:=hb;have e1':e∈o.after:=by simpa using e1
  have hlt:=st.back j o e ho e1' e2;have hd:=hr e e1' e2;rcases e3 with rfl | ⟨_,e3⟩
  ·exact⟨hd,hlt⟩
  ·have hj:j < ops.size:=(bA.1 ho).1;have ho2:ops[e.on]?=some (ops[e.on]'(by omega)):=bD om;obtain⟨r1,r2⟩:=ih e.on hlt _ ho2 (fun e' he' hb'=>hcl e.on _ e' ho2 hd he' hb') t e3;exact⟨r1,om⟩
theorem oO{bef:Nat}{id:Nat} : ∀ {bn:List (Nat×Nat×Nat)},id∈gj bef bn↔∃ i lo hi,(i,lo,hi)∈bn/\bef.testBit i=false/\lo<=id/\id < hi
 | []=>by simp[gj]
 | (i,lo,hi)::l=>by
  unfold gj;split
  ·rename_i hb;rw[oO];constructor
   ·rintro⟨i',lo',hi',h1,h2⟩;exact⟨i',lo',hi',by simp[h1],h2⟩
   ·rintro⟨i',lo',hi',h1,h2,h3⟩;rcases aJ.1 h1 with h1 | h1
    ·cases h1;rw[hb] at h2;cases h2
    ·exact⟨i',lo',hi',h1,h2,h3⟩
  ·rename_i hb;rw[aP,oO,eB];constructor
   ·rintro(h | ⟨i',lo',hi',h1,h2⟩)
    ·exact⟨i,lo,hi,by simp,by simpa using hb,om,om⟩
    ·exact⟨i',lo',hi',by simp[h1],h2⟩
   ·rintro⟨i',lo',hi',h1,h2,h3⟩;rcases aJ.1 h1 with h1 | h1
    ·cases h1;left;omega
    ·exact .inr ⟨i',lo',hi',h1,h2,h3⟩
section
variable{fz:fD}{asq:List fB}{st:Nat->St}{frm:Nat->Fr}{val:Nat->Value}{ran:Nat->Bool}{bn:Nat->List (Nat×Nat×Nat)}
theorem Trace.zero(T:Trace fz asq 0 st frm val ran bn):∀ i o,asq[i]?=some o->AM.want o (frm i)=some (ran i)/\frm (i+1)=(frm i).put o.dst (val i) /\
  (ran i=true->∃ s',aop fz o.op (frm i) (vU (st i) (bn i) o)=some (val i,s')/\st (i+1) = { s' with lock:=(st i).lock,hid:=(st i).hid })/\(ran i=false->val i=gB/\st (i+1)=st i) /\
  bn (i+1)=if (st i).heap.length < (st (i+1)).heap.length then (i,(st i).heap.length,(st (i+1)).heap.length)::bn i else bn i:=fun i o ho=>by have h1:=T.want i o ho;have h2:=T.frame i o ho;have h3:=T.uk i o ho;have h4:=T.abA i o ho;have h5:=T.born i o ho;simp only[aX] at h1 h2 h3 h4 h5;exact⟨h1,h2,h3,h4,h5⟩
theorem Trace.ast(hcf:gK fz)(T:Trace fz asq 0 st frm val ran bn)(hl:(st 0).lock<=(st 0).heap.length):∀ i,i<=asq.length->(st i).lock=(st 0).lock/\(st i).hid=(st 0).hid/\(st 0).heap.length<=(st i).heap.length/\Ast (st 0) (st i)
 | 0,_=>⟨rfl,rfl,av _,Ast.refl _⟩
 | i+1,hi=>by
  obtain⟨h1,h2,h3,h4⟩:=Trace.ast hcf T hl i om;obtain⟨_,_,z1,z2,_⟩:=T.zero i (asq[i]'(by omega)) (aq om);cases hr:ran i with
  | false=>rw[(z2 hr).2];exact⟨h1,h2,h3,h4⟩
  | true=>
   obtain⟨s',e1,e2⟩:=z1 hr;have hli:(st i).lock<=(st i).heap.length:=om
   have a0:=lu hcf (lJ hli).2 e1;have a1:Ast (st i) (st (i+1)):=by rw[e2];exact Ast.unlock (lJ hli).1 a0
   exact⟨a1.lock.trans h1,a1.hid.trans h2,bh h3 a1.len,h4.trans a1⟩
theorem Trace.I0(hcf:gK fz)(T:Trace fz asq 0 st frm val ran bn)(hl:(st 0).lock<=(st 0).heap.length)(i:Nat)(o:fB)(ho:asq[i]?=some o):(st i).heap.length<=(st (i+1)).heap.length /\
  ∀ id,id < (st i).heap.length->o.wr=false\/id∈gj o.bef (bn i)->(st (i+1)).heap[id]?=(st i).heap[id]?:=by
 have hi:i < asq.length:=(af.1 ho).1;obtain⟨h1,h2,h3,h4⟩:=T.ast hcf hl i om;obtain⟨_,_,z1,z2,_⟩:=T.zero i o ho;cases hr:ran i with
 | false=>rw[(z2 hr).2];exact⟨av _,fun _ _ _=>rfl⟩
 | true=>
  obtain⟨s',e1,e2⟩:=z1 hr;have hli:(st i).lock<=(st i).heap.length:=om
  have a0:=lu hcf (lJ hli).2 e1;rw[e2];refine⟨a0.len,fun id hid hk=>?_⟩;refine a0.fix id hid ?_;rcases hk with hk | hk
  ·left;simp only[vU,hk];simpa[jW] using hid
  ·right;simp only[vU,aP];exact .inl hk
theorem Trace.Up(hcf:gK fz)(T:Trace fz asq 0 st frm val ran bn)(hl:(st 0).lock<=(st 0).heap.length)(hb0:bn 0=[]):∀ i,i<=asq.length->∀ e∈bn i,(st 0).heap.length<=e.2.1
 | 0,_,e,he=>by rw[hb0] at he;cases he
 | i+1,hi,e,he=>by
  have ho:asq[i]?=some (asq[i]'(by omega)):=aq _;obtain⟨_,_,_,_,z3⟩:=T.zero i _ ho;rw[z3] at he;split at he
  ·rcases aJ.1 he with rfl | he
   ·exact(T.ast hcf hl i om).2.2.1
   ·exact Trace.Up hcf T hl hb0 i om e he
  ·exact Trace.Up hcf T hl hb0 i om e he
theorem D9{B:Nat} : ∀ (l:List (Nat×Nat×Nat)) (n:Nat),B<=n->(∀ e∈l,B<=e.2.1)->B<=uS l n
 | [],n,h,_=>h
 | (i,lo,hi)::l,n,_,hk=>D9 l lo (hk (i,lo,hi) (by simp)) fun e he=>hk e (by simp[he])
theorem Uq{B L base n:Nat}(h:B<=base)(h':B<=n):B<=DY L base n:=by unfold DY;split<;>assumption
theorem Trace.I1(hcf:gK fz)(T:Trace fz asq 0 st frm val ran bn)(hl:(st 0).lock<=(st 0).heap.length)(hb0:bn 0=[]){i:Nat}(hi:i<=asq.length){o:fB}(hown:mF o=true):(st 0).heap.length<=jW o.wr (mF o) (bn i) (st i).lock (st i).heap.length:=by
 have h3:=(T.ast hcf hl i hi).2.2.1;rw[hown];unfold jW;split
 ·exact Uq (D9 _ _ h3 (T.Up hcf hl hb0 i hi)) h3
 ·exact h3
theorem Trace.Ur(hcf:gK fz)(T:Trace fz asq 0 st frm val ran bn)(hl:(st 0).lock<=(st 0).heap.length)(hb0:bn 0=[])(i:Nat)(o:fB)(ho:asq[i]?=some o)(hown:mF o=true){id:Nat}(hid:id < (st 0).heap.length):(st (i+1)).heap[id]?=(st i).heap[id]?:=by
 have hi:i < asq.length:=(af.1 ho).1;obtain⟨h1,h2,h3,h4⟩:=T.ast hcf hl i om;obtain⟨_,_,z1,z2,_⟩:=T.zero i o ho;cases hr:ran i with
 | false=>rw[(z2 hr).2]
 | true=>
  obtain⟨s',e1,e2⟩:=z1 hr;have hli:(st i).lock<=(st i).heap.length:=om
  have a0:=lu hcf (lJ hli).2 e1;rw[e2];refine a0.fix id (by simp only[vU];omega) (.inl ?_);have:=T.I1 hcf hl hb0 (i:=i) om hown;simp only[vU];omega
theorem Trace.I2(hcf:gK fz)(T:Trace fz asq 0 st frm val ran bn)(hl:(st 0).lock<=(st 0).heap.length)(i:Nat):∀ d,i+d<=asq.length->(st i).heap.length<=(st (i+d)).heap.length
 | 0,_=>av _
 | d+1,h=>bh (Trace.I2 hcf T hl i d om) (T.I0 hcf hl (i+d) (asq[i+d]'(by omega)) (aq om)).1
theorem Trace.BG(hcf:gK fz)(T:Trace fz asq 0 st frm val ran bn)(hl:(st 0).lock<=(st 0).heap.length){i k:Nat}(hik:i<=k)(hk:k<=asq.length):(st i).heap.length<=(st k).heap.length:=by have:=T.I2 hcf hl i (k - i) om;rwa [show i+(k - i)=k by omega] at this
theorem Trace.vV(hb0:bn 0=[])(T:Trace fz asq 0 st frm val ran bn):∀ j,j<=asq.length->∀ i lo hi,(i,lo,hi)∈bn j↔i < j/\lo=(st i).heap.length/\hi=(st (i+1)).heap.length/\lo < hi
 | 0,_,i,lo,hi=>by rw[hb0];simp
 | j+1,hj,i,lo,hi=>by
  obtain⟨_,_,_,_,z⟩:=T.zero j (asq[j]'(by omega)) (aq om);have ih:=Trace.vV hb0 T j om i lo hi;rw[z];split
  ·rename_i hlt;rw[aJ,ih];constructor
   ·rintro(h | h)
    ·cases h;exact⟨om,rfl,rfl,hlt⟩
    ·exact⟨om,h.2⟩
   ·rintro⟨h1,h2,h3,h4⟩;by_cases hij:i=j
    ·subst hij;left;rw[h2,h3]
    ·right;exact⟨om,h2,h3,h4⟩
  ·rename_i hlt;rw[ih];constructor
   ·rintro⟨h1,h2⟩;exact⟨om,h2⟩
   ·rintro⟨h1,h2,h3,h4⟩;by_cases hij:i=j
    ·subst hij;omega
    ·exact⟨om,h2,h3,h4⟩
def Con(asq:List fB)(st:Nat->St)(bn:Nat->List (Nat×Nat×Nat))(D:Nat->Prop)(id m:Nat):Prop:=
 m<=asq.length/\id < (st m).heap.length/\∀ k o,asq[k]?=some o->o.wr=true->id < (st k).heap.length->id∉gj o.bef (bn k)->(mF o=true->(st 0).heap.length<=id)->(D k↔k < m)
theorem Con.same(hcf:gK fz)(T:Trace fz asq 0 st frm val ran bn)(hl:(st 0).lock<=(st 0).heap.length)(hb0:bn 0=[]){D:Nat->Prop}{id m m':Nat}(h:Con asq st bn D id m)(h':Con asq st bn D id m'):(st m).heap[id]?=(st m').heap[id]?:=by
 have key:∀ {m m':Nat},m<=m'->Con asq st bn D id m->Con asq st bn D id m'->(st m).heap[id]?=(st m').heap[id]?:=by
  intro m m' hmm h h';have:∀ d,m+d<=m'->(st (m+d)).heap[id]?=(st m).heap[id]?:=by
   intro d;induction d with
   | zero=>intro _;rfl
   | succ d ih=>
    intro hd;have ho:asq[m+d]?=some (asq[m+d]'(by have:=h'.1;omega)):=aq _;have hid:id < (st (m+d)).heap.length:=bg h.2.1 (T.BG hcf hl om (by have:=h'.1;omega));have hs:=(T.I0 hcf hl (m+d) _ ho).2 id hid;rw[show m+(d+1)=m+d+1 by omega,<- ih om];by_cases hob:mF (asq[m+d]'(by have:=h'.1;omega))=true/\id < (st 0).heap.length
    ·exact T.Ur hcf hl hb0 _ _ ho hob.1 hob.2
    refine hs ?_;cases hw:(asq[m+d]'(by have:=h'.1;omega)).wr with
    | false=>exact .inl rfl
    | true=>
     right;by_cases hh:id∈gj (asq[m+d]'(by have:=h'.1;omega)).bef (bn (m+d))
     ·exact hh
     ·have hoo:mF (asq[m+d]'(by have:=h'.1;omega))=true->(st 0).heap.length<=id:=fun e=>Nat.le_of_not_lt fun hlt=>hob ⟨e,hlt⟩;have h1:=h.2.2 _ _ ho hw hid hh hoo;have h2:=h'.2.2 _ _ ho hw hid hh hoo;exfalso;have:=h2.2 om;have:=h1.1 this;omega
  have:=this (m' - m) om;rw[show m+(m' - m)=m' by omega] at this;exact this.symm
 rcases Nat.le_total m m' with hmm | hmm
 ·exact key hmm h h'
 ·exact(key hmm h' h).symm
theorem Trace.ru(T:Trace fz asq 0 st frm val ran bn){t:Nat} : ∀ j,j<=asq.length->(∀ k o,k < j->asq[k]?=some o->o.dst≠some t)->(frm j).get t=(frm 0).get t
 | 0,_,_=>rfl
 | j+1,hj,h=>by
  have ho:asq[j]?=some (asq[j]'(by omega)):=aq _;obtain⟨_,z,_⟩:=T.zero j _ ho;rw[z,<- Trace.ru T j om fun k o hk=>h k o om];have hne:=h j _ om ho;unfold Fr.put;split
  ·rename_i d hd;have:¬ d=t:=fun e=>hne (by rw[hd,e]);simp[Fr.get,this]
  ·rfl
theorem Trace.get_at(T:Trace fz asq 0 st frm val ran bn){t k:Nat}{o:fB}(hk:asq[k]?=some o)(hd:o.dst=some t)(hu:∀ i o',asq[i]?=some o'->i≠k->o'.dst≠some t):∀ j,k < j->j<=asq.length->(frm j).get t=some (val k)
 | 0,h,_=>by omega
 | j+1,hkj,hj=>by
  have ho:asq[j]?=some (asq[j]'(by omega)):=aq _;obtain⟨_,z,_⟩:=T.zero j _ ho;rw[z];by_cases hjk:j=k
  ·subst hjk;rw[ho] at hk;cases hk;rw[hd];simp[Fr.put,Fr.get]
  ·rw[<- Trace.get_at T hk hd hu j om om];have hne:=hu j _ ho hjk;unfold Fr.put;split
   ·rename_i d hd';have:¬ d=t:=fun e=>hne (by rw[hd',e]);simp[Fr.get,this]
   ·rfl
end
end
end AM
namespace AM
open Go Go.RowKit
section
variable{P:Program}
theorem Us{ops:Array Oper}{r:Option Nat}(st:OS ops)(hnd:∀ (j:Nat) (o:Oper),ops[j]?=some o->∀ c,o.op≠.defer c){Q:Exit->Act->World->Prop}{I:Array Bool->Act->World->Prop}(hls:∀ l a w,I l a w->l.size=ops.size)
  (hstep:∀ l a w j o,I l a w->ops[j]?=some o->l.getD j false=false->(∀ e∈o.after,Region.binds .any e=true->l.getD e.on false=true) ->
   if Region.wanted o (yielded ops a.tmps)=true then gC.gives P o a w (fun v w'=>I (l.setIfInBounds j true) (a.put o.dst v) w') else I (l.setIfInBounds j true) (a.put o.dst undef) w)
  (hend:∀ l a w,I l a w->(∀ j,j < ops.size->l.getD j false=true)->Q .normal a w) :
  ∀ (fuel:Nat) (l:Array Bool) (a:Act) (w:World),gC.left ops.size l<=fuel->I l a w->wpAnyIn (gC.fw r) 0 P .any ops Q fuel l a w:=by
 have hall:∀ (l:Array Bool),l.size=ops.size->Region.ready .any ops l=[]->∀ j,j < ops.size->l.getD j false=true:=by
  intro l hl xp j;induction j using Nat.strongRecOn with
  | _ j ih=>
   intro hj;cases hc:l.getD j false with
   | true=>rfl
   | false=>
    have ho:ops[j]?=some ops[j]:=bD hj;have hm:j∈Region.ready .any ops l:=mem_ready.2 ⟨by
     have:j < l.size:=om
     simpa[this] using hc,ops[j],ho,fun e he hb=>ih e.on (st.back j _ e ho he hb) (by have:=st.back j _ e ho he hb;omega)⟩
    rw[xp] at hm;cases hm
 intro fuel;induction fuel with
 | zero=>
  intro l a w hl inv;have xp:Region.ready .any ops l=[]:=by
   refine List.eq_nil_iff_forall_not_mem.2 fun j hj=>?_;obtain⟨h0,o,ho,_⟩:=mem_ready.1 hj;have h0':=gC.r6 h0;have hjl:j < ops.size:=(bA.1 ho).1;have:0 < gC.left ops.size l:=by unfold gC.left;exact List.length_pos_of_mem (cT.2 ⟨cj.2 hjl,by simp[h0']⟩)
   omega
  exact⟨xp,hend l a w inv (hall l (hls l a w inv) xp)⟩
 | succ fuel ih=>
  intro l a w hl inv;refine⟨fun xp=>hend l a w inv (hall l (hls l a w inv) xp),fun j hj=>?_⟩;obtain⟨h0,o,ho,hrd⟩:=mem_ready.1 hj;have hun:=gC.r6 h0;have hjl:j < ops.size:=(bA.1 ho).1;have hlt:=gC.Ul (hls l a w inv) hjl hun;have hs:=hstep l a w j o inv ho hun hrd;unfold wpOpIn;simp only[ho];split
  ·rename_i hw;simp only[hw,if_true] at hs;exact gC.uy (hnd j o ho) (fun v w' hI=>ih _ _ _ om hI) hs
  ·rename_i hw;simp only[hw] at hs;exact⟨fun _ _=>(by cases r<;>exact trivial),ih _ _ _ om hs⟩
end
def cut(L:Nat)(X:Emb):Emb:=⟨fun id=>if id < L then X id else none,X.y⟩
theorem acB(L:Nat)(X:Emb)(id:Nat):cut L X id=if id < L then X id else none:=rfl
theorem iq{L:Nat}{X:Emb}{id:Nat}{bx:Bx} : cut L X id=some bx↔id < L/\X id=some bx:=by
 rw[acB];split
 ·rename_i h;simp[h]
 ·rename_i h;simp[h]
theorem tV{L L':Nat}{X X':Emb}(h:L<=L')(e:Evo X X'):Evo (cut L X) (cut L' X'):=Evo.mk' e.y fun id bx hx=>by obtain⟨h1,h2⟩:=iq.1 hx;obtain⟨bx',h3,h4⟩:=e.up id bx h2;exact⟨bx',iq.2 ⟨om,h3⟩,h4⟩
theorem FZ{L:Nat}{X:Emb} : Evo (cut L X) X:=Evo.mk' rfl fun id bx hx=>⟨bx,(iq.1 hx).2,.inl rfl⟩
def glue(L:Nat)(Y X:Emb):Emb:=⟨fun id=>if id < L then Y id else X id,X.y⟩
theorem OT(L:Nat)(Y X:Emb)(id:Nat):glue L Y X id=if id < L then Y id else X id:=rfl
theorem j6{L:Nat}{Y X:Emb}{id:Nat}(h:id < L):glue L Y X id=Y id:=by rw[OT,if_pos h]
theorem lA{L:Nat}{Y X:Emb}{id:Nat}(h:L<=id):glue L Y X id=X id:=by rw[OT,if_neg (Nat.not_lt.2 h)]
structure pH(X:Emb)(w:World)(bx:Bx)(b:Option Blk):Prop where
 cell:∀ g pl cs,b=some (.cells g pl cs) ->
  g=bx.gen/\cs.length=bx.known/\0<=cs.length/\(pl=true->cs.all sc=true) /\
  (∀ j v,cs[j]?=some v->∃ u,w.cell? ⟨bx.b,bx.o+j,none⟩=some u/\gL X v u) /\
  (bx.own=true->0<=bx.o/\∃ rs ty lo hi,w.heap[bx.b]?=some (.cells rs ty (lo,hi))/\rs.size=bx.o+bx.size/\bx.known<=bx.size/\(hi=lo\/bx.o+bx.size<=lo))
 j4:∀ es,b=some (.map es)->bx.gen=0/\bx.own=true/\∃ res clock,w.heap[bx.b]?=some (.map res clock)/\sB X es res.toList
theorem pH.mono{X X':Emb}{w w':World}{bx:Bx}{b:Option Blk}(h:pH X w bx b)(e:Evo X X')(hw:w'.heap[bx.b]?=w.heap[bx.b]?):pH X' w' bx b where
 cell:=fun g pl cs hb=>by
  obtain⟨h1,h2,h3,h4,h5,h6⟩:=h.cell g pl cs hb;refine⟨h1,h2,h3,h4,fun j v hj=>?_,fun ho=>?_⟩
  ·obtain⟨u,hu,hr⟩:=h5 j v hj;exact⟨u,by rw[<- hu];simp only[World.cell?,hw],hr.evo e⟩
  ·rw[hw];exact h6 ho
 j4:=fun es hb=>by obtain⟨h1,h2,res,ck,h3,h4⟩:=h.j4 es hb;exact⟨h1,h2,res,ck,by rw[hw];exact h3,h4.evo e⟩
theorem pH.void{X:Emb}{w:World}{bx:Bx} : pH X w bx (some .void):=⟨fun _ _ _ h=>(by cases h),fun _ h=>(by cases h)⟩
theorem Sim.facts{w0 w:World}{X:Emb}{σ:St}(S:Sim w0 X σ w){id:Nat}{bx:Bx}(hx:X id=some bx)(hh:id∉σ.hid):pH X w bx σ.heap[id]?:=⟨fun g pl cs hb=>S.cell id bx g pl cs hx hh hb,fun es hb=>S.j4 id bx es hx hh hb⟩
theorem Mr{fz:fD}{p:AOp}{fr:Fr}{σ σ':St}{v:Value}(hm:mY p=false)(h:aop fz p fr σ=some (v,σ')) :
  ∃ bl,σ' = { σ with heap:=σ.heap++bl }/\∀ τ:St,τ.heap.length=σ.heap.length->aop fz p fr τ=some (v,{ τ with heap:=τ.heap++bl }):=by
 have Ro:∀ q:AOp,(gD q fr).map (fun v=>(v,σ))=some (v,σ')->∃ bl,σ' = { σ with heap:=σ.heap++bl }/\∀ τ:St,τ.heap.length=σ.heap.length->(gD q fr).map (fun v=>(v,τ))=some (v,{ τ with heap:=τ.heap++bl }):=fun q h=>by simp only[aj] at h;obtain⟨u,hu,h⟩:=h;cases h;exact⟨[],by simp,fun τ _=>by simp[hu]⟩
 cases p<;>simp only[mY] at hm<;>(try (cases hm))<;>simp only[aop] at h⊢<;> first
  | exact Ro _ h
  | skip
 case alloc pl zs=>cases h;exact⟨_,rfl,fun τ hτ=>by simp[St.new,hτ]⟩
 case box pl x=>
  simp only[aa] at h;obtain⟨p,hp,h⟩:=h;split at h
  ·rename_i hc;cases h;exact⟨_,rfl,fun τ hτ=>by rw[hp];simp only[ak];rw[if_pos hc];simp[St.new,hτ]⟩
  ·cases h
 case gV pl esz n zs ps=>
  simp only[aa] at h;obtain⟨p,hp,cs,hcs,h⟩:=h;split at h
  ·rename_i hc;cases h;exact⟨_,rfl,fun τ hτ=>by rw[hp];simp only[ak];rw[hcs];simp only[ak];rw[if_pos hc];simp[St.new,hτ]⟩
  ·cases h
 case Dw x=>
  split at h
  ·rename_i s hs;split at h
   ·rename_i hc;cases h;exact⟨_,rfl,fun τ hτ=>by rw[if_pos hc];simp[St.new,hτ]⟩
   ·cases h
  ·cases h
 case l7 pl esz zs l c=>
  simp only[aa] at h;obtain⟨p,hp,q,hq,l',hl',c',hc',h⟩:=h;split at h
  ·rename_i hc;cases h;exact⟨_,rfl,fun τ hτ=>by rw[hp];simp only[ak];rw[hq];simp only[ak];rw[hl'];simp only[ak];rw[hc'];simp only[ak];rw[if_pos hc];simp[St.new,hτ]⟩
  ·cases h
end AM
namespace AM
open Go Go.RowKit
abbrev marks(asq:List fB)(ops:Array Oper):List fB:=marked asq (kW ops.toList [])
section
variable{P:Program}{w0:World}{lo:Nat}{fz:fD}{ops:Array Oper}{asq:List fB}{n:Nat}{st:Nat->St}{frm:Nat->Fr}{val:Nat->Value}{ran:Nat->Bool}{bn:Nat->List (Nat×Nat×Nat)}
structure nL(P:Program)(w0:World)(fz:fD)(ops:Array Oper)(n:Nat)(asq:List fB)(st:Nat->St)(frm:Nat->Fr)(val:Nat->Value)(ran:Nat->Bool)(bn:Nat->List (Nat×Nat×Nat)):Prop where
 hcf:g9 P w0 qp fz
 stt:OS ops
 hc:jy P ops n ops.toList=some asq
 T:Trace fz (marks asq ops) 0 st frm val ran bn
 b0:bn 0=[]
 lk:(st 0).lock<=(st 0).heap.length
 hd:∀ t∈(st 0).hid,t < (st 0).heap.length
theorem nL.len(C:nL P w0 fz ops n asq st frm val ran bn):(marks asq ops).length=ops.size:=by simp[marked,(lO C.hc).1]
theorem nL.get(C:nL P w0 fz ops n asq st frm val ran bn){j:Nat}{o:Oper}(ho:ops[j]?=some o):∃ ao,asq[j]?=some ao/\kV P ops n o=some ao /\
  (marks asq ops)[j]?=some (m9 asq (kW ops.toList []) j ao):=by obtain⟨ao,h1,h2⟩:=(lO C.hc).2 j o (by simpa using ho);exact⟨ao,h1,h2,Mq h1⟩
theorem nL.inv(C:nL P w0 fz ops n asq st frm val ran bn){k:Nat}{m:fB}(h:(marks asq ops)[k]?=some m):∃ o ao,ops[k]?=some o/\asq[k]?=some ao/\kV P ops n o=some ao /\
  m=m9 asq (kW ops.toList []) k ao:=by
 have hk:k < ops.size:=by rw[<- C.len];exact(af.1 h).1
 obtain⟨ao,h1,h2,h3⟩:=C.get (j:=k) (o:=ops[k]) (bD hk);rw[h] at h3;exact⟨ops[k],ao,bD hk,h1,h2,by simpa using h3⟩
theorem nL.mono(C:nL P w0 fz ops n asq st frm val ran bn){i k:Nat}(h:i<=k)(hk:k<=ops.size):(st i).heap.length<=(st k).heap.length:=C.T.BG C.hcf.ast C.lk h (by rw[C.len];exact hk)
theorem nL.stay(C:nL P w0 fz ops n asq st frm val ran bn){i:Nat}(h:i<=ops.size):(st i).lock=(st 0).lock/\(st i).hid=(st 0).hid/\(st 0).heap.length<=(st i).heap.length:=by obtain⟨h1,h2,h3,_⟩:=C.T.ast C.hcf.ast C.lk i (by rw[C.len];exact h);exact⟨h1,h2,h3⟩
theorem nL.acC(C:nL P w0 fz ops n asq st frm val ran bn){j t:Nat}(hj:j < ops.size)(h:((kW ops.toList []).getD j 0).testBit t=true):t < j:=
 (qq C.stt (D:=fun _=>True) (fun _ _ _ _ _ _ _=>trivial) j _ (bD hj) (fun _ _ _=>trivial) t h).2
structure uo(w0:World)(ops:Array Oper)(asq:List fB)(st:Nat->St)(frm:Nat->Fr)(val:Nat->Value)(bn:Nat->List (Nat×Nat×Nat))(X0:Emb)(a0:Act)(wS:World)(l:Array Bool)(X:Emb)(a:Act)(w:World):Prop where
 lsize:l.size=ops.size
 closed:∀ (k:Nat) (o:Oper) (e:Edge),ops[k]?=some o->l.getD k false=true->e∈o.after->Region.binds .any e=true->l.getD e.on false=true
 size:a.tmps.size=a0.tmps.size
 defers:a.defers=a0.defers
 bel:Below w0.heap.size w0 w
 stp:Stp X0 (st 0) wS X w
 place:∀ id bx,X id=some bx->bx.b < w.heap.size/\(if bx.own then w0.heap.size<=bx.b else bx.b < w0.heap.size)
 inj:∀ i j bi bj,X i=some bi->X j=some bj->bi.own=true->bj.own=true->bi.b=bj.b->i=j
 lock:∀ id bx,X id=some bx->(st 0).lock<=id->bx.own=true
 zero:∀ id bx,X id=some bx->bx.known=0->bx.size=0
 OU:∀ id bx,X id=some bx->id < (st 0).heap.length\/∃ i,i < ops.size/\l.getD i false=true/\(st i).heap.length<=id/\id < (st (i+1)).heap.length
 cell:∀ id bx,X id=some bx->id∉(st 0).hid->∃ m,Con (marks asq ops) st bn (fun k=>l.getD k false=true) id m /\
  (m=0\/∃ k o,m=k+1/\l.getD k false=true/\(marks asq ops)[k]?=some o/\((st k).heap.length<=id\/(o.wr=true/\id∉gj o.bef (bn k)/\(mF o=true->(st 0).heap.length<=id))))/\pH (cut (st m).heap.length X) w bx (st m).heap[id]?
 base:FrR (cut (st 0).heap.length X) (frm 0) a0
 set:∀ (k:Nat) (o:Oper) (d:Nat),ops[k]?=some o->l.getD k false=true->o.dst=some d->fN (cut (st (k+1)).heap.length X) (val k) (gC.slot a d)
 oM:∀ (t:Nat),(∀ (k:Nat) (o:Oper),ops[k]?=some o->o.dst=some t->l.getD k false=false)->gC.slot a t=gC.slot a0 t
variable{X0 X:Emb}{a0 a:Act}{wS w:World}{l:Array Bool}{j:Nat}{o:Oper}
theorem uo.bits(C:nL P w0 fz ops n asq st frm val ran bn)(I:uo w0 ops asq st frm val bn X0 a0 wS l X a w){k:Nat}{o:Oper}(ho:ops[k]?=some o)(hrd:∀ e∈o.after,Region.binds .any e=true->l.getD e.on false=true)
  {t:Nat} (h:((kW ops.toList []).getD k 0).testBit t=true):l.getD t false=true/\t < k:=
 qq C.stt (D:=fun k=>l.getD k false=true) (fun k x e hk hl he hb=>I.closed k x e hk hl he hb) k o ho hrd t h
theorem uo.order(C:nL P w0 fz ops n asq st frm val ran bn)(I:uo w0 ops asq st frm val bn X0 a0 wS l X a w)(ho:ops[j]?=some o)(hun:l.getD j false=false)
  (hrd:∀ e∈o.after,Region.binds .any e=true->l.getD e.on false=true) {k:Nat} (hk:k < ops.size) (hkj:k≠j) (h:((kW ops.toList []).getD k 0).testBit j=true\/((kW ops.toList []).getD j 0).testBit k=true):(l.getD k false=true↔k < j):=by
 rcases h with h | h
 ·have hlt:=C.acC hk h;constructor
  ·intro hd;have:=(I.bits C (bD hk) (fun e he hb=>I.closed k _ e (bD hk) hd he hb) h).1;rw[hun] at this;cases this
  ·intro hh;omega
 ·obtain⟨h1,h2⟩:=I.bits C ho hrd h;exact⟨fun _=>h2,fun _=>h1⟩
theorem BH{asq:List fB}{bs:List Nat}{j:Nat}{a:fB}{t:Nat}(ht:t < asq.length)(h:(m9 asq bs j a).bef.testBit t=true):(bs.getD j 0).testBit t=true:=by
 unfold m9 at h;simp only at h;split at h
 ·rename_i hown;have hle:asq.length<=255:=by unfold L3 at hown;simp only[au,decide_eq_true_eq] at hown;exact hown.1.1.2
  rw[Nat.testBit_or,Nat.testBit_two_pow,bF] at h;rcases h with h | h
  ·exact h
  ·have:=of_decide_eq_true h;omega
 ·exact h
theorem Trace.OV(st:Nat->St){id:Nat}(h0:(st 0).heap.length<=id):∀ m,id < (st m).heap.length->∃ i,i < m/\(st i).heap.length<=id/\id < (st (i+1)).heap.length
 | 0,h=>by omega
 | m+1,h=>by
  rcases bu id (st m).heap.length with h1 | h1
  ·obtain⟨i,e1,e2⟩:=Trace.OV st h0 m h1;exact⟨i,om,e2⟩
  ·exact⟨m,om,h1,h⟩
theorem uo.xB(C:nL P w0 fz ops n asq st frm val ran bn)(I:uo w0 ops asq st frm val bn X0 a0 wS l X a w)(ho:ops[j]?=some o)(hun:l.getD j false=false)
  (hrd:∀ e∈o.after,Region.binds .any e=true->l.getD e.on false=true) {mo:fB} (hmo:(marks asq ops)[j]?=some mo) (hmem:mY mo.op=true) {k:Nat} {ok:fB} (hk:(marks asq ops)[k]?=some ok) (hwr:ok.wr=true) (hkj:k≠j)
  {id:Nat} (hik:id < (st k).heap.length) (hnk:id∉gj ok.bef (bn k)) (hok:mF ok=true->(st 0).heap.length<=id) (hij:id < (st j).heap.length) (hnj:id∉gj mo.bef (bn j)) :
  (l.getD k false=true↔k < j):=by
 obtain⟨o1,ao1,e1,e2,e3,rfl⟩:=C.inv hk;obtain⟨o2,ao2,d1,d2,d3,rfl⟩:=C.inv hmo;have ahp:mY ao1.op=true/\(bound asq (kW ops.toList []) k=true\/L3 asq (kW ops.toList []) k ao1=true):=by simpa[m9] using hwr
 have abB:mY ao2.op=true:=hmem;have hks:k < ops.size:=(bA.1 e1).1;have hjs:j < ops.size:=(bA.1 d1).1;have ait:asq.length=ops.size:=by have:=C.len;simpa[marked] using this
 refine I.order C ho hun hrd hks hkj ?_;have hjk:(j==k)=false:=by simpa using (Ne.symm hkj)
 rcases ahp.2 with hb | hb
 ·unfold bound at hb;rw[aF] at hb;have hb:=hb j (cj.2 (af.1 d2).1);rw[hjk,d2] at hb;simpa[abB] using hb
 ·have aeX:mF (m9 asq (kW ops.toList []) k ao1)=true:=by show(m9 asq (kW ops.toList []) k ao1).bef.testBit 255=true;unfold m9;simp only[hb,if_true,Nat.testBit_or,Nat.testBit_two_pow,decide_true,Bool.or_true]
  have hbase:=hok aeX;have hbO:L2 asq (kW ops.toList []) k=true:=by unfold L3 at hb;simp only[au] at hb;exact hb.2
  unfold L2 at hbO;rw[aF] at hbO;have hbO:=hbO j (cj.2 (af.1 d2).1);rw[hjk,d2] at hbO;simp only[abB,Bool.not_true,Bool.or_false,fy,bF,beq_iff_eq] at hbO;rcases hbO with hbO | hz
  ·exact hbO
  ·exfalso;obtain⟨i0,g1,g2,g3⟩:=Trace.OV st hbase k hik;have ahq:i0 < j:=by
    rcases bu i0 j with h | h
    ·exact h
    ·have:=C.mono (i:=j) (k:=i0) h om;omega
   have DC:∀ (q:Nat) (m:fB),q<=ops.size->i0 < q->id∉gj m.bef (bn q)->m.bef.testBit i0=true:=fun q m hq hiq hn=>by
    cases hb:m.bef.testBit i0 with
    | true=>rfl
    | false=>
     refine absurd (oO.2 ⟨i0,(st i0).heap.length,(st (i0+1)).heap.length,?_,hb,g2,g3⟩) hn;exact(C.T.vV C.b0 q (by rw[C.len];exact hq) _ _ _).2 ⟨hiq,rfl,rfl,om⟩
   have b1:=BH om (DC k _ om g1 hnk);have b2:=BH om (DC j _ om ahq hnj);have:((kW ops.toList []).getD j 0&&&(kW ops.toList []).getD k 0).testBit i0=true:=by rw[Nat.testBit_and,b1,b2];rfl
   rw[hz] at this;simp at this
theorem uo.frame(C:nL P w0 fz ops n asq st frm val ran bn)(I:uo w0 ops asq st frm val bn X0 a0 wS l X a w)(ho:ops[j]?=some o)(hun:l.getD j false=false)
  (hrd:∀ e∈o.after,Region.binds .any e=true->l.getD e.on false=true) {t:Nat} (ht:t∈o.looksAt ops):∀ v,(frm j).get t=some v->fN (cut (st j).heap.length X) v (a.tmps.getD t undef):=by
 have hj:j < ops.size:=(bA.1 ho).1;have oN:∀ (k:Nat) (m:fB),(marks asq ops)[k]?=some m->∃ o',ops[k]?=some o'/\m.dst=o'.dst:=fun k m hk=>by obtain⟨o',ao,e1,_,e3,rfl⟩:=C.inv hk;exact⟨o',e1,(gy e3).2.1⟩
 have yD:(∀ (k:Nat) (x:Oper),k < j->ops[k]?=some x->x.dst≠some t)->gC.slot a t=gC.slot a0 t->∀ v,(frm j).get t=some v->fN (cut (st j).heap.length X) v (a.tmps.getD t undef):=fun h1 h2 v hv=>by
  rw[C.T.ru j (by rw[C.len];omega) (fun k m hk hm=>by obtain⟨o',e1,e2⟩:=oN k m hm;rw[e2];exact h1 k o' hk e1)] at hv
  have:=(I.base t v hv).evo (tV (C.mono (cm j) om) (Evo.refl X));show fN _ v (gC.slot a t);rw[h2];exact this
 by_cases hw:∃ (k:Nat) (o':Oper),ops[k]?=some o'/\o'.dst=some t/\k≠j
 ·obtain⟨k,o',hk,hd,hkj⟩:=hw;rcases C.stt.bound j k o o' t ho hk (Ne.symm hkj) hd ht with ⟨e,he,hb,hon⟩ | ⟨e,he,hb,hon⟩
  ·have hlk:l.getD k false=true:=by rw[<- hon];exact hrd e he hb
   have hlt:k < j:=by rw[<- hon];exact C.stt.back j o e ho he hb
   intro v hv;obtain⟨ao,e1,e2,e3⟩:=C.get hk;rw[C.T.get_at e3 (t:=t) (by rw[<- hd];exact(gy e2).2.1) (fun i m hi hne=>by obtain⟨x,f1,f2⟩:=oN i m hi;rw[f2];exact C.stt.one i k x o' t f1 hk hne hd) j hlt (by rw[C.len];omega)] at hv
   cases hv;exact(I.set k o' t hk hlk hd).evo (tV (C.mono hlt om) (Evo.refl X))
  ·have hlk:l.getD k false=false:=by
    cases hc:l.getD k false with
    | false=>rfl
    | true=>
     have:=I.closed k o' e hk hc he hb;rw[hon,hun] at this;cases this
   have hjk:j < k:=by rw[<- hon];exact C.stt.back k o' e hk he hb
   exact yD (fun i x hi hx=>C.stt.one i k x o' t hx hk om hd) (I.oM t fun k' x hk' hd'=>by
    by_cases hkk:k'=k
    ·subst hkk;exact hlk
    ·exact absurd hd' (C.stt.one k' k x o' t hk' hk hkk hd))
 ·have hno:∀ (k:Nat) (o':Oper),ops[k]?=some o'->k≠j->o'.dst≠some t:=fun k o' hk hkj hd=>hw ⟨k,o',hk,hd,hkj⟩;exact yD (fun i x hi hx=>hno i x hx om) (I.oM t fun k x hk hd=>by
   by_cases hkj:k=j
   ·subst hkj;exact hun
   ·exact absurd hd (hno k x hk hkj))
def tau(σ:St)(b:List (Nat×Nat×Nat))(mo:fB):St:=if mY mo.op=true then vU σ b mo else { vU σ b mo with heap:=List.replicate σ.heap.length .void }
theorem nG(σ:St)(b:List (Nat×Nat×Nat))(mo:fB):(tau σ b mo).heap.length=σ.heap.length:=by unfold tau;split<;>simp[vU]
theorem sJ(σ:St)(b:List (Nat×Nat×Nat))(mo:fB):(tau σ b mo).lock=jW mo.wr (mF mo) b σ.lock σ.heap.length:=by unfold tau;split<;>rfl
theorem pJ(σ:St)(b:List (Nat×Nat×Nat))(mo:fB):(tau σ b mo).hid=gj mo.bef b++σ.hid:=by unfold tau;split<;>rfl
theorem nL.Ea(C:nL P w0 fz ops n asq st frm val ran bn)(hj:j<=ops.size){bef id:Nat}(h:id∈gj bef (bn j)):id < (st j).heap.length:=by obtain⟨i,lo,hi,h1,_,_,h4⟩:=oO.1 h;obtain⟨f1,f2,f3,f4⟩:=(C.T.vV C.b0 j (by rw[C.len];exact hj) i lo hi).1 h1;exact bg (f3 ▸ h4) (C.mono f1 hj)
theorem uo.Eb(C:nL P w0 fz ops n asq st frm val ran bn)(I:uo w0 ops asq st frm val bn X0 a0 wS l X a w)(ho:ops[j]?=some o)(hun:l.getD j false=false)
  (hrd:∀ e∈o.after,Region.binds .any e=true->l.getD e.on false=true) {mo:fB} (hmo:(marks asq ops)[j]?=some mo) {id:Nat} {bx:Bx} (h:cut (st j).heap.length X id=some bx) (hh:id∉(tau (st j) (bn j) mo).hid):pH (cut (st j).heap.length X) w bx (tau (st j) (bn j) mo).heap[id]?:=by
  obtain⟨h1,h2⟩:=iq.1 h;have hj:j < ops.size:=(bA.1 ho).1;by_cases hmem:mY mo.op=true
  ·simp only[pJ,aP,not_or,(C.stay (i:=j) om).2.1] at hh;obtain⟨m,Ut,hm,hf⟩:=I.cell id bx h2 hh.2;have Uu:Con (marks asq ops) st bn (fun k=>l.getD k false=true) id j:=by
    refine⟨by rw[C.len];omega,h1,fun k ok hk hwr hlt hnh hown=>?_⟩;by_cases hkj:k=j
    ·subst hkj;simp[hun]
    ·exact I.xB C ho hun hrd hmo hmem hk hwr hkj hlt hnh hown h1 hh.1
   have hmj:m<=j:=by
    rcases hm with rfl | ⟨k,ok,rfl,hk1,hk2,hk3⟩
    ·omega
    ·have hks:k < ops.size:=by rw[<- C.len];exact(af.1 hk2).1
     have early:(st k).heap.length<=id->k < j:=fun hk3=>by
      rcases bu k j with hh | hh
      ·exact hh
      ·have:=C.mono hh om;omega
     rcases hk3 with hk3 | ⟨hk3,hk4,hk5⟩
     ·exact early hk3
     ·have hkj:k≠j:=fun e=>by subst e;rw[hun] at hk1;cases hk1
      rcases bu id (st k).heap.length with hlt | hlt
      ·exact(I.xB C ho hun hrd hmo hmem hk2 hk3 hkj hlt hk4 hk5 h1 hh.1).1 hk1
      ·exact early hlt
   have hsame:=Ut.same C.hcf.ast C.T C.lk C.b0 Uu;have hb':(tau (st j) (bn j) mo).heap[id]?=(st j).heap[id]?:=by unfold tau;rw[if_pos hmem];rfl
   rw[hsame] at hf;rw[hb'];exact hf.mono (tV (C.mono hmj om) (Evo.refl X)) rfl
  ·unfold tau;rw[if_neg hmem];simp only[dB];repeat' split
   all_goals first
    | exact pH.void
    | exact pH.none
theorem uo.Zk(C:nL P w0 fz ops n asq st frm val ran bn)(I:uo w0 ops asq st frm val bn X0 a0 wS l X a w)(ho:ops[j]?=some o)(hun:l.getD j false=false)
  (hrd:∀ e∈o.after,Region.binds .any e=true->l.getD e.on false=true) {mo:fB} (hmo:(marks asq ops)[j]?=some mo):Sim w0 (cut (st j).heap.length X) (tau (st j) (bn j) mo) w where
 bel:=I.bel
 dom:=fun id bx h=>by rw[nG];exact(iq.1 h).1
 place:=fun id bx h=>I.place id bx (iq.1 h).2
 inj:=fun i k bi bk h1 h2=>I.inj i k bi bk (iq.1 h1).2 (iq.1 h2).2
 zero:=fun id bx h=>I.zero id bx (iq.1 h).2
 lock:=fun id bx h hl=>by obtain⟨h1,h2⟩:=iq.1 h;refine I.lock id bx h2 ?_;have hj:j < ops.size:=(bA.1 ho).1;have h3:=C.stay (i:=j) om;have h4:=(lJ (wr:=mo.wr) (own:=mF mo) (born:=bn j) (L:=(st j).lock) (n:=(st j).heap.length) (by have:=C.lk;omega)).1;rw[sJ] at hl;omega
 cell:=fun id bx g pl cs h hh hb=>(I.Eb C ho hun hrd hmo h hh).cell g pl cs hb
 j4:=fun id bx es h hh hb=>(I.Eb C ho hun hrd hmo h hh).j4 es hb
theorem nL.Zl(C:nL P w0 fz ops n asq st frm val ran bn){mo:fB}(hmo:(marks asq ops)[j]?=some mo)(hr:ran j=true):∃ τ',aop fz mo.op (frm j) (tau (st j) (bn j) mo)=some (val j,τ')/\τ'.heap.length=(st (j+1)).heap.length /\
  τ'.hid=(tau (st j) (bn j) mo).hid/\∀ id,(st j).heap.length<=id\/mo.wr=true->τ'.heap[id]?=(st (j+1)).heap[id]?:=by
 obtain⟨_,_,z1,_,_⟩:=C.T.zero j mo hmo;obtain⟨s',e1,e2⟩:=z1 hr;have hj:j < ops.size:=by rw[<- C.len];exact(af.1 hmo).1
 have hlk:(vU (st j) (bn j) mo).lock<=(vU (st j) (bn j) mo).heap.length:=by have:=C.stay (i:=j) om;have:=C.lk;exact(lJ om).2
 by_cases hmem:mY mo.op=true
 ·refine⟨s',by unfold tau;rw[if_pos hmem];exact e1,by rw[e2],?_,fun id _=>by rw[e2]⟩;rw[pJ];exact(lu C.hcf.ast hlk e1).hid
 ·have hm:mY mo.op=false:=by simpa using hmem
  obtain⟨bl,f1,f2⟩:=Mr hm e1;refine⟨_,f2 _ (nG _ _ _),?_,rfl,fun id hid=>?_⟩
  ·rw[e2,f1];simp[nG,vU]
  ·rw[e2,f1];have hwr:mo.wr=false:=by obtain⟨_,ao,_,_,_,rfl⟩:=C.inv hmo;have:mY ao.op=false:=hm;simp[m9,this]
   have hid:(st j).heap.length<=id:=by
    rcases hid with h | h
    ·exact h
    ·rw[hwr] at h;cases h
   simp only[];rw[aM (by rw[nG];exact hid),aM (by simpa[vU] using hid),nG];rfl
end
end AM
namespace AM
open Go Go.RowKit
section
variable{P:Program}{w0:World}{lo:Nat}{fz:fD}{ops:Array Oper}{asq:List fB}{n:Nat}{st:Nat->St}{frm:Nat->Fr}{val:Nat->Value}{ran:Nat->Bool}{bn:Nat->List (Nat×Nat×Nat)}
variable{X0 X Y:Emb}{a0 a:Act}{wS w w':World}{l:Array Bool}{j:Nat}{o:Oper}{u:Value}{τ':St}
theorem uo.next(C:nL P w0 fz ops n asq st frm val ran bn)(I:uo w0 ops asq st frm val bn X0 a0 wS l X a w)(ho:ops[j]?=some o)(hun:l.getD j false=false)
  (hrd:∀ e∈o.after,Region.binds .any e=true->l.getD e.on false=true) {mo:fB} (hmo:(marks asq ops)[j]?=some mo) (oN:∀ d,o.dst=some d->d < a.tmps.size)
  (hlen:τ'.heap.length=(st (j+1)).heap.length) (iJ:τ'.hid=(tau (st j) (bn j) mo).hid) (hheap:∀ id,(st j).heap.length<=id\/mo.wr=true->τ'.heap[id]?=(st (j+1)).heap[id]?)
  (r:fN Y (val j) u) (S:Sim w0 Y τ' w') (s:Stp (cut (st j).heap.length X) (tau (st j) (bn j) mo) w Y w') :
  uo w0 ops asq st frm val bn X0 a0 wS (l.setIfInBounds j true) (glue (st (j+1)).heap.length Y X) (a.put o.dst u) w':=by
 have hj:j < ops.size:=(bA.1 ho).1;have hLL:(st j).heap.length<=(st (j+1)).heap.length:=C.mono om om;have h0L:(st 0).heap.length<=(st j).heap.length:=C.mono om om;have iK:(l.setIfInBounds j true).getD j false=true:=gC.nF false (by rw[I.lsize];exact hj);have hup:∀ k,l.getD k false=true->(l.setIfInBounds j true).getD k false=true:=fun k hk=>by
  by_cases hkj:j=k
  ·subst hkj;exact iK
  ·rw[gC.mK false hkj];exact hk
 have hD:∀ k,k≠j->((l.setIfInBounds j true).getD k false=true↔l.getD k false=true):=fun k hk=>by rw[gC.mK false (Ne.symm hk)]
 have hst:=C.stay (i:=j) om;have DB:(st 0).lock<=(tau (st j) (bn j) mo).lock:=by have h4:=(lJ (wr:=mo.wr) (own:=mF mo) (born:=bn j) (L:=(st j).lock) (n:=(st j).heap.length) (by have:=C.lk;omega)).1;rw[sJ];omega
 have abC:∀ id bx,Y id=some bx->id < (st (j+1)).heap.length:=fun id bx h=>by rw[<- hlen];exact S.dom id bx h
 have hnone:∀ id bx,X id=some bx->id < (st (j+1)).heap.length->id < (st j).heap.length:=fun id bx h hl=>by
  rcases I.OU id bx h with h1 | ⟨i,h1,h2,h3,h4⟩
  ·omega
  ·have hij:i≠j:=fun e=>by subst e;rw[hun] at h2;cases h2
   rcases bu i j with h5 | h5
   ·have:=C.mono (i:=i+1) (k:=j) h5 om;omega
   ·have:=C.mono (i:=j+1) (k:=i) om om;omega
 have kq:∀ id bx,Y id=some bx->(∃ bx1,X id=some bx1/\id < (st j).heap.length/\bx.own=bx1.own/\(bx.b=bx1.b\/w.heap.size<=bx.b))\/(X id=none/\bx.own=true/\w.heap.size<=bx.b/\(st j).heap.length<=id):=fun id bx h=>by
  rcases s.back id bx h with ⟨bx1,h1,h2⟩ | ⟨h1,h2,h3,h4⟩
  ·obtain⟨h5,h6⟩:=iq.1 h1;exact .inl ⟨bx1,h6,h5,h2⟩
  ·rw[nG] at h4;refine .inr ⟨?_,h2,h3,h4⟩;cases hx:X id with
   | none=>rfl
   | some bx1=>have:=hnone id bx1 hx (abC id bx h);omega
 have sq:Evo X (glue (st (j+1)).heap.length Y X):=Evo.mk' rfl fun id bx h=>by
  rcases bu id (st (j+1)).heap.length with h1 | h1
  ·rw[j6 h1];exact s.evo.up id bx (iq.2 ⟨hnone id bx h h1,h⟩)
  ·rw[lA h1];exact⟨bx,h,.inl rfl⟩
 have abD:Evo Y (cut (st (j+1)).heap.length (glue (st (j+1)).heap.length Y X)):=Evo.mk' s.evo.y.symm fun id bx h=>by have:=abC id bx h;exact⟨bx,iq.2 ⟨this,by rw[j6 this];exact h⟩,.inl rfl⟩
 -- what the operation did not write
 have hkeep:∀ id bx,X id=some bx->((st (j+1)).heap.length<=id\/((tau (st j) (bn j) mo).lock<=id->id∈(tau (st j) (bn j) mo).hid))->glue (st (j+1)).heap.length Y X id=some bx/\w'.heap[bx.b]?=w.heap[bx.b]?:=by
  intro id bx h hk;refine⟨?_,?_⟩
  ·rcases bu id (st (j+1)).heap.length with h1 | h1
   ·rw[j6 h1];have hc:=iq.2 ⟨hnone id bx h h1,h⟩;obtain⟨bx',h2,h3⟩:=s.evo.up id bx hc;rcases s.same id bx bx' hc h2 with h4 | ⟨h4,h5⟩
    ·rw[h2,h4]
    ·rcases hk with hk | hk
     ·omega
     ·exact absurd (hk h4) h5
   ·rw[lA h1];exact h
  ·have hp:=I.place id bx h;refine s.frame bx.b hp.1 fun id2 bx2 h2 hl2 hh2 ho2 e=>?_;obtain⟨h3,h4⟩:=iq.1 h2;have hp2:=(I.place id2 bx2 h4).2;rw[ho2] at hp2;simp only[if_true] at hp2;cases hown:bx.own with
   | false=>
    have:=hp.2;rw[hown] at this;simp at this;omega
   | true=>
    have:=I.inj id2 id bx2 bx h4 h ho2 hown e;subst this;rcases hk with hk | hk
    ·omega
    ·exact hh2 (hk hl2)
 have Ut:∀ id m,Con (marks asq ops) st bn (fun k=>l.getD k false=true) id m->(id < (st j).heap.length->mo.wr=true->id∈gj mo.bef (bn j)\/(mF mo=true/\id < (st 0).heap.length))->Con (marks asq ops) st bn (fun k=>(l.setIfInBounds j true).getD k false=true) id m:=by
  intro id m hc hk;refine⟨hc.1,hc.2.1,fun k ok hok hwr hlt hnh hown=>?_⟩;by_cases hkj:k=j
  ·subst hkj;rw[hmo] at hok;cases hok;rcases hk hlt hwr with h1 | ⟨h1,h2⟩
   ·exact absurd h1 hnh
   ·have:=hown h1;omega
  ·exact(hD k hkj).trans (hc.2.2 k ok hok hwr hlt hnh hown)
 refine⟨by simp[I.lsize],fun k x e hk hl he hb=>?_,by rw[size_put,I.size],by rw[iL,I.defers],S.bel,?_,fun id bx h=>?_,fun i k bi bk h1 h2 o1 o2 e=>?_,fun id bx h hl=>?_,fun id bx h=>by
   rcases bu id (st (j+1)).heap.length with h4 | h4
   ·rw[j6 h4] at h;exact S.zero id bx h
   ·rw[lA h4] at h;exact I.zero id bx h,fun id bx h=>?_,fun id bx h hh=>?_,?_,fun k x d hk hl hd=>?_,fun t h=>?_⟩
 ·by_cases hkj:k=j
  ·subst hkj;rw[ho] at hk;injection hk with hk;subst hk
   exact hup _ (hrd e he hb)
  ·exact hup _ (I.closed k x e hk ((hD k hkj).1 hl) he hb)
 ·-- the world's step
  refine⟨bh I.stp.size s.size,s.os.trans I.stp.os,s.tape.trans I.stp.tape,s.output.trans I.stp.output,fun k hk hx=>?_,I.stp.evo.trans sq,fun id bx bx' h h'=>?_,fun id bx' h=>?_⟩
  ·rw[s.frame k (bg hk I.stp.size) fun id bx h hl hh ho' e=>?_,I.stp.frame k hk hx];obtain⟨h1,h2⟩:=iq.1 h;have hl':(st 0).lock<=id:=bh DB hl;have hh':id∉(st 0).hid:=by rw[pJ,hst.2.1] at hh;exact fun hm=>hh (eZ _ hm)
   rcases I.stp.back id bx h2 with ⟨bx0,e1,e2,e3⟩ | ⟨_,_,e3,_⟩
   ·rcases e3 with e3 | e3
    ·exact hx id bx0 e1 hl' hh' (by rw[<- e2];exact ho') (by rw[<- e3];exact e)
    ·omega
   ·omega
  ·obtain⟨bx1,h1,h2⟩:=I.stp.evo.up id bx h;rcases I.stp.same id bx bx1 h h1 with h3 | h3
   ·subst h3;rcases bu id (st (j+1)).heap.length with h4 | h4
    ·rw[j6 h4] at h';rcases s.same id bx1 bx' (iq.2 ⟨hnone id bx1 h1 h4,h1⟩) h' with h5 | ⟨h5,h6⟩
     ·exact .inl h5
     ·right;refine⟨?_,?_⟩
      ·exact bh DB h5
      ·rw[pJ,hst.2.1] at h6;exact fun hm=>h6 (eZ _ hm)
    ·rw[lA h4,h1] at h';cases h';exact .inl rfl
   ·exact .inr h3
  ·have comp:∀ bx1,X id=some bx1->bx'.own=bx1.own->(bx'.b=bx1.b\/w.heap.size<=bx'.b)->(∃ bx,X0 id=some bx/\bx'.own=bx.own/\(bx'.b=bx.b\/wS.heap.size<=bx'.b))\/(X0 id=none/\bx'.own=true/\wS.heap.size<=bx'.b/\(st 0).heap.length<=id):=by
    intro bx1 h1 h2 h3;have hs:=I.stp.size;rcases I.stp.back id bx1 h1 with ⟨bx0,e1,e2,e3⟩ | ⟨e1,e2,e3,e4⟩
    ·refine .inl ⟨bx0,e1,h2.trans e2,?_⟩;rcases h3 with h3 | h3
     ·rcases e3 with e3 | e3
      ·exact .inl (h3.trans e3)
      ·right;omega
     ·right;omega
    ·refine .inr ⟨e1,h2.trans e2,?_,e4⟩;rcases h3 with h3 | h3<;>omega
   rcases bu id (st (j+1)).heap.length with h4 | h4
   ·rw[j6 h4] at h;rcases kq id bx' h with ⟨bx1,h1,_,h2,h3⟩ | ⟨h1,h2,h3,h5⟩
    ·exact comp bx1 h1 h2 h3
    ·refine .inr ⟨?_,h2,bh I.stp.size h3,om⟩;cases hx:X0 id with
     | none=>rfl
     | some bx0=>
      obtain⟨_,e,_⟩:=I.stp.evo.up id bx0 hx;rw[h1] at e;cases e
   ·rw[lA h4] at h;exact comp bx' h rfl (.inl rfl)
 ·-- places
  rcases bu id (st (j+1)).heap.length with h4 | h4
  ·rw[j6 h4] at h;exact S.place id bx h
  ·rw[lA h4] at h;have:=I.place id bx h;exact⟨bg this.1 s.size,this.2⟩
 ·-- one block,one place
  have mixed:∀ i k bi bk,i < (st (j+1)).heap.length->(st (j+1)).heap.length<=k->Y i=some bi->X k=some bk->bi.own=true->bk.own=true->bi.b=bk.b->False:=by
   intro i k bi bk hi hk h1 h2 o1 o2 e;have hp:=I.place k bk h2;rcases kq i bi h1 with ⟨bx1,e1,e2,e3,e4⟩ | ⟨_,_,e3,_⟩
   ·rcases e4 with e4 | e4
    ·have:=I.inj i k bx1 bk e1 h2 (by rw[<- e3];exact o1) o2 (by rw[<- e4];exact e);omega
    ·omega
   ·omega
  rcases bu i (st (j+1)).heap.length with h3 | h3<;>rcases bu k (st (j+1)).heap.length with h4 | h4
  ·rw[j6 h3] at h1;rw[j6 h4] at h2;exact S.inj i k bi bk h1 h2 o1 o2 e
  ·rw[j6 h3] at h1;rw[lA h4] at h2;exact(mixed i k bi bk h3 h4 h1 h2 o1 o2 e).elim
  ·rw[lA h3] at h1;rw[j6 h4] at h2;exact(mixed k i bk bi h4 h3 h2 h1 o2 o1 e.symm).elim
  ·rw[lA h3] at h1;rw[lA h4] at h2;exact I.inj i k bi bk h1 h2 o1 o2 e
 ·-- what may be written is the call's own
  rcases bu id (st (j+1)).heap.length with h4 | h4
  ·rw[j6 h4] at h;rcases kq id bx h with ⟨bx1,e1,e2,e3,e4⟩ | ⟨_,e2,_,_⟩
   ·rw[e3];exact I.lock id bx1 e1 hl
   ·exact e2
  ·rw[lA h4] at h;exact I.lock id bx h hl
 ·-- births
  have up:(id < (st 0).heap.length\/∃ i,i < ops.size/\l.getD i false=true/\(st i).heap.length<=id/\id < (st (i+1)).heap.length)->(id < (st 0).heap.length\/∃ i,i < ops.size/\(l.setIfInBounds j true).getD i false=true/\(st i).heap.length<=id/\id < (st (i+1)).heap.length):=by
   rintro(h1 | ⟨i,h1,h2,h3⟩)
   ·exact .inl h1
   ·exact .inr ⟨i,h1,hup i h2,h3⟩
  rcases bu id (st (j+1)).heap.length with h4 | h4
  ·rw[j6 h4] at h;rcases kq id bx h with ⟨bx1,e1,_⟩ | ⟨_,_,_,e4⟩
   ·exact up (I.OU id bx1 e1)
   ·exact .inr ⟨j,hj,iK,e4,h4⟩
  ·rw[lA h4] at h;exact up (I.OU id bx h)
 ·-- cells
  have old:∀ bx1,X id=some bx1->((st (j+1)).heap.length<=id\/((tau (st j) (bn j) mo).lock<=id->id∈(tau (st j) (bn j) mo).hid))->(id < (st j).heap.length->mo.wr=true->id∈gj mo.bef (bn j)\/(mF mo=true/\id < (st 0).heap.length))->∃ m,Con (marks asq ops) st bn (fun k=>(l.setIfInBounds j true).getD k false=true) id m /\
    (m=0\/∃ k o,m=k+1/\(l.setIfInBounds j true).getD k false=true/\(marks asq ops)[k]?=some o/\((st k).heap.length<=id\/(o.wr=true/\id∉gj o.bef (bn k)/\(mF o=true->(st 0).heap.length<=id))))/\pH (cut (st m).heap.length (glue (st (j+1)).heap.length Y X)) w' bx (st m).heap[id]?:=by
   intro bx1 h1 h2 h3;obtain⟨e1,e2⟩:=hkeep id bx1 h1 h2;rw[h] at e1;cases e1;obtain⟨m,c1,c2,c3⟩:=I.cell id bx h1 hh;refine⟨m,Ut id m c1 h3,?_,c3.mono (tV (av _) sq) e2⟩;rcases c2 with c2 | ⟨k,o,d1,d2,d3⟩
   ·exact .inl c2
   ·exact .inr ⟨k,o,d1,hup k d2,d3⟩
  have new:id < (st (j+1)).heap.length->id∉(tau (st j) (bn j) mo).hid->((st j).heap.length<=id\/(mo.wr=true/\id∉gj mo.bef (bn j)/\(mF mo=true->(st 0).heap.length<=id)))->Con (marks asq ops) st bn (fun k=>(l.setIfInBounds j true).getD k false=true) id (j+1)->∃ m,Con (marks asq ops) st bn (fun k=>(l.setIfInBounds j true).getD k false=true) id m /\
    (m=0\/∃ k o,m=k+1/\(l.setIfInBounds j true).getD k false=true/\(marks asq ops)[k]?=some o/\((st k).heap.length<=id\/(o.wr=true/\id∉gj o.bef (bn k)/\(mF o=true->(st 0).heap.length<=id))))/\pH (cut (st m).heap.length (glue (st (j+1)).heap.length Y X)) w' bx (st m).heap[id]?:=by intro h1 h2 h3 h4;refine⟨j+1,h4,.inr ⟨j,mo,rfl,iK,hmo,h3⟩,?_⟩;rw[j6 h1] at h;rw[<- hheap id (h3.imp_right fun h=>h.1)];exact(S.facts h (by rw[iJ];exact h2)).mono abD rfl
  rcases bu id (st (j+1)).heap.length with h4 | h4
  ·rcases bu id (st j).heap.length with h5 | h5
   ·have hold:∃ bx1,X id=some bx1:=by
     have h':=h;rw[j6 h4] at h';rcases kq id bx h' with ⟨bx1,e1,_⟩ | ⟨_,_,_,e4⟩
     ·exact⟨bx1,e1⟩
     ·omega
    obtain⟨bx1,hx1⟩:=hold;by_cases hwr:mo.wr=true
    ·by_cases hhd:id∈gj mo.bef (bn j)
     ·exact old bx1 hx1 (.inr fun _=>by rw[pJ];exact b7 _ hhd) (fun _ _=>.inl hhd)
     ·by_cases hob:mF mo=true/\id < (st 0).heap.length
      ·refine old bx1 hx1 (.inr fun h6=>?_) (fun _ _=>.inr hob);have:=C.T.I1 C.hcf.ast C.lk C.b0 (i:=j) (by rw[C.len];omega) hob.1;rw[sJ] at h6;omega
      have hoo:mF mo=true->(st 0).heap.length<=id:=fun e=>Nat.le_of_not_lt fun hlt=>hob ⟨e,hlt⟩;refine new h4 ?_ (.inr ⟨hwr,hhd,hoo⟩) ⟨by rw[C.len];omega,h4,fun k ok hk hwk hlt hnh hown=>?_⟩
      ·rw[pJ,hst.2.1,aP];rintro(h6 | h6)
       ·exact hhd h6
       ·exact hh h6
      ·by_cases hkj:k=j
       ·subst hkj;simp[iK]
       ·refine(hD k hkj).trans ?_;have hmem:mY mo.op=true:=by obtain⟨_,ao,_,_,_,rfl⟩:=C.inv hmo;have aeY:(mY ao.op&&(bound asq (kW ops.toList []) j||L3 asq (kW ops.toList []) j ao))=true:=hwr;simp only[au] at aeY;exact aeY.1
        have:=I.xB C ho hun hrd hmo hmem hk hwk hkj hlt hnh hown h5 hhd;constructor
        ·intro h6;have:=this.1 h6;omega
        ·intro h6;exact this.2 om
    ·refine old bx1 hx1 (.inr fun h6=>?_) (fun _ h6=>absurd h6 hwr);have hwf:mo.wr=false:=by simpa using hwr
     rw[sJ,hwf] at h6;simp only[jW,aO,if_false] at h6;omega
   ·refine new h4 ?_ (.inl h5) ⟨by rw[C.len];omega,h4,fun k ok hk hwk hlt hnh hown=>?_⟩
    ·rw[pJ,hst.2.1,aP];rintro(h6 | h6)
     ·have:=C.Ea om h6;omega
     ·exact hh h6
    ·have hks:k < ops.size:=by rw[<- C.len];exact(af.1 hk).1
     have hkj:j < k:=by
      rcases bu j k with h6 | h6
      ·exact h6
      ·have:=C.mono (i:=k) (k:=j) h6 om;omega
     refine(hD k om).trans ?_;constructor
     ·intro hdone;exfalso;obtain⟨ok',ao,e1,_,_,e3⟩:=C.inv hk;have DC:ok.bef.testBit j=true:=by
       cases hb:ok.bef.testBit j with
       | true=>rfl
       | false=>
        refine absurd (oO.2 ⟨j,(st j).heap.length,(st (j+1)).heap.length,?_,hb,h5,h4⟩) hnh;exact(C.T.vV C.b0 k (by rw[C.len];omega) _ _ _).2 ⟨hkj,rfl,rfl,om⟩
      rw[e3] at DC;have DC:=BH (by have:=C.len;simp[marked] at this;omega) DC;have:=(I.bits C e1 (fun e he hb=>I.closed k ok' e e1 hdone he hb) DC).1;rw[hun] at this;cases this
     ·intro h6;omega
  ·have h':=h;rw[lA h4] at h';exact old bx h' (.inl h4) (fun h5=>by omega)
 ·exact I.base.evo (tV (av _) sq)
 ·by_cases hkj:k=j
  ·subst hkj;rw[ho] at hk;injection hk with hk;subst hk
   rw[hd,gC.qa (oN d hd)];exact r.evo abD
  ·rw[gC.mA (C.stt.one j k o x d ho hk (Ne.symm hkj) hd)];exact(I.set k x d hk ((hD k hkj).1 hl) hd).evo (tV (av _) sq)
 ·have hne:o.dst≠some t:=fun hd=>by rw[h j o ho hd] at iK;cases iK
  rw[gC.mA hne];refine I.oM t fun k x hk hd=>?_;have:=h k x hk hd;by_cases hkj:k=j
  ·subst hkj;exact hun
  ·rwa [gC.mK false (Ne.symm hkj)] at this
theorem nL.acD(C:nL P w0 fz ops n asq st frm val ran bn)(hj:j<=ops.size)(mo:fB):(∀ t∈(tau (st j) (bn j) mo).hid,t < (tau (st j) (bn j) mo).heap.length)/\(tau (st j) (bn j) mo).lock<=(tau (st j) (bn j) mo).heap.length:=by
 have h1:=C.stay (i:=j) hj;have h2:=C.lk;refine⟨fun t ht=>?_,?_⟩
 ·rw[pJ,aP] at ht;rw[nG];rcases ht with ht | ht
  ·exact C.Ea hj ht
  ·rw[h1.2.1] at ht;exact bg (C.hd t ht) h1.2.2
 ·rw[nG,sJ];exact(lJ om).2
theorem zQ{X:Emb}{fr:Fr}{a:Act}{x:Operand}(hf:∀ t,x=.tmp t->∀ v,fr.get t=some v->fN X v (a.tmps.getD t undef))(hc:l8 x=true){v:Value}(hv:ev fr x=some v):fN X v (a.eval x):=by
 cases x with
 | tmp t=>exact hf t rfl v hv
 | const q=>simp only[AM.ev,ay] at hv;subst hv;exact BC hc
 | func f=>simp only[AM.ev,ay] at hv;subst hv;exact(gw rfl).2 rfl
 | global g=>simp[AM.ev] at hv
theorem u9{ops:Array Oper}{n:Nat}{o:Oper}{ao:fB}{X:Emb}{fr:Fr}{a:Act}{b:Bool}(hc:kV P ops n o=some ao)(hf:∀ t∈o.looksAt ops,∀ v,fr.get t=some v->fN X v (a.tmps.getD t undef))(h:want ao fr=some b):Region.wanted o (yielded ops a.tmps)=b:=by
 obtain⟨_,_,p,_,h2⟩:=rq hc;rcases h2 with ⟨hg,rfl⟩ | ⟨g,b',s,hg,hs,hao⟩
 ·simp only[want,ay] at h;simp[Region.wanted,hg,h]
 ·exact D7 hg hs hao (fun v hv=>hf s (by simp[Oper.looksAt,hg,hs]) v hv) h
theorem Ms{fz:fD}{r:Option Nat}(hcf:g9 P w0 qp fz){ops:Array Oper}{n id:Nat}{asq:List fB}(hm:P.follows .mixedOrders=true)(hst:D0 ops=true)(hc:jy P ops n ops.toList=some asq)
  {fr fr':Fr} {σ σ':St} (h:lK fz [] 0 (marked asq (kW ops.toList [])) fr σ=some (fr',σ')) {X:Emb} {a:Act} {w:World} (G:Good w0 lo n X σ fr a w) {Q:Exit->Act->World->Prop}
  (hQ:∀ a' w',Post w0 lo n X σ w fr' σ' a' w'->Q .normal a' w'):(Code.region id ops true).wpIn (gC.fw r) 0 P Q a w:=by
 obtain⟨st,frm,val,ran,bn,rfl,rfl,hb0,e4,e5,T⟩:=BD _ _ _ _ _ _ _ h;have C:nL P w0 fz ops n asq st frm val ran bn:=⟨hcf,BE hst,hc,T,hb0,G.lock,G.hid⟩;have hlen:=C.len;rw[aX,hlen] at e4 e5;have hz:∀ k,(Array.replicate ops.size false).getD k false=false:=fun k=>by by_cases hk:k < ops.size<;>simp[hk]
 refine wpIn_region_any hm (Us (Q:=Q) C.stt (fun j o ho=>by obtain⟨ao,_,hco,_⟩:=C.get ho;exact og (gy hco).1) (I:=fun l a1 w1=>∃ Y,uo w0 ops asq st frm val bn X a w l Y a1 w1) (fun l a w ⟨_,I⟩=>I.lsize) (fun l a1 w1 j o ⟨Y0,I⟩ ho hun hrd=>?_) (fun l a1 w1 ⟨Y0,I⟩ hall=>?_) ops.size _ a _ (by unfold gC.left;exact bh (fc _ _) (by simp)) ?_)
 ·-- a step
  obtain⟨ao,_,hco,hmo⟩:=C.get ho;obtain⟨c1,c2,c3,c4⟩:=gy hco;have hj:j < ops.size:=(bA.1 ho).1;have hfr:=fun t ht=>I.frame C ho hun hrd (t:=t) ht;obtain⟨z0,_,_,z2,_⟩:=C.T.zero j _ hmo;have hw:=u9 (ao:=ao) hco hfr z0;have oN:∀ d,o.dst=some d->d < a1.tmps.size:=fun d hd=>by rw[I.size];exact bg (c4 d hd) G.size
  rw[hw];have S:=I.Zk C ho hun hrd hmo;cases hr:ran j with
  | true=>
   simp only[if_true];obtain⟨τ',t1,t2,t3,t4⟩:=C.Zl hmo hr;obtain⟨hlt,hlk⟩:=C.acD (j:=j) om (m9 asq (kW ops.toList []) j ao);have hrun:=nK (P:=P) (a:=a1) (o:=o) hcf trivial c1 S hlt hlk (fun x hx v hv=>zQ (fun t e v' hv'=>hfr t (by subst e;exact b7 _ (dN.2 ⟨.tmp t,hx,rfl⟩)) v' hv') (c3 x hx) hv) t1
   exact gC.mq (fun u w' ⟨Y,r1,r2,r3⟩=>⟨_,I.next C ho hun hrd hmo oN t2 t3 t4 r1 r2 r3⟩) hrun
  | false=>
   obtain⟨z3,z4⟩:=z2 hr;simp only[aO,if_false];refine⟨_,I.next C ho hun hrd hmo oN (by rw[nG,z4]) rfl (fun id hid=>?_) (by rw[z3];exact pG) S (Stp.refl _ _ _)⟩;rw[z4];by_cases hmem:mY ao.op=true
   ·unfold tau;rw[if_pos (show mY (m9 asq (kW ops.toList []) j ao).op=true from hmem)];rfl
   ·have DB:(st j).heap.length<=id:=by
     rcases hid with h1 | h1
     ·exact h1
     ·have h2:(mY ao.op&&(bound asq (kW ops.toList []) j||L3 asq (kW ops.toList []) j ao))=true:=h1;simp only[au] at h2;exact absurd h2.1 hmem
    rw[aQ (by rw[nG];exact DB),aQ DB]
 ·-- the end
  have Ec:=C.stay (i:=ops.size) (av _);have hdom:∀ id bx,Y0 id=some bx->id < (st ops.size).heap.length:=fun id bx h=>by
   rcases I.OU id bx h with h1 | ⟨i,h1,_,_,h4⟩
   ·exact bg h1 Ec.2.2
   ·exact bg h4 (C.mono h1 (av _))
  have hlk:=C.lk;rw[<- e4,<- e5] at hQ;have hF:∀ id bx,Y0 id=some bx->id∉(st ops.size).hid->pH Y0 w1 bx (st ops.size).heap[id]?:=fun id bx h hh=>by
   rw[Ec.2.1] at hh;obtain⟨m,Ut,_,hf⟩:=I.cell id bx h hh;have Uu:Con (marks asq ops) st bn (fun k=>l.getD k false=true) id ops.size:=⟨by rw[hlen];exact av _,hdom id bx h,fun k ok hk _ _ _ _=>by
    have hks:k < ops.size:=by rw[<- hlen];exact(af.1 hk).1
    exact⟨fun _=>hks,fun _=>hall k hks⟩⟩
   rw[Ut.same C.hcf.ast C.T C.lk C.b0 Uu] at hf;exact hf.mono FZ rfl
  refine hQ a1 w1 ⟨Y0,⟨⟨I.bel,hdom,I.place,fun id bx g pl cs h hh hb=>(hF id bx h hh).cell g pl cs hb,I.inj,fun id bx h hl=>I.lock id bx h (by rw[<- Ec.1];exact hl),I.zero,fun id bx es h hh hb=>(hF id bx h hh).j4 es hb⟩,fun t v hv=>?_,by rw[I.size];exact G.size,(by rw[I.defers];exact G.defers.step I.stp),fun t ht=>?_,by rw[Ec.1];omega⟩,I.stp⟩
  ·have oN:∀ (k:Nat) (m:fB),(marks asq ops)[k]?=some m->∃ o',ops[k]?=some o'/\m.dst=o'.dst:=fun k m hk=>by obtain⟨o',ao,e1,_,e3,rfl⟩:=C.inv hk;exact⟨o',e1,(gy e3).2.1⟩
   by_cases hw:∃ (k:Nat) (o':Oper),ops[k]?=some o'/\o'.dst=some t
   ·obtain⟨k,o',hk,hd⟩:=hw;have hkl:k < ops.size:=(bA.1 hk).1;obtain⟨ao,_,e2,e3⟩:=C.get hk;rw[C.T.get_at e3 (t:=t) (by rw[<- hd];exact(gy e2).2.1) (fun i m hi hne=>by obtain⟨x,f1,f2⟩:=oN i m hi;rw[f2];exact C.stt.one i k x o' t f1 hk hne hd) ops.size hkl (by rw[hlen];exact av _)] at hv
    cases hv;exact(I.set k o' t hk (hall k hkl) hd).evo FZ
   ·rw[C.T.ru ops.size (by rw[hlen];exact av _) (fun k m _ hm hd=>by obtain⟨o',f1,f2⟩:=oN k m hm;exact hw ⟨k,o',f1,by rw[<- f2];exact hd⟩)] at hv
    have h1:=(I.base t v hv).evo (FZ (X:=Y0));have h2:=I.oM t fun k x hk hd=>absurd ⟨k,x,hk,hd⟩ hw;show fN _ v (gC.slot a1 t);rw[h2];exact h1
  ·rw[Ec.2.1] at ht;exact bg (C.hd t ht) Ec.2.2
 ·-- the start
  have S:=G.sim;refine⟨X,by simp,fun k o e _ hk=>?_,rfl,rfl,⟨S.bel.os,S.bel.tape,S.bel.output,S.bel.size,S.bel.block⟩,?_,S.place,S.inj,S.lock,S.zero,fun id bx h=>.inl (S.dom id bx h),fun id bx h hh=>⟨0,⟨cm _,S.dom id bx h,fun k ok _ _ _ _ _=>?_⟩,.inl rfl,?_⟩,fun t v hv=>?_,fun k o d _ hk=>?_,fun _ _=>rfl⟩
  ·rw[hz] at hk;cases hk
  ·exact⟨av _,rfl,rfl,rfl,fun _ _ _=>rfl,Evo.refl X,fun id bx bx' h h'=>(by rw[h] at h';cases h';exact .inl rfl),fun id bx' h=>.inl ⟨bx',h,rfl,.inl rfl⟩⟩
  ·simp only[hz];simp
  ·refine(S.facts h hh).mono (Evo.mk' rfl fun id bx h=>⟨bx,iq.2 ⟨S.dom id bx h,h⟩,.inl rfl⟩) rfl
  ·exact(G.fr t v hv).evo<|Evo.mk' rfl fun id bx h=>⟨bx,iq.2 ⟨S.dom id bx h,h⟩,.inl rfl⟩
  ·rw[hz] at hk;cases hk
end
end AM
namespace AM
open Go Go.RowKit
theorem Sim.acE{w0:World}{X:Emb}{σ:St}{w:World}(S:Sim w0 X σ w)(d:List Nat):Sim w0 X { σ with fA:=d } w:=⟨S.bel,S.dom,S.place,S.cell,S.inj,S.lock,S.zero,S.j4⟩
theorem Ed{σ τ:St}{a:Addr}(h1:τ.hid=σ.hid)(h2:τ.heap[a.block]?=σ.heap[a.block]?):τ.blk a=σ.blk a:=by unfold St.blk;rw[h1,h2]
theorem I3{σ σ':St}{a:Addr}{vs:List Value}(h:σ.write a vs=some σ'):σ'.lock=σ.lock/\σ'.hid=σ.hid/\σ'.heap.length=σ.heap.length/\(∀ id,id≠a.block->σ'.heap[id]?=σ.heap[id]?) /\
  ∀ τ:St,τ.lock=σ.lock->τ.hid=σ.hid->τ.heap[a.block]?=σ.heap[a.block]?->∃ τ',τ.write a vs=some τ'/\τ'.heap[a.block]?=σ'.heap[a.block]?:=by
 unfold St.write at h;split at h
 ·cases h
 ·rename_i hl;simp only[aa] at h;obtain⟨⟨pl,cs⟩,hb,h⟩:=h;split at h
  ·rename_i hc;split at h
   ·rename_i g p2 c2 hg;cases h;refine⟨rfl,rfl,by simp,fun id hne=>?_,fun τ t1 t2 t3=>?_⟩
    ·simp only[];rw[cr,if_neg (fun e=>hne e.symm)]
    ·unfold St.write;rw[t1,if_neg hl,Ed t2 t3,hb];simp only[ak];rw[if_pos hc,t3,hg];refine⟨_,rfl,?_⟩;have l1:a.block < σ.heap.length:=(af.1 hg).1;have l2:a.block < τ.heap.length:=(af.1 (t3.trans hg)).1;simp only[];rw[aD l1,aD l2]
   ·cases h
  ·cases h
theorem Mt{o:AOp}(hp:kI o=true)(fr:Fr):∀ τ:St,aop iQ o fr τ=(gD o fr).map fun v=>(v,τ):=fun τ=>by
 cases o<;>first
  | rfl
  | (simp[kI] at hp;done)
theorem Uv{o:AOp}{fr:Fr}{tg:List (Bool×Nat)}(ht:tgt fr o=some tg):(kI o=true/\tg=[])\/(∃ n x,o=.load n x)\/∃ n x y,o=.store n x y:=by
 cases o<;>first
  | exact .inr (.inl ⟨_,_,rfl⟩)
  | exact .inr (.inr ⟨_,_,_,rfl⟩)
  | (
    simp only[tgt] at ht;split at ht
    ·rename_i hf;simp only[ay] at ht;exact .inl ⟨hf,ht.symm⟩
    ·cases ht)
theorem xC{o:AOp}{fr:Fr}{σ σ':St}{v:Value}{tg:List (Bool×Nat)}(ht:tgt fr o=some tg)(h:aop iQ o fr σ=some (v,σ')) :
  σ'.lock=σ.lock/\σ'.hid=σ.hid/\σ'.heap.length=σ.heap.length/\(∀ id,(true,id)∉tg->σ'.heap[id]?=σ.heap[id]?) /\
  ∀ τ:St,τ.lock=σ.lock->τ.hid=σ.hid->(∀ p∈tg,τ.heap[p.2]?=σ.heap[p.2]?)->∃ τ',aop iQ o fr τ=some (v,τ')/\∀ id,(true,id)∈tg->τ'.heap[id]?=σ'.heap[id]?:=by
 rcases Uv ht with ⟨hf,rfl⟩ | ⟨n,x,rfl⟩ | ⟨n,x,y,rfl⟩
 ·have hp:=Mt hf fr;rw[hp,aj] at h;obtain⟨u,hu,h⟩:=h;cases h;exact⟨rfl,rfl,rfl,fun _ _=>rfl,fun τ _ _ _=>⟨τ,by rw[hp,hu];rfl,fun id hid=>by cases hid⟩⟩
 ·simp only[tgt] at ht;split at ht
  ·rename_i a ha;cases ht;simp only[aop,ha,aa,aj] at h ⊢;obtain⟨⟨pl,cs⟩,hb,u,hu,h⟩:=h;cases h;refine⟨rfl,rfl,rfl,fun _ _=>rfl,fun τ t1 t2 t3=>⟨τ,⟨_,by rw[Ed t2 (t3 (false,a.block) (by simp))];exact hb,_,hu,rfl⟩,fun id hid=>?_⟩⟩;simp at hid
  ·cases ht
 ·simp only[tgt] at ht;split at ht
  ·rename_i a ha;cases ht;simp only[aop,ha,aa] at h ⊢;obtain⟨u,hu,h⟩:=h;split at h
   ·rename_i hn;simp only[aj] at h;obtain⟨σ1,hw,h⟩:=h;cases h;obtain⟨w1,w2,w3,w4,w5⟩:=I3 hw;refine⟨w1,w2,w3,fun id hid=>w4 id fun e=>hid (by simp[e]),fun τ t1 t2 t3=>?_⟩;obtain⟨τ',k1,k2⟩:=w5 τ t1 t2 (t3 (true,a.block) (by simp));refine⟨τ',⟨u,hu,by rw[if_pos hn,k1];rfl⟩,fun id hid=>?_⟩;simp at hid;subst hid;exact k2
   ·cases h
  ·cases ht
structure MTr(fz:fD)(m:Bool)(B:List Nat)(l:List fB)(seen:List (Bool×Nat))(st:Nat->St)(frm:Nat->Fr)(val:Nat->Value)(tg:Nat->List (Bool×Nat))(ran:Nat->Bool):Prop where
 want:∀ (i:Nat) (o:fB),l[i]?=some o->AM.want o (frm i)=some (ran i)
 free:∀ (i:Nat) (o:fB),l[i]?=some o->ran i=true->o.wr=false->AM.tgt (frm i) o.op=some (tg i)/\(m=true->∀ p∈tg i,p.2∈B)/\aop iQ o.op (frm i) (st i)=some (val i,st (i+1))
 uk:∀ (i:Nat) (o:fB),l[i]?=some o->ran i=true->o.wr=true->m=true/\∃ s',aop fz o.op (frm i) { st i with hid:=B++(st i).hid } = some (val i,s')/\st (i+1) = { s' with hid:=(st i).hid }
 skip:∀ (i:Nat) (o:fB),l[i]?=some o->ran i=false->val i=gB/\st (i+1)=st i
 none_:∀ (i:Nat) (o:fB),l[i]?=some o->ran i=false\/o.wr=true->tg i=[]
 frame:∀ (i:Nat) (o:fB),l[i]?=some o->frm (i+1)=(frm i).put o.dst (val i)
 seen:∀ (i:Nat),i < l.length->∀ p∈tg i,∀ q∈seen,p.1=true\/q.1=true->p.2≠q.2
 apart:∀ (i k:Nat),i < l.length->k < i->∀ p∈tg i,∀ q∈tg k,p.1=true\/q.1=true->p.2≠q.2
def yE{α:Type}(x:α)(f:Nat->α):Nat->α
 | 0=>x
 | i+1=>f i
theorem Uw{tg seen:List (Bool×Nat)}(h:apart tg seen=true):∀ p∈tg,∀ q∈seen,p.1=true\/q.1=true->p.2≠q.2:=fun p hp q hq hpq=>by
 unfold AM.apart at h;rw[aF] at h;have h1:=h p hp;rw[aF] at h1;have h2:=h1 q hq;simp only[bF,au,bU,bne_iff_ne] at h2;rcases h2 with ⟨h3,h4⟩ | h2
 ·rcases hpq with e | e<;>simp_all
 ·exact h2
theorem MTr.cons{fz:fD}{m:Bool}{B:List Nat}{o:fB}{l:List fB}{seen:List (Bool×Nat)}{st:Nat->St}{frm:Nat->Fr}{val:Nat->Value}{tg:Nat->List (Bool×Nat)}{ran:Nat->Bool}{fr:Fr}{σ:St}{v:Value}{b:Bool}{tg0:List (Bool×Nat)}
  (T:MTr fz m B l (tg0++seen) st frm val tg ran) (hw:AM.want o fr=some b)
  (hf:b=true->o.wr=false->AM.tgt fr o.op=some tg0/\(m=true->∀ p∈tg0,p.2∈B)/\aop iQ o.op fr σ=some (v,st 0))
  (hd:b=true->o.wr=true->m=true/\∃ s',aop fz o.op fr { σ with hid:=B++σ.hid } = some (v,s')/\st 0 = { s' with hid:=σ.hid })
  (hs:b=false->v=gB/\st 0=σ) (hn:b=false\/o.wr=true->tg0=[]) (he:frm 0=fr.put o.dst v)
  (ha:∀ p∈tg0,∀ q∈seen,p.1=true\/q.1=true->p.2≠q.2):MTr fz m B (o::l) seen (yE σ st) (yE fr frm) (yE v val) (yE tg0 tg) (yE b ran) where
 want:=fun i o' ho=>by
  cases i with
  | zero=>simp at ho;subst ho;exact hw
  | succ i=>exact T.want i o' (by simpa using ho)
 free:=fun i o' ho=>by
  cases i with
  | zero=>simp at ho;subst ho;exact hf
  | succ i=>exact T.free i o' (by simpa using ho)
 uk:=fun i o' ho=>by
  cases i with
  | zero=>simp at ho;subst ho;exact hd
  | succ i=>exact T.uk i o' (by simpa using ho)
 skip:=fun i o' ho=>by
  cases i with
  | zero=>simp at ho;subst ho;exact hs
  | succ i=>exact T.skip i o' (by simpa using ho)
 none_:=fun i o' ho=>by
  cases i with
  | zero=>simp at ho;subst ho;exact hn
  | succ i=>exact T.none_ i o' (by simpa using ho)
 frame:=fun i o' ho=>by
  cases i with
  | zero=>simp at ho;subst ho;exact he
  | succ i=>exact T.frame i o' (by simpa using ho)
 seen:=fun i hi p hp q hq=>by
  cases i with
  | zero=>exact ha p hp q hq
  | succ i=>exact T.seen i (by simpa using hi) p hp q (eZ _ hq)
 apart:=fun i k hi hk p hp q hq=>by
  cases i with
  | zero=>omega
  | succ i=>
   cases k with
   | zero=>exact T.seen i (by simpa using hi) p hp q (b7 _ hq)
   | succ k=>exact T.apart i k (by simpa using hi) om p hp q hq
theorem ry{fz:fD}{m:Bool}{B:List Nat} : ∀ (l:List fB) (seen:List (Bool×Nat)) (fr:Fr) (σ:St) (fr':Fr) (σ':St),j3 fz m B seen l fr σ=some (fr',σ') ->
  ∃ (st:Nat->St) (frm:Nat->Fr) (val:Nat->Value) (tg:Nat->List (Bool×Nat)) (ran:Nat->Bool),st 0=σ/\frm 0=fr/\st l.length=σ'/\frm l.length=fr'/\MTr fz m B l seen st frm val tg ran
 | [],seen,fr,σ,fr',σ',h=>by
  simp only[j3,ay,bT] at h;refine⟨fun _=>σ,fun _=>fr,fun _=>gB,fun _=>[],fun _=>true,rfl,rfl,h.2,h.1,⟨?_,?_,?_,?_,?_,?_,?_,?_⟩⟩;all_goals (first | (intro i o ho;simp at ho;done) | (intro i hi;simp at hi;done) | (intro i k hi;simp at hi;done))
 | o::l,seen,fr,σ,fr',σ',h=>by
  simp only[j3,aa] at h;obtain⟨b,hw,h⟩:=h;cases b with
  | false=>
   simp only[aO,if_false] at h;obtain⟨st,frm,val,tg,ran,e1,e2,e3,e4,T⟩:=ry l _ _ _ _ _ h;exact⟨_,_,_,_,_,rfl,rfl,e3,e4,MTr.cons (tg0:=[]) (v:=gB) T hw (fun h=>by cases h) (fun h=>by cases h) (fun _=>⟨rfl,e1⟩) (fun _=>rfl) e2 (fun p hp=>by cases hp)⟩
  | true=>
   simp only[if_true] at h;split at h
   ·rename_i hwr;split at h
    ·rename_i hm;simp only[aa] at h;obtain⟨⟨v,σ1⟩,h1,h2⟩:=h;obtain⟨st,frm,val,tg,ran,e1,e2,e3,e4,T⟩:=ry l _ _ _ _ _ h2;exact⟨_,_,_,_,_,rfl,rfl,e3,e4,MTr.cons (tg0:=[]) (v:=v) T hw (fun _ h=>by rw[hwr] at h;cases h) (fun _ _=>⟨hm,_,h1,e1⟩) (fun h=>by cases h) (fun _=>rfl) e2 (fun p hp=>by cases hp)⟩
    ·cases h
   ·rename_i hwr;simp only[aa] at h;obtain⟨tg0,ht,h⟩:=h;split at h
    ·rename_i ha;simp only[aa] at h;obtain⟨⟨v,σ1⟩,h1,h2⟩:=h;obtain⟨st,frm,val,tg,ran,e1,e2,e3,e4,T⟩:=ry l _ _ _ _ _ h2;simp only[au,bF,bU,aF] at ha;refine⟨_,_,_,_,_,rfl,rfl,e3,e4,MTr.cons (tg0:=tg0) (v:=v) T hw (fun _ _=>⟨ht,fun hm p hp=>?_,by rw[e1];exact h1⟩) (fun _ h=>absurd h hwr) (fun h=>by cases h) (fun h=>?_) e2 (Uw ha.1)⟩
     ·rcases ha.2 with h3 | h3
      ·rw[hm] at h3;cases h3
      ·simpa using h3 p hp
     ·rcases h with h | h
      ·cases h
      ·exact absurd h hwr
    ·cases h
section
variable{fz:fD}{m:Bool}{B:List Nat}{l:List fB}{seen:List (Bool×Nat)}{st:Nat->St}{frm:Nat->Fr}{val:Nat->Value}{tg:Nat->List (Bool×Nat)}{ran:Nat->Bool}
def InB(m:Bool)(B:List Nat)(id:Nat):Prop:=m=true->id∈B
theorem MTr.step(hcf:gK fz)(T:MTr fz m B l seen st frm val tg ran){i:Nat}{o:fB}(ho:l[i]?=some o)(hl:(st i).lock<=(st i).heap.length) :
  (st (i+1)).lock=(st i).lock/\(st (i+1)).hid=(st i).hid/\(st i).heap.length<=(st (i+1)).heap.length/\(o.wr=false->(st (i+1)).heap.length=(st i).heap.length) /\
  (∀ id,id < (st i).heap.length->InB m B id->(true,id)∉tg i->(st (i+1)).heap[id]?=(st i).heap[id]?)/\(o.wr=false->∀ id,(true,id)∉tg i->(st (i+1)).heap[id]?=(st i).heap[id]?)/\(m=false->(st (i+1)).heap.length=(st i).heap.length):=by
 cases hr:ran i with
 | false=>
  rw[(T.skip i o ho hr).2];exact⟨rfl,rfl,av _,fun _=>rfl,fun _ _ _ _=>rfl,fun _ _ _=>rfl,fun _=>rfl⟩
 | true=>
  cases hw:o.wr with
  | false=>
   obtain⟨h1,h2,h3⟩:=T.free i o ho hr hw;obtain⟨k1,k2,k3,k4,_⟩:=xC h1 h3;exact⟨k1,k2,om,fun _=>k3,fun id _ _ hid=>k4 id hid,fun _ id hid=>k4 id hid,fun _=>k3⟩
  | true=>
   obtain⟨hm,s',h1,h2⟩:=T.uk i o ho hr hw;have a:=lu hcf (σ:={ st i with hid:=B++(st i).hid }) hl h1;rw[h2];refine⟨a.lock,rfl,a.len,fun h=>(by cases h),fun id hlt hib _=>a.fix id hlt (.inr ?_),fun h=>(by cases h),fun h=>(by rw[hm] at h;cases h)⟩;exact b7 _ (hib hm)
theorem MTr.loc(hcf:gK fz)(T:MTr fz m B l seen st frm val tg ran)(hl:(st 0).lock<=(st 0).heap.length):∀ i,i<=l.length->(st i).lock=(st 0).lock/\(st i).hid=(st 0).hid/\(st 0).heap.length<=(st i).heap.length/\(m=false->(st i).heap.length=(st 0).heap.length)
 | 0,_=>⟨rfl,rfl,av _,fun _=>rfl⟩
 | i+1,hi=>by have ho:l[i]?=some (l[i]'(by omega)):=aq _;obtain⟨h1,h2,h3,h4⟩:=MTr.loc hcf T hl i om;obtain⟨k1,k2,k3,_,_,_,k4⟩:=T.step hcf ho om;exact⟨k1.trans h1,k2.trans h2,om,fun hm=>(k4 hm).trans (h4 hm)⟩
theorem MTr.keep(hcf:gK fz)(T:MTr fz m B l seen st frm val tg ran)(hl:(st 0).lock<=(st 0).heap.length){id:Nat}(hib:InB m B id)(hlt:id < (st 0).heap.length):∀ i,i<=l.length->(∀ k,k < i->(true,id)∉tg k)->(st i).heap[id]?=(st 0).heap[id]?
 | 0,_,_=>rfl
 | i+1,hi,h=>by have ho:l[i]?=some (l[i]'(by omega)):=aq _;obtain⟨h1,h2,h3,_⟩:=T.loc hcf hl i om;obtain⟨_,_,_,_,k5,_⟩:=T.step hcf ho om;rw[k5 id om hib (h i om),MTr.keep hcf T hl hib hlt i om fun k hk=>h k om]
theorem MTr.done(hcf:gK fz)(T:MTr fz m B l seen st frm val tg ran)(hl:(st 0).lock<=(st 0).heap.length){id k:Nat}(hib:InB m B id)(hlt:id < (st 0).heap.length)(hm:(true,id)∈tg k):∀ i,k < i->i<=l.length->(st i).heap[id]?=(st (k+1)).heap[id]?
 | 0,h,_=>by omega
 | i+1,hk,hi=>by
  by_cases e:i=k
  ·subst e;rfl
  ·have ho:l[i]?=some (l[i]'(by omega)):=aq _;obtain⟨h1,h2,h3,_⟩:=T.loc hcf hl i om;obtain⟨_,_,_,_,k5,_⟩:=T.step hcf ho om;rw[k5 id om hib (fun hi2=>T.apart i k om om _ hi2 _ hm (.inl rfl) rfl),MTr.done hcf T hl hib hlt hm i om om]
theorem MTr.calm(hcf:gK fz)(T:MTr fz m B l seen st frm val tg ran)(hl:(st 0).lock<=(st 0).heap.length){p:Nat} : ∀ d,p+d<=l.length->(∀ k o,p<=k->k < p+d->l[k]?=some o->o.wr=false)->(st (p+d)).heap.length=(st p).heap.length/\∀ id,¬ InB m B id->(st (p+d)).heap[id]?=(st p).heap[id]?
 | 0,_,_=>⟨rfl,fun _ _=>rfl⟩
 | d+1,hi,h=>by
  have ho:l[p+d]?=some (l[p+d]'(by omega)):=aq _;obtain⟨h1,h2⟩:=MTr.calm hcf T hl d om fun k o h1 h2=>h k o h1 om;obtain⟨l1,l2,l3,_⟩:=T.loc hcf hl (p+d) om;have hw:=h (p+d) _ om om ho;obtain⟨_,_,_,k4,_,k6,_⟩:=T.step hcf ho om;refine⟨(k4 hw).trans h1,fun id hid=>?_⟩;rw[show p+(d+1)=p+d+1 by omega,k6 hw id (fun hm2=>hid fun hm=>?_),h2 id hid];cases hr:ran (p+d) with
  | false=>rw[T.none_ _ _ ho (.inl hr)] at hm2;cases hm2
  | true=>exact(T.free _ _ ho hr hw).2.1 hm _ hm2
theorem MTr.ru(T:MTr fz m B l seen st frm val tg ran){t:Nat} : ∀ j,j<=l.length->(∀ k o,k < j->l[k]?=some o->o.dst≠some t)->(frm j).get t=(frm 0).get t
 | 0,_,_=>rfl
 | j+1,hj,h=>by
  have ho:l[j]?=some (l[j]'(by omega)):=aq _;rw[T.frame j _ ho,<- MTr.ru T j om fun k o hk=>h k o om];have hne:=h j _ om ho;unfold Fr.put;split
  ·rename_i d hd;have:¬ d=t:=fun e=>hne (by rw[hd,e]);simp[Fr.get,this]
  ·rfl
theorem MTr.get_at(T:MTr fz m B l seen st frm val tg ran){t k:Nat}{o:fB}(hk:l[k]?=some o)(hd:o.dst=some t)(hu:∀ i o',l[i]?=some o'->i≠k->o'.dst≠some t):∀ j,k < j->j<=l.length->(frm j).get t=some (val k)
 | 0,h,_=>by omega
 | j+1,hkj,hj=>by
  have ho:l[j]?=some (l[j]'(by omega)):=aq _;rw[T.frame j _ ho];by_cases hjk:j=k
  ·subst hjk;rw[ho] at hk;cases hk;rw[hd];simp[Fr.put,Fr.get]
  ·rw[<- MTr.get_at T hk hd hu j om om];have hne:=hu j _ ho hjk;unfold Fr.put;split
   ·rename_i d hd';have:¬ d=t:=fun e=>hne (by rw[hd',e]);simp[Fr.get,this]
   ·rfl
end
section
variable{P:Program}{w0:World}{lo:Nat}
theorem tW:g9 P w0 qp iQ:=⟨uU,pF,fun g args σ v σ' h=>by simp[iQ] at h⟩
theorem BI{n:Nat}{X:Emb}{σ:St}{fr:Fr}{a:Act}{w:World}(G:Good w0 lo n X σ fr a w):∀ {xs B:List Nat},boxes fr xs=some B->∀ id∈B,id < σ.heap.length
 | [],B,h,id,hid=>by simp only[boxes,ay] at h;subst h;cases hid
 | x::xs,B,h,id,hid=>by
  simp only[boxes] at h;split at h
  ·rename_i p hp;simp only[aj] at h;obtain⟨B',hB',rfl⟩:=h;rcases aJ.1 hid with rfl | h1
   ·obtain⟨ra,_,hra⟩:=kY (G.fr x _ hp);obtain⟨bx,hbx,_⟩:=hra;exact G.sim.dom _ bx hbx
   ·exact BI G hB' id h1
  ·rename_i p n e hp;simp only[aj] at h;obtain⟨B',hB',rfl⟩:=h;rcases aJ.1 hid with rfl | h1
   ·obtain⟨ra,c,_,_,_,bx,hbx,_⟩:=(G.fr x _ hp:fN X (.slice (some p) n e) _);exact G.sim.dom _ bx hbx
   ·exact BI G hB' id h1
  ·cases h
theorem jX{asq:List fB}{j:Nat}{ao:fB}(h:asq[j]?=some ao):(qS asq)[j]?=some { ao with bef:=0,wr:=isM asq ao }:=by simp[qS,h]
theorem Rp{asq:List fB}{bs:List Nat}(h:acp asq bs=true){i j:Nat}{a b:fB}(hi:asq[i]?=some a)(hj:asq[j]?=some b)(hij:i≠j)(ha:isM asq a=true)(hb:isM asq b=true):(bs.getD j 0).testBit i=true\/(bs.getD i 0).testBit j=true:=by
 unfold acp at h;rw[au] at h;have h:=h.2;unfold T2 at h;rw[aF] at h;have h:=h i (cj.2 (af.1 hi).1);rw[aF] at h;have h:=h j (cj.2 (af.1 hj).1);have hn:(i==j)=false:=by simpa using hij
 rw[hn,hi,hj] at h;simpa[ha,hb] using h
theorem Sim.BJ{X:Emb}{σ τ:St}{w:World}(S:Sim w0 X σ w)(hl:τ.lock=σ.lock)(hlen:σ.heap.length=τ.heap.length)(hc:∀ id,id∉τ.hid->id∉σ.hid/\τ.heap[id]?=σ.heap[id]?):Sim w0 X τ w:=
 ⟨S.bel,fun id bx h=>by rw[<- hlen];exact S.dom id bx h,S.place,fun id bx g pl cs h hh hb=>by
  obtain⟨h1,h2⟩:=hc id hh;exact S.cell id bx g pl cs h h1 (by rw[<- h2];exact hb),S.inj,fun id bx h hk=>S.lock id bx h (by rw[<- hl];exact hk),S.zero,fun id bx es h hh hb=>by obtain⟨h1,h2⟩:=hc id hh;exact S.j4 id bx es h h1 (by rw[<- h2];exact hb)⟩
theorem Stp.wide{X Y:Emb}{σ τ:St}{w w':World}(s:Stp X σ w Y w')(hl:τ.lock=σ.lock)(hlen:τ.heap.length=σ.heap.length)(hh:∀ id,id∈τ.hid->id∈σ.hid):Stp X τ w Y w' where
 size:=s.size
 os:=s.os
 tape:=s.tape
 output:=s.output
 frame:=fun k hk h=>s.frame k hk fun id bx hx h1 h2 ho=>h id bx hx (by rw[hl];exact h1) (fun h3=>h2 (hh id h3)) ho
 evo:=s.evo
 same:=fun id bx bx' h h'=>by
  rcases s.same id bx bx' h h' with h1 | ⟨h1,h2⟩
  ·exact .inl h1
  ·exact .inr ⟨by rw[hl];exact h1,fun h3=>h2 (hh id h3)⟩
 back:=fun id bx' h=>by
  rcases s.back id bx' h with h1 | ⟨h1,h2,h3,h4⟩
  ·exact .inl h1
  ·exact .inr ⟨h1,h2,h3,by rw[hlen];exact h4⟩
def va(B:List Nat)(a b:List Blk):List Blk:=b.mapIdx fun i x=>if B.contains i then a.getD i x else x
theorem yF(B:List Nat)(a b:List Blk):(va B a b).length=b.length:=by simp[va]
theorem Zm{B:List Nat}{a b:List Blk}{i:Nat}(h:i∈B)(ha:i < a.length)(hb:i < b.length):(va B a b)[i]?=a[i]?:=by
 have hc:B.contains i=true:=by simpa using h
 unfold va;rw[List.getElem?_mapIdx,aq hb,bq,hc,if_pos rfl,aE,aq ha];rfl
theorem I4{B:List Nat}{a b:List Blk}{i:Nat}(h:i∉B):(va B a b)[i]?=b[i]?:=by
 have hc:B.contains i=false:=by simpa using h
 unfold va;rw[List.getElem?_mapIdx,hc];simp
structure ahr(w0:World)(m:Bool)(B:List Nat)(ops:Array Oper)(asq:List fB)(st:Nat->St)(frm:Nat->Fr)(val:Nat->Value)(tg:Nat->List (Bool×Nat))(X0:Emb)(a0:Act)(wS:World)(l:Array Bool)(Y:Emb)(a:Act)(w:World)(τ:St)(p:Nat):Prop where
 lsize:l.size=ops.size
 closed:∀ (k:Nat) (o:Oper) (e:Edge),ops[k]?=some o->l.getD k false=true->e∈o.after->Region.binds .any e=true->l.getD e.on false=true
 size:a.tmps.size=a0.tmps.size
 defers:a.defers=a0.defers
 stp:Stp X0 (st 0) wS Y w
 lock:τ.lock=(st 0).lock
 hid:τ.hid=(st 0).hid
 sim:Sim w0 Y τ w
 ple:p<=ops.size
 pos:∀ (k:Nat) (o:fB),asq[k]?=some o->isM asq o=true->(l.getD k false=true↔k < p)
 len:τ.heap.length=(st p).heap.length
 BJ:∀ id,¬ InB m B id->τ.heap[id]?=(st p).heap[id]?
 keep:∀ id,InB m B id->id < (st 0).heap.length->(∀ k,k < ops.size->l.getD k false=true->(true,id)∉tg k)->τ.heap[id]?=(st 0).heap[id]?
 done:∀ k id,InB m B id->id < (st 0).heap.length->k < ops.size->l.getD k false=true->(true,id)∈tg k->τ.heap[id]?=(st (k+1)).heap[id]?
 base:FrR Y (frm 0) a0
 set:∀ (k:Nat) (o:Oper) (d:Nat),ops[k]?=some o->l.getD k false=true->o.dst=some d->fN Y (val k) (gC.slot a d)
 oM:∀ (t:Nat),(∀ (k:Nat) (o:Oper),ops[k]?=some o->o.dst=some t->l.getD k false=false)->gC.slot a t=gC.slot a0 t
theorem Mu{fz:fD}{r:Option Nat}(hcf:g9 P w0 qp fz){m:Bool}{B:List Nat}{ops:Array Oper}{n id:Nat}{asq:List fB}(hm:P.follows .mixedOrders=true)(hst:D0 ops=true)
  (hbd:∀ {i j:Nat} {a b:fB},asq[i]?=some a->asq[j]?=some b->i≠j->isM asq a=true->isM asq b=true->((kW ops.toList []).getD j 0).testBit i=true\/((kW ops.toList []).getD i 0).testBit j=true)
  (hc:jy P ops n ops.toList=some asq)
  {fr fr':Fr} {σ σ':St} (hB:∀ id∈B,id < σ.heap.length) (h:j3 fz m B [] (qS asq) fr σ=some (fr',σ')) {X:Emb} {a:Act} {w:World} (G:Good w0 lo n X σ fr a w) {Q:Exit->Act->World->Prop}
  (hQ:∀ a' w',Post w0 lo n X σ w fr' σ' a' w'->Q .normal a' w'):(Code.region id ops true).wpIn (gC.fw r) 0 P Q a w:=by
 obtain⟨st,frm,val,tg,ran,rfl,rfl,e3,e4,T⟩:=ry _ _ _ _ _ _ h;have stt:=BE hst;obtain⟨Ee,hget⟩:=lO hc;have Ee:asq.length=ops.size:=by simpa using Ee
 have hlen:(qS asq).length=ops.size:=by simp[qS,Ee]
 rw[hlen] at e3 e4;have hG0:=G.lock;have get:∀ (j:Nat) (o:Oper),ops[j]?=some o->∃ ao,asq[j]?=some ao/\kV P ops n o=some ao:=fun j o ho=>hget j o (by simpa using ho);have oN:∀ (k:Nat) (m:fB),(qS asq)[k]?=some m->∃ o',ops[k]?=some o'/\m.dst=o'.dst:=fun k m hk=>by
  have hlt:k < ops.size:=by rw[<- hlen];exact(af.1 hk).1
  obtain⟨ao,e1,e2⟩:=get k ops[k] (bD hlt);rw[jX e1] at hk;cases hk;exact⟨_,bD hlt,(gy e2).2.1⟩
 have hz:∀ k,(Array.replicate ops.size false).getD k false=false:=fun k=>by by_cases hk:k < ops.size<;>simp[hk]
 -- what a done operation touches lies in B
 have hin:∀ k id,k < ops.size->∀ q,(q,id)∈tg k->InB m B id:=fun k id hk q hq hmm=>by
  obtain⟨ao,e1,e2⟩:=get k ops[k] (bD hk);have hmk:=jX e1;cases hr:ran k with
  | false=>rw[T.none_ k _ hmk (.inl hr)] at hq;cases hq
  | true=>
   cases hw:isM asq ao with
   | true=>rw[T.none_ k _ hmk (.inr hw)] at hq;cases hq
   | false=>exact(T.free k _ hmk hr hw).2.1 hmm _ hq
 refine wpIn_region_any hm (Us (Q:=Q) stt (fun j o ho=>by obtain⟨ao,_,hco⟩:=get j o ho;exact og (gy hco).1) (I:=fun l a1 w1=>∃ Y τ p,ahr w0 m B ops asq st frm val tg X a w l Y a1 w1 τ p) (fun l a w ⟨_,_,_,I⟩=>I.lsize) (fun l a1 w1 j o ⟨Y,τ,p,I⟩ ho hun hrd=>?_) (fun l a1 w1 ⟨Y,τ,p,I⟩ hall=>?_) ops.size _ a _ (by unfold gC.left;exact bh (fc _ _) (by simp)) ?_)
 ·-- a step
  obtain⟨ao,hao,hco⟩:=get j o ho;obtain⟨c1,c2,c3,c4⟩:=gy hco;have hj:j < ops.size:=(bA.1 ho).1;have hmj:=jX hao
  -- the slots that it looks at
  have hfr:∀ t∈o.looksAt ops,∀ v,(frm j).get t=some v->fN Y v (a1.tmps.getD t undef):=by
   intro t ht;have yD:(∀ (k:Nat) (x:Oper),k < j->ops[k]?=some x->x.dst≠some t)->gC.slot a1 t=gC.slot a t->∀ v,(frm j).get t=some v->fN Y v (a1.tmps.getD t undef):=fun h1 h2 v hv=>by
    rw[T.ru j om (fun k m hk hm=>by obtain⟨o',e1,e2⟩:=oN k m hm;rw[e2];exact h1 k o' hk e1)] at hv
    show fN _ v (gC.slot a1 t);rw[h2];exact I.base t v hv
   by_cases hw:∃ (k:Nat) (o':Oper),ops[k]?=some o'/\o'.dst=some t/\k≠j
   ·obtain⟨k,o',hk,hd,hkj⟩:=hw;rcases stt.bound j k o o' t ho hk (Ne.symm hkj) hd ht with ⟨e,he,hb,hon⟩ | ⟨e,he,hb,hon⟩
    ·have hlk:l.getD k false=true:=by rw[<- hon];exact hrd e he hb
     have hlt:k < j:=by rw[<- hon];exact stt.back j o e ho he hb
     intro v hv;obtain⟨ao',e1,e2⟩:=get k o' hk;rw[T.get_at (jX e1) (t:=t) (by rw[<- hd];exact(gy e2).2.1) (fun i m hi hne=>by obtain⟨x,f1,f2⟩:=oN i m hi;rw[f2];exact stt.one i k x o' t f1 hk hne hd) j hlt om] at hv
     cases hv;exact I.set k o' t hk hlk hd
    ·have hlk:l.getD k false=false:=by
      cases hc:l.getD k false with
      | false=>rfl
      | true=>
       have:=I.closed k o' e hk hc he hb;rw[hon,hun] at this;cases this
     have hjk:j < k:=by rw[<- hon];exact stt.back k o' e hk he hb
     refine yD (fun i x hi hx hxd=>?_) (I.oM t fun i x hx hxd=>?_)
     ·exact stt.one i k x o' t hx hk om hd hxd
     ·by_cases hik:i=k
      ·subst hik;exact hlk
      ·exact absurd hxd (stt.one i k x o' t hx hk hik hd)
   ·refine yD (fun i x hi hx hxd=>hw ⟨i,x,hx,hxd,om⟩) (I.oM t fun i x hx hxd=>?_);by_cases hij:i=j
    ·subst hij;exact hun
    ·exact absurd ⟨i,x,hx,hxd,hij⟩ hw
  have hw:=u9 (ao:=ao) hco hfr (b:=ran j) (by have h1:=T.want j _ hmj;exact h1);rw[hw];have hds:∀ d,o.dst=some d->d < a1.tmps.size:=fun d hd=>by rw[I.size];exact bg (c4 d hd) G.size
  have iK:(l.setIfInBounds j true).getD j false=true:=gC.nF false (by rw[I.lsize];exact hj);have hD:∀ k,k≠j->((l.setIfInBounds j true).getD k false=true↔l.getD k false=true):=fun k hk=>by rw[gC.mK false (Ne.symm hk)]
  have sK:=T.loc hcf.ast hG0 j om;have I5:=T.loc hcf.ast hG0 p (by rw[hlen];exact I.ple);have hlk:τ.lock<=τ.heap.length:=by rw[I.lock,I.len];omega
  have iJ:∀ t∈τ.hid,t < τ.heap.length:=fun t ht=>by rw[I.hid] at ht;have:=G.hid t ht;rw[I.len];omega
  -- where the next one that is not free stands
  have DC:∀ k t,k < ops.size->((kW ops.toList []).getD k 0).testBit t=true->t < k:=fun k t hk h=>
   (qq stt (D:=fun _=>True) (fun _ _ _ _ _ _ _=>trivial) k _ (bD hk) (fun _ _ _=>trivial) t h).2
  have Zn:isM asq ao=true->∀ (k:Nat) (o':fB),asq[k]?=some o'->isM asq o'=true->k≠j->(l.getD k false=true↔k < j):=fun hM k o' hk hM' hkj=>by
   have hks:k < ops.size:=by rw[<- Ee];exact(af.1 hk).1
   rcases hbd hk hao hkj hM' hM with h1 | h1
   ·have:=qq stt (D:=fun k=>l.getD k false=true) (fun k x e hk hl he hb=>I.closed k x e hk hl he hb) j o ho hrd k h1;exact⟨fun _=>this.2,fun _=>this.1⟩
   ·have hlt:=DC k j hks h1;refine⟨fun hd=>?_,fun hh=>by omega⟩;have:=(qq stt (D:=fun k=>l.getD k false=true) (fun k x e hk hl he hb=>I.closed k x e hk hl he hb) k _ (bD hks) (fun e he hb=>I.closed k _ e (bD hks) hd he hb) j h1).1;rw[hun] at this;cases this
  -- what is common to all steps
  have hclosed:∀ (k:Nat) (x:Oper) (e:Edge),ops[k]?=some x->(l.setIfInBounds j true).getD k false=true->e∈x.after->Region.binds .any e=true->(l.setIfInBounds j true).getD e.on false=true:=fun k x e hk hl he hb=>by
   have old:l.getD e.on false=true->(l.setIfInBounds j true).getD e.on false=true:=fun h=>by
    by_cases hej:e.on=j
    ·rw[hej];exact iK
    ·exact(hD _ hej).2 h
   by_cases hkj:k=j
   ·subst hkj;rw[ho] at hk;cases hk;exact old (hrd e he hb)
   ·exact old (I.closed k x e hk ((hD k hkj).1 hl) he hb)
  have rz:∀ u (t:Nat),(∀ (k:Nat) (x:Oper),ops[k]?=some x->x.dst=some t->(l.setIfInBounds j true).getD k false=false)->gC.slot (a1.put o.dst u) t=gC.slot a t:=fun u t ht=>by
   have hne:o.dst≠some t:=fun hd=>by rw[ht j o ho hd] at iK;cases iK
   rw[gC.mA hne];refine I.oM t fun k x hk hd=>?_;have:=ht k x hk hd;by_cases hkj:k=j
   ·subst hkj;exact hun
   ·rwa [gC.mK false (Ne.symm hkj)] at this
  have vW:∀ (Y':Emb) u,Evo Y Y'->fN Y' (val j) u->∀ (k:Nat) (x:Oper) (d:Nat),ops[k]?=some x->(l.setIfInBounds j true).getD k false=true->x.dst=some d->fN Y' (val k) (gC.slot (a1.put o.dst u) d):=fun Y' u he r1 k x d hk hl hd=>by
   by_cases hkj:k=j
   ·subst hkj;rw[ho] at hk;injection hk with hk;subst hk
    rw[hd,gC.qa (hds d hd)];exact r1
   ·rw[gC.mA (stt.one j k o x d ho hk (Ne.symm hkj) hd)];exact(I.set k x d hk ((hD k hkj).1 hl) hd).evo he
  cases hr:ran j with
  | false=>
   simp only[aO,if_false];obtain⟨z1,z2⟩:=T.skip j _ hmj hr;have xp:tg j=[]:=T.none_ j _ hmj (.inl hr);by_cases hM:isM asq ao=true
   ·-- not free,and not wanted
    have hpj:p<=j:=by
     rcases bu j p with h1 | h1
     ·have:=(I.pos j ao hao hM).2 h1;rw[hun] at this;cases this
     ·exact h1
    have uz:=T.calm hcf.ast hG0 (p:=p) (j - p) om fun k o' h1 h2 hk=>by
     have hks:k < asq.length:=by have:=(af.1 hk).1;omega
     have hk1:=jX (aq hks);rw[hk] at hk1;cases hk1;cases hk2:isM asq asq[k] with
     | false=>rfl
     | true=>
      have h3:=(I.pos k _ (aq hks) hk2);have h4:=(Zn hM k _ (aq hks) hk2 om).2 om;have:=h3.1 h4;omega
    rw[show p+(j - p)=j by omega] at uz;refine⟨Y,τ,j+1,by simp[I.lsize],hclosed,by rw[size_put];exact I.size,by rw[iL];exact I.defers,I.stp,I.lock,I.hid,I.sim,om,fun k o' hk hM'=>?_,?_,fun id hid=>?_,fun id hib hlt h=>?_,fun k id hib hlt hk hl hmem=>?_,I.base,vW Y undef (Evo.refl Y) (by rw[z1];exact pG),rz _⟩
    ·by_cases hkj:k=j
     ·subst hkj;exact⟨fun _=>by omega,fun _=>iK⟩
     ·rw[hD k hkj];have:=Zn hM k o' hk hM' hkj;exact⟨fun h=>by have:=this.1 h;omega,fun h=>this.2 om⟩
    ·rw[z2,I.len,uz.1]
    ·rw[z2,I.BJ id hid,uz.2 id hid]
    ·refine I.keep id hib hlt fun k hk hl=>h k hk ?_;by_cases hkj:k=j
     ·rw[hkj];exact iK
     ·exact(hD k hkj).2 hl
    ·by_cases hkj:k=j
     ·subst hkj;rw[xp] at hmem;cases hmem
     ·exact I.done k id hib hlt hk ((hD k hkj).1 hl) hmem
   ·-- free,and not wanted
    refine⟨Y,τ,p,by simp[I.lsize],hclosed,by rw[size_put];exact I.size,by rw[iL];exact I.defers,I.stp,I.lock,I.hid,I.sim,I.ple,fun k o' hk hM'=>?_,I.len,I.BJ,fun id hib hlt h=>?_,fun k id hib hlt hk hl hmem=>?_,I.base,vW Y undef (Evo.refl Y) (by rw[z1];exact pG),rz _⟩
    ·have hkj:k≠j:=fun e=>by subst e;rw[hao] at hk;cases hk;exact hM hM'
     rw[hD k hkj];exact I.pos k o' hk hM'
    ·refine I.keep id hib hlt fun k hk hl=>h k hk ?_;by_cases hkj:k=j
     ·rw[hkj];exact iK
     ·exact(hD k hkj).2 hl
    ·by_cases hkj:k=j
     ·subst hkj;rw[xp] at hmem;cases hmem
     ·exact I.done k id hib hlt hk ((hD k hkj).1 hl) hmem
  | true=>
   simp only[if_true];cases hM:isM asq ao with
   | false=>
    obtain⟨t0,tB,tR⟩:=T.free j _ hmj hr hM
    -- what it touches is asq in the text's order
    have ahs:∀ q∈tg j,m=true->q.2 < (st 0).heap.length:=fun q hq hmm=>hB q.2 (tB hmm q hq);obtain⟨_,_,_,_,hmv⟩:=xC t0 tR;have hsame:∀ q∈tg j,τ.heap[q.2]?=(st j).heap[q.2]?:=fun q hq=>by
     have hib:InB m B q.2:=hin j q.2 hj q.1 hq;by_cases hlt:q.2 < (st 0).heap.length
     ·rw[T.keep hcf.ast hG0 hib hlt j om (fun k hk hm=>T.apart j k om hk q hq _ hm (.inr rfl) rfl)];refine I.keep q.2 hib hlt fun k hk hdn hm=>?_;rcases Nat.lt_trichotomy k j with h1 | h1 | h1
      ·exact T.apart j k om h1 q hq _ hm (.inr rfl) rfl
      ·subst h1;rw[hun] at hdn;cases hdn
      ·exact T.apart k j om h1 _ hm q hq (.inl rfl) rfl
     ·have hmf:m=false:=by
       cases hmm:m with
       | false=>rfl
       | true=>exact absurd (ahs q hq hmm) hlt
      rw[aQ (by rw[I.len,I5.2.2.2 hmf];omega),aQ (by rw[sK.2.2.2 hmf];omega)]
    obtain⟨τ',t1,t2⟩:=hmv τ (I.lock.trans sK.1.symm) (I.hid.trans sK.2.1.symm) hsame;obtain⟨l1,l2,l3,l4,_⟩:=xC t0 t1;have hrun:=nK (P:=P) (a:=a1) (o:=o) (tW (w0:=w0)) trivial c1 I.sim iJ hlk (fun x hx v hv=>zQ (fun t e v' hv'=>hfr t (by subst e;exact b7 _ (dN.2 ⟨.tmp t,hx,rfl⟩)) v' hv') (c3 x hx) hv) t1
    refine gC.mq (fun u w' ⟨Y',r1,r2,r3⟩=>⟨Y',τ',p,?_⟩) hrun;refine⟨by simp[I.lsize],hclosed,by rw[size_put];exact I.size,by rw[iL];exact I.defers,I.stp.trans' I.lock I.hid (by rw[I.len];exact I5.2.2.1) r3,l1.trans I.lock,l2.trans I.hid,r2,I.ple,fun k o' hk hM'=>?_,l3.trans I.len,fun id hid=>?_,fun id hib hlt hid=>?_,fun k id hib hlt hk hl hmem=>?_,I.base.evo r3.evo,vW Y' u r3.evo r1,rz u⟩
    ·have hkj:k≠j:=fun e=>by subst e;rw[hao] at hk;cases hk;rw[hM] at hM';cases hM'
     rw[hD k hkj];exact I.pos k o' hk hM'
    ·rw[l4 id (fun hm2=>hid (hin j id hj true hm2)),I.BJ id hid]
    ·rw[l4 id (hid j hj iK)];refine I.keep id hib hlt fun k hk hl=>hid k hk ?_;by_cases hkj:k=j
     ·rw[hkj];exact iK
     ·exact(hD k hkj).2 hl
    ·by_cases hkj:k=j
     ·subst hkj;exact t2 id hmem
     ·have hl':=(hD k hkj).1 hl;rw[l4 id (fun hm2=>?_),I.done k id hib hlt hk hl' hmem];rcases bu k j with h1 | h1
      ·exact T.apart j k om h1 _ hm2 _ hmem (.inl rfl) rfl
      ·exact T.apart k j om om _ hmem _ hm2 (.inl rfl) rfl
   | true=>
    obtain⟨hmt,s',t1,t2⟩:=T.uk j _ hmj hr hM;have xp:tg j=[]:=T.none_ j _ hmj (.inr hM);have hpj:p<=j:=by
     rcases bu j p with h1 | h1
     ·have:=(I.pos j ao hao hM).2 h1;rw[hun] at this;cases this
     ·exact h1
    have uz:=T.calm hcf.ast hG0 (p:=p) (j - p) om fun k o' h1 h2 hk=>by
     have hks:k < asq.length:=by have:=(af.1 hk).1;omega
     have hk1:=jX (aq hks);rw[hk] at hk1;cases hk1;cases hk2:isM asq asq[k] with
     | false=>rfl
     | true=>
      have h3:=(I.pos k _ (aq hks) hk2);have h4:=(Zn hM k _ (aq hks) hk2 om).2 om;have:=h3.1 h4;omega
    rw[show p+(j - p)=j by omega] at uz;have hnb:∀ id,id∉B->¬ InB m B id:=fun id h1 h2=>h1 (h2 hmt);have Ux:τ.heap.length=(st j).heap.length:=by rw[I.len,uz.1]
    have Sj:Sim w0 Y { st j with hid:=B++(st j).hid } w1:=I.sim.BJ (sK.1.trans I.lock.symm) Ux fun id hid=>by simp only[aP,not_or] at hid;refine⟨by rw[I.hid,<- sK.2.1];exact hid.2,?_⟩;rw[I.BJ id (hnb id hid.1),uz.2 id (hnb id hid.1)]
    have hhj:∀ t∈({ st j with hid:=B++(st j).hid } : St).hid,t < ({ st j with hid:=B++(st j).hid } : St).heap.length:=fun t ht=>by
     simp only[aP] at ht;show t < (st j).heap.length;rcases ht with h1 | h1
     ·have:=hB t h1;omega
     ·rw[sK.2.1] at h1;have:=G.hid t h1;omega
    have hlj:({ st j with hid:=B++(st j).hid } : St).lock<=({ st j with hid:=B++(st j).hid } : St).heap.length:=by show(st j).lock<=(st j).heap.length;rw[sK.1];omega
    have ast:=lu hcf.ast hlj t1;have hrun:=nK (P:=P) (a:=a1) (o:=o) hcf trivial c1 Sj hhj hlj (fun x hx v hv=>zQ (fun t e v' hv'=>hfr t (by subst e;exact b7 _ (dN.2 ⟨.tmp t,hx,rfl⟩)) v' hv') (c3 x hx) hv) t1
    have hlen':(st j).heap.length<=s'.heap.length:=ast.len;refine gC.mq (fun u w' ⟨Y',r1,r2,r3⟩=>⟨Y',{ s' with hid:=(st 0).hid,heap:=va B τ.heap s'.heap },j+1,?_⟩) hrun;have hBt:∀ id∈B,id < τ.heap.length:=fun id h1=>by have:=hB id h1;rw[Ux];omega
    have hmin:∀ id∈B,(va B τ.heap s'.heap)[id]?=τ.heap[id]?:=fun id h1=>Zm h1 (hBt id h1) (by have:=hBt id h1;omega);have S':Sim w0 Y' { s' with hid:=(st 0).hid,heap:=va B τ.heap s'.heap } w':=by
     have hF:∀ id bx,Y' id=some bx->id∉(st 0).hid->pH Y' w' bx (va B τ.heap s'.heap)[id]?:=fun id bx h hh=>?_
     ·exact⟨r2.bel,fun id bx h=>by show id < (va B τ.heap s'.heap).length;rw[yF];exact r2.dom id bx h,r2.place,fun id bx g pl cs h hh hb=>(hF id bx h hh).cell g pl cs hb,r2.inj,r2.lock,r2.zero,fun id bx es h hh hb=>(hF id bx h hh).j4 es hb⟩
     by_cases hib:id∈B
     ·rw[hmin id hib];rcases r3.back id bx h with ⟨bx1,h1,h2,h3⟩ | ⟨h1,h2,h3,h4⟩
      ·have he:bx=bx1:=by
        rcases r3.same id bx1 bx h1 h with h5 | ⟨_,h5⟩
        ·exact h5
        ·exact absurd (b7 _ hib) h5
       subst he;have hpl:=I.sim.place id bx h1;have hw':w'.heap[bx.b]?=w1.heap[bx.b]?:=by
        refine r3.frame bx.b hpl.1 fun id2 bx2 g2 gl2 gh2 go2 e=>?_;have hp2:=(I.sim.place id2 bx2 g2).2;rw[go2] at hp2;simp only[if_true] at hp2;cases hown:bx.own with
        | false=>
         have:=hpl.2;rw[hown] at this;simp at this;omega
        | true=>
         have:=I.sim.inj id2 id bx2 bx g2 h1 go2 hown e;subst this;exact gh2 (b7 _ hib)
       exact(I.sim.facts h1 (by rw[I.hid];exact hh)).mono r3.evo hw'
      ·have:(st j).heap.length<=id:=h4;have:=hB id hib;omega
     ·rw[I4 (a:=τ.heap) hib];refine r2.facts h ?_;rw[ast.hid];simp only[aP,not_or];exact⟨hib,by rw[sK.2.1];exact hh⟩
    refine⟨by simp[I.lsize],hclosed,by rw[size_put];exact I.size,by rw[iL];exact I.defers,I.stp.trans' I.lock I.hid (by rw[I.len];exact I5.2.2.1) (r3.wide (τ:=τ) (I.lock.trans sK.1.symm) Ux (fun id hid=>?_)),ast.lock.trans sK.1,rfl,S',om,fun k o' hk hM'=>?_,?_,fun id hid=>?_,fun id hib hlt hid=>?_,fun k id hib hlt hk hl hmem=>?_,I.base.evo r3.evo,vW Y' u r3.evo r1,rz u⟩
    ·exact eZ _ (by rw[sK.2.1,<- I.hid];exact hid)
    ·by_cases hkj:k=j
     ·subst hkj;exact⟨fun _=>by omega,fun _=>iK⟩
     ·rw[hD k hkj];have:=Zn hM k o' hk hM' hkj;exact⟨fun h=>by have:=this.1 h;omega,fun h=>this.2 om⟩
    ·show(va B τ.heap s'.heap).length=_;rw[yF,t2]
    ·show(va B τ.heap s'.heap)[id]?=_;rw[I4 (fun h1=>hid fun _=>h1),t2]
    ·show(va B τ.heap s'.heap)[id]?=_;rw[hmin id (hib hmt)];refine I.keep id hib hlt fun k hk hl=>hid k hk ?_;by_cases hkj:k=j
     ·rw[hkj];exact iK
     ·exact(hD k hkj).2 hl
    ·show(va B τ.heap s'.heap)[id]?=_;rw[hmin id (hib hmt)];by_cases hkj:k=j
     ·subst hkj;rw[xp] at hmem;cases hmem
     ·exact I.done k id hib hlt hk ((hD k hkj).1 hl) hmem
 ·-- the end
  have sK:=T.loc hcf.ast hG0 ops.size om;have I5:=T.loc hcf.ast hG0 p (by rw[hlen];exact I.ple);have uz:=T.calm hcf.ast hG0 (p:=p) (ops.size - p) (by have:=I.ple;omega) fun k o' h1 h2 hk=>by
   have hks:k < asq.length:=by have:=(af.1 hk).1;omega
   have hk1:=jX (aq hks);rw[hk] at hk1;cases hk1;cases hk2:isM asq asq[k] with
   | false=>rfl
   | true=>
    have:=(I.pos k _ (aq hks) hk2).1 (hall k om);omega
  rw[show p+(ops.size - p)=ops.size by have:=I.ple;omega] at uz;have hheap:τ.heap=(st ops.size).heap:=by
   apply bK;intro id;by_cases hib:InB m B id
   ·by_cases hlt:id < (st 0).heap.length
    ·by_cases hid:∃ k,k < ops.size/\(true,id)∈tg k
     ·obtain⟨k,h1,h2⟩:=hid;rw[I.done k id hib hlt h1 (hall k h1) h2,T.done hcf.ast hG0 hib hlt h2 ops.size h1 om]
     ·rw[I.keep id hib hlt (fun k hk _ hm=>hid ⟨k,hk,hm⟩),T.keep hcf.ast hG0 hib hlt ops.size om (fun k hk hm=>hid ⟨k,om,hm⟩)]
    ·have hmf:m=false:=by
      cases hmm:m with
      | false=>rfl
      | true=>exact absurd (hB id (hib hmm)) hlt
     rw[aQ (by rw[I.len,I5.2.2.2 hmf];omega),aQ (by rw[sK.2.2.2 hmf];omega)]
   ·rw[I.BJ id hib,uz.2 id hib]
  have S:Sim w0 Y (st ops.size) w1:=by
   have e:st ops.size = { τ with fA:=(st ops.size).fA }:=by have h1:=I.lock.trans sK.1.symm;have h2:=I.hid.trans sK.2.1.symm;generalize st ops.size=q at *;obtain⟨q1,q2,q3,q4⟩:=q;simp only at hheap h1 h2 ⊢;rw[<- hheap,<- h1,<- h2]
   rw[e];exact I.sim.acE _
  rw[<- e3,<- e4] at hQ;refine hQ a1 w1 ⟨Y,⟨S,fun t v hv=>?_,by rw[I.size];exact G.size,(by rw[I.defers];exact G.defers.step I.stp),fun t ht=>?_,by rw[sK.1];omega⟩,I.stp⟩
  ·by_cases hw:∃ (k:Nat) (o':Oper),ops[k]?=some o'/\o'.dst=some t
   ·obtain⟨k,o',hk,hd⟩:=hw;have hkl:k < ops.size:=(bA.1 hk).1;obtain⟨ao,e1,e2⟩:=get k o' hk;rw[T.get_at (jX e1) (t:=t) (by rw[<- hd];exact(gy e2).2.1) (fun i m hi hne=>by obtain⟨x,f1,f2⟩:=oN i m hi;rw[f2];exact stt.one i k x o' t f1 hk hne hd) ops.size hkl om] at hv
    cases hv;exact I.set k o' t hk (hall k hkl) hd
   ·rw[T.ru ops.size om (fun k m _ hm hd=>by obtain⟨o',f1,f2⟩:=oN k m hm;exact hw ⟨k,o',f1,by rw[<- f2];exact hd⟩)] at hv
    have h1:=I.base t v hv;have h2:=I.oM t fun k x hk hd=>absurd ⟨k,x,hk,hd⟩ hw;show fN _ v (gC.slot a1 t);rw[h2];exact h1
  ·rw[sK.2.1] at ht;have:=G.hid t ht;omega
 ·-- the start
  have S:=G.sim;refine⟨X,st 0,0,by simp,fun k o e _ hk=>?_,rfl,rfl,⟨av _,rfl,rfl,rfl,fun _ _ _=>rfl,Evo.refl X,fun id bx bx' h h'=>(by rw[h] at h';cases h';exact .inl rfl),fun id bx' h=>.inl ⟨bx',h,rfl,.inl rfl⟩⟩,rfl,rfl,⟨⟨S.bel.os,S.bel.tape,S.bel.output,S.bel.size,S.bel.block⟩,S.dom,S.place,S.cell,S.inj,S.lock,S.zero,S.j4⟩,cm _,fun k o' _ _=>?_,rfl,fun _ _=>rfl,fun _ _ _ _=>rfl,fun k id _ _ _ hk=>?_,G.fr,fun k o d _ hk=>?_,fun _ _=>rfl⟩
  ·rw[hz] at hk;cases hk
  ·rw[hz];simp
  ·rw[hz] at hk;cases hk
  ·rw[hz] at hk;cases hk
def OW(fz:fD)(n:Nat)(o:fB)(fr:Fr)(σ:St)(v:Value)(σ':St):Prop:=
 ((kI o.op||ON o.op)=true/\aop iQ o.op fr σ=some (v,σ')) \/
 (mG o.op=true/\σ'=σ/\∃ s',aop fz o.op fr { σ with lock:=σ.heap.length,hid:=n::σ.hid } = some (v,s')/\s'.heap.length=σ.heap.length)
theorem BK{fz:fD}{n:Nat} : ∀ (l:List fB) (fr:Fr) (σ:St) (fr':Fr) (σ':St),qO fz n l fr σ=some (fr',σ') ->
  ∃ (st:Nat->St) (frm:Nat->Fr) (val:Nat->Value),st 0=σ/\frm 0=fr/\st l.length=σ'/\frm l.length=fr'/\∀ (i:Nat) (o:fB),l[i]?=some o->frm (i+1)=(frm i).put o.dst (val i)/\OW fz n o (frm i) (st i) (val i) (st (i+1))
 | [],fr,σ,fr',σ',h=>by
  simp only[qO,ay,bT] at h;exact⟨fun _=>σ,fun _=>fr,fun _=>gB,rfl,rfl,h.2,h.1,fun i o ho=>by simp at ho⟩
 | o::l,fr,σ,fr',σ',h=>by
  have key:∀ v σ1,OW fz n o fr σ v σ1->qO fz n l (fr.put o.dst v) σ1=some (fr',σ')->∃ (st:Nat->St) (frm:Nat->Fr) (val:Nat->Value),st 0=σ/\frm 0=fr/\st (o::l).length=σ'/\frm (o::l).length=fr'/\∀ (i:Nat) (o':fB),(o::l)[i]?=some o'->frm (i+1)=(frm i).put o'.dst (val i)/\OW fz n o' (frm i) (st i) (val i) (st (i+1)):=fun v σ1 hs h2=>by
   obtain⟨st,frm,val,e1,e2,e3,e4,e5⟩:=BK l _ _ _ _ h2;refine⟨yE σ st,yE fr frm,yE v val,rfl,rfl,e3,e4,fun i o' ho=>?_⟩;cases i with
   | zero=>
    simp at ho;subst ho;refine⟨e2,?_⟩;show OW fz n o fr σ v (st 0);rw[e1];exact hs
   | succ i=>exact e5 i o' (by simpa using ho)
  simp only[qO] at h;split at h
  ·rename_i hf;simp only[aa] at h;obtain⟨⟨v,σ1⟩,h1,h2⟩:=h;exact key v σ1 (.inl ⟨hf,h1⟩) h2
  ·split at h
   ·rename_i hk;simp only[aa] at h;obtain⟨⟨v,σ1⟩,h1,h2⟩:=h;split at h2
    ·rename_i hl;exact key v σ (.inr ⟨hk,rfl,σ1,h1,hl⟩) h2
    ·cases h2
   ·cases h
theorem zR:∀ {a b:List Sh},sk a b=true->a=b
 | [],[],_=>rfl
 | .bo::l,.bo::m,h=>congrArg (Sh.bo::·) (zR (a:=l) (b:=m) (by simpa[sk] using h))
 | .nu::l,.nu::m,h=>congrArg (Sh.nu::·) (zR (a:=l) (b:=m) (by simpa[sk] using h))
 | .st::l,.st::m,h=>congrArg (Sh.st::·) (zR (a:=l) (b:=m) (by simpa[sk] using h))
 | [],_::_,h=>by simp[sk] at h
 | .bo::_,[],h=>by simp[sk] at h
 | .nu::_,[],h=>by simp[sk] at h
 | .st::_,[],h=>by simp[sk] at h
 | .bo::_,.nu::_,h=>by simp[sk] at h
 | .bo::_,.st::_,h=>by simp[sk] at h
 | .nu::_,.bo::_,h=>by simp[sk] at h
 | .nu::_,.st::_,h=>by simp[sk] at h
 | .st::_,.bo::_,h=>by simp[sk] at h
 | .st::_,.nu::_,h=>by simp[sk] at h
theorem Uy{asq:List fB}(h:Y7 asq=true):∃ t0 ag sh,(∃ o0,asq[0]?=some o0/\o0.op=.nI/\o0.dst=some t0) /\
  ∀ (i:Nat) (o:fB),asq[i]?=some o->o.guard=none/\(i=0\/kI o.op=true\/mG o.op=true\/∃ k x,o.op=.jN ag sh (.tmp t0) k x):=by
 unfold Y7 at h;split at h
 ·rename_i o0 l;split at h
  ·rename_i t0 ag sh h1 h2 h3;simp only[au,aF] at h;refine⟨t0,ag,sh,⟨o0,rfl,h1,h2⟩,fun i o ho=>?_⟩;cases i with
   | zero=>
    simp at ho;subst ho;exact⟨by simpa using h.1,.inl rfl⟩
   | succ i=>
    simp only[cJ] at ho;have:=h.2 o (aW ho);simp only[au,bF,dQ] at this;refine⟨this.1,.inr ?_⟩;rcases this.2 with (h4 | h4) | h4
    ·exact .inl h4
    ·exact .inr (.inl h4)
    ·refine .inr (.inr ?_);unfold abu at h4;split at h4
     ·rename_i ag' sh' u k x e;simp only[au,beq_iff_eq] at h4;obtain⟨⟨rfl,rfl⟩,h5⟩:=h4;rw[zR h5] at e;exact⟨k,x,e⟩
     ·cases h4
  ·cases h
 ·cases h
theorem xD{fz:fD}{p:AOp}{fr:Fr}{σ:St}(h:kI p=true):aop fz p fr σ=(gD p fr).map fun v=>(v,σ):=by
 cases p<;>first
  | rfl
  | simp[kI] at h
theorem vX{fr:Fr}{d:Option Nat}{v:Value}{t:Nat}(h:d≠some t):(fr.put d v).get t=fr.get t:=by
 cases d with
 | none=>rfl
 | some d=>
  have:¬ d=t:=fun e=>h (by rw[e]);simp[Fr.put,Fr.get,this]
theorem F0{asq:List fB}{frm:Nat->Fr}{val:Nat->Value}(T:∀ (i:Nat) (o:fB),asq[i]?=some o->frm (i+1)=(frm i).put o.dst (val i)){t:Nat} : ∀ (j:Nat),j<=asq.length->(∀ (i:Nat) (o:fB),i < j->asq[i]?=some o->o.dst≠some t)->(frm j).get t=(frm 0).get t
 | 0,_,_=>rfl
 | j+1,hj,hn=>by rw[T j asq[j] (aq om),vX (hn j _ om (aq om))];exact F0 T j om fun i o hi=>hn i o om
theorem F1{asq:List fB}{frm:Nat->Fr}{val:Nat->Value}(T:∀ (i:Nat) (o:fB),asq[i]?=some o->frm (i+1)=(frm i).put o.dst (val i)){t k:Nat}{ok:fB}(hk:asq[k]?=some ok)(hd:ok.dst=some t)(hone:∀ (i:Nat) (o:fB),asq[i]?=some o->i≠k->o.dst≠some t):∀ (j:Nat),k < j->j<=asq.length->(frm j).get t=some (val k)
 | 0,h,_=>by omega
 | j+1,h,hj=>by
  rw[T j asq[j] (aq om)];by_cases hjk:j=k
  ·subst hjk;rw[aq om] at hk;cases hk;rw[hd];simp[Fr.put,Fr.get]
  ·rw[vX (hone j _ (aq om) hjk)];exact F1 T hk hd hone j om om
theorem Ef{ag:Bool}{sh:List Sh}{k:Value} : ∀ {es:List (Value×Value)},(∀ p∈es,vQ ag sh k p.1 false)->kg ag sh k es=some none
 | [],_=>rfl
 | p::es,h=>by obtain⟨_,h2,h3⟩:=h p (by simp);simp[kg,h2,h3,Ef (es:=es) fun q hq=>h q (by simp[hq])]
theorem F2{α:Type} : ∀ {a b:List α},a.Nodup->(∀ x∈a,x∈b)->a.length<=b.length
 | [],b,_,_=>cm _
 | x::a,b,hn,hs=>by
  obtain⟨h1,h2⟩:=cH.1 hn;obtain⟨b1,b2,rfl⟩:=List.append_of_mem (hs x (by simp));have:=F2 (b:=b1++b2) h2 fun y hy=>by
   have hne:y≠x:=fun e=>by subst e;exact h1 hy
   have:=hs y (by simp[hy]);simp only[aP,aJ] at this ⊢;rcases this with h | h | h
   ·exact .inl h
   ·exact absurd h hne
   ·exact .inr h
  simp only[aB,az] at this ⊢;omega
theorem Mw{Y Y':Emb}{σ s':St}{w1 w':World}(s:Stp Y σ w1 Y' w')(hl:σ.lock=σ.heap.length)(hd:∀ id bx,Y id=some bx->id < σ.heap.length)(S':Sim w0 Y' s' w')(hlen:s'.heap.length=σ.heap.length):Y'=Y/\Below w1.heap.size w1 w':=by
 have hfn:∀ id,Y'.fn id=Y.fn id:=fun id=>by
  cases hy:Y.fn id with
  | some bx=>
   obtain⟨bx',h1,_⟩:=s.evo.up id bx hy;rcases s.same id bx bx' hy h1 with rfl | ⟨h2,_⟩
   ·exact h1
   ·have:=hd id bx hy;omega
  | none=>
   cases hy':Y'.fn id with
   | none=>rfl
   | some bx'=>
    rcases s.back id bx' hy' with ⟨bx,h1,_⟩ | ⟨_,_,_,h4⟩
    ·rw[h1] at hy;cases hy
    ·have:=S'.dom id bx' hy';omega
 refine⟨?_,s.os,s.tape,s.output,s.size,fun k hk=>s.frame k hk fun id bx hx hlk=>?_⟩
 ·obtain⟨f,y⟩:=Y;obtain⟨f',y'⟩:=Y';have h1:f'=f:=funext hfn;have h2:y'=y:=s.evo.y;subst h1;subst h2;rfl
 ·have:=hd id bx hx;omega
theorem Sim.Mx{X:Emb}{σ:St}{w w':World}(S:Sim w0 X σ w)(hb:Below w.heap.size w w'):Sim w0 X σ w' where
 bel:=uP S.bel hb|>fun h=>h
 dom:=S.dom
 place:=fun id bx h=>⟨bg (S.place id bx h).1 hb.size,(S.place id bx h).2⟩
 cell:=fun id bx g pl cs h1 h2 h3=>by
  obtain⟨a1,a2,a3,a4,a5,a6⟩:=S.cell id bx g pl cs h1 h2 h3;have hlt:=(S.place id bx h1).1;refine⟨a1,a2,a3,a4,fun j v hj=>?_,fun ho=>?_⟩
  ·obtain⟨u,hu,hr⟩:=a5 j v hj;exact⟨u,by rw[hb.cell hlt];exact hu,hr⟩
  ·obtain⟨b1,rs,ty,lo,hi,b2,b3⟩:=a6 ho;exact⟨b1,rs,ty,lo,hi,by rw[hb.block _ hlt];exact b2,b3⟩
 inj:=S.inj
 lock:=S.lock
 zero:=S.zero
 j4:=fun id bx es h1 h2 h3=>by obtain⟨a1,a2,res,ck,a3,a4⟩:=S.j4 id bx es h1 h2 h3;exact⟨a1,a2,res,ck,by rw[hb.block _ (S.place id bx h1).1];exact a3,a4⟩
theorem Stp.Mx{X:Emb}{σ:St}{w w':World}(hw:Below w.heap.size w w'):Stp X σ w X w':=
 ⟨hw.size,hw.os,hw.tape,hw.output,fun k hk _=>hw.block k hk,Evo.refl X,fun id bx bx' h1 h2=>by rw[h1] at h2;cases h2;exact .inl rfl,fun id bx' h1=>.inl ⟨bx',h1,rfl,.inl rfl⟩⟩
theorem Sim.aht{X:Emb}{σ τ:St}{w:World}{h0:List Blk}(S:Sim w0 X σ w)(h1:∀ id,id < h0.length->σ.heap[id]?=h0[id]?)(h2:∀ id,id < h0.length->τ.heap[id]?=h0[id]?)(hs:σ.heap.length<=h0.length+1)(ht:τ.heap.length=h0.length+1)(hl:τ.lock=τ.heap.length)(hh:τ.hid=h0.length::σ.hid):Sim w0 X τ w where
 bel:=S.bel
 dom:=fun id bx h=>by have:=S.dom id bx h;omega
 place:=S.place
 cell:=fun id bx g pl cs h hn hb=>by rw[hh] at hn;simp only[aJ,not_or] at hn;have:=S.dom id bx h;rw[h2 id om,<- h1 id om] at hb;exact S.cell id bx g pl cs h hn.2 hb
 inj:=S.inj
 lock:=fun id bx h hk=>by have:=S.dom id bx h;omega
 zero:=S.zero
 j4:=fun id bx es h hn hb=>by rw[hh] at hn;simp only[aJ,not_or] at hn;have:=S.dom id bx h;rw[h2 id om,<- h1 id om] at hb;exact S.j4 id bx es h hn.2 hb
theorem I6{o:Op}{ag:Bool}{sh:List Sh}{m k x:Operand}(h:gF P o=some (.jN ag sh m k x)):m∈o.operands.toList:=by
 cases o;case insert t m' k' x'=>
  simp only[gF] at h;split at h
  ·simp only[aj] at h;obtain⟨s,_,h⟩:=h;cases h;simp[Op.operands]
  ·cases h
 case mapUpdate t m' k' x'=>
  simp only[gF] at h;split at h
  ·simp only[aj] at h;obtain⟨s,_,h⟩:=h;cases h;simp[Op.operands]
  ·cases h
 all_goals
  exfalso;revert h;simp only[gF,FJ];repeat' split
  all_goals first
   | contradiction
   | (simp[aa];done)
   | (
     intro h;simp only[aa] at h;obtain⟨_,_,_,_,_,_,h⟩:=h;repeat' split at h
     all_goals simp at h)
theorem Eg{l:List (Value×Value)}(h:(l.map (·.1)).Nodup):l.Nodup:=List.Pairwise.of_map (R:=(·≠·)) (·.1) (fun a b h e=>h (by rw[e])) h
def gU(asq:List fB)(frm:Nat->Fr)(i:Nat):Option (Value×Value):=match asq[i]? with
 | some o=>(match o.op with
  | .jN _ _ _ k x=>(ev (frm i) k).bind fun a=>(ev (frm i) x).map fun b=>(a,b)
  | _=>none)
 | none=>none
structure ahu(w0:World)(ops:Array Oper)(asq:List fB)(σ0:St)(fr0:Fr)(frm:Nat->Fr)(val:Nat->Value)(X0:Emb)(a0:Act)(wS:World)(l:Array Bool)(Y:Emb)(a:Act)(w:World)(τ:St):Prop where
 lsize:l.size=ops.size
 closed:∀ (k:Nat) (o:Oper) (e:Edge),ops[k]?=some o->l.getD k false=true->e∈o.after->Region.binds .any e=true->l.getD e.on false=true
 size:a.tmps.size=a0.tmps.size
 defers:a.defers=a0.defers
 stp:Stp X0 σ0 wS Y w
 lock:τ.lock=σ0.lock
 hid:τ.hid=σ0.hid
 sim:Sim w0 Y τ w
 heap:(l.getD 0 false=false/\τ.heap=σ0.heap)\/(l.getD 0 false=true/\∃ es,τ.heap=σ0.heap++[.map es]/\(es.map (·.1)).Nodup/\(∀ p∈es,∃ k,l.getD k false=true/\gU asq frm k=some p)/\∀ k p,l.getD k false=true->gU asq frm k=some p->p∈es)
 base:FrR Y fr0 a0
 set:∀ (k:Nat) (o:Oper) (d:Nat),ops[k]?=some o->l.getD k false=true->o.dst=some d->fN Y (val k) (gC.slot a d)
 oM:∀ (t:Nat),(∀ (k:Nat) (o:Oper),ops[k]?=some o->o.dst=some t->l.getD k false=false)->gC.slot a t=gC.slot a0 t
theorem My{fz:fD}{r:Option Nat}(hcf:g9 P w0 qp fz){ops:Array Oper}{n id:Nat}{asq:List fB}(hm:P.follows .mixedOrders=true)(hst:D0 ops=true)(acF:Y7 asq=true)
  (hc:jy P ops n ops.toList=some asq)
  {fr fr':Fr} {σ σ':St} (h:qO fz σ.heap.length asq fr σ=some (fr',σ')) {X:Emb} {a:Act} {w:World} (G:Good w0 lo n X σ fr a w) {Q:Exit->Act->World->Prop}
  (hQ:∀ a' w',Post w0 lo n X σ w fr' σ' a' w'->Q .normal a' w'):(Code.region id ops true).wpIn (gC.fw r) 0 P Q a w:=by
 obtain⟨st,frm,val,hst0,hfr0,e3,e4,T⟩:=BK _ _ _ _ _ h;obtain⟨t0,ag,sh,⟨o0,ho0,ho0m,ho0d⟩,hall⟩:=Uy acF;have Tf:∀ (i:Nat) (o:fB),asq[i]?=some o->frm (i+1)=(frm i).put o.dst (val i):=fun i o ho=>(T i o ho).1;have stt:=BE hst;obtain⟨Ee,hget⟩:=lO hc;have hlen:asq.length=ops.size:=by simpa using Ee
 have hpos:0 < asq.length:=(af.1 ho0).1;have get:∀ (j:Nat) (o:Oper),ops[j]?=some o->∃ ao,asq[j]?=some ao/\kV P ops n o=some ao:=fun j o ho=>hget j o (by simpa using ho);have oN:∀ (k:Nat) (m:fB),asq[k]?=some m->∃ o',ops[k]?=some o'/\m.dst=o'.dst:=fun k m hk=>by
  have hlt:k < ops.size:=by rw[<- hlen];exact(af.1 hk).1
  obtain⟨ao,e1,e2⟩:=get k ops[k] (bD hlt);rw[e1] at hk;cases hk;exact⟨_,bD hlt,(gy e2).2.1⟩
 have hone:∀ {k:Nat} {t:Nat} {ok:fB},asq[k]?=some ok->ok.dst=some t->∀ (i:Nat) (o:fB),asq[i]?=some o->i≠k->o.dst≠some t:=fun {k t ok} hk hd i o hi hne=>by obtain⟨x,f1,f2⟩:=oN i o hi;obtain⟨y,g1,g2⟩:=oN k ok hk;rw[f2];exact stt.one i k x y t f1 g1 hne (by rw[<- g2];exact hd)
 -- the text's order
 have hm0:aop iQ .nI (frm 0) (st 0)=some (val 0,st 1):=by
  rcases(T 0 o0 ho0).2 with ⟨_,h1⟩ | ⟨h1,_⟩
  ·rw[ho0m] at h1;exact h1
  ·rw[ho0m] at h1;cases h1
 have hv0:val 0=.map (some σ.heap.length)/\st 1 = { σ with heap:=σ.heap++[.map []] }:=by simp only[aop,ay,bT] at hm0;rw[<- hm0.1,<- hm0.2,hst0];exact⟨rfl,rfl⟩
 have ht0:∀ j,1<=j->j<=asq.length->(frm j).get t0=some (.map (some σ.heap.length)):=fun j h1 h2=>by rw[F1 Tf ho0 ho0d (hone ho0 ho0d) j om h2,hv0.1]
 have hGh:∀ t∈σ.hid,t < σ.heap.length:=G.hid;have hnh:σ.heap.length∉σ.hid:=fun e=>by have:=hGh _ e;omega
 -- an entry made on a state with entries
 have hput:∀ {j:Nat} {k x:Operand} {es:List (Value×Value)} {τ:St} {kv xv:Value},(frm j).get t0=some (.map (some σ.heap.length))->τ.heap=σ.heap++[.map es]->τ.lock=σ.lock->τ.hid=σ.hid->ev (frm j) k=some kv->ev (frm j) x=some xv ->
   aop iQ (.jN ag sh (.tmp t0) k x) (frm j) τ=(kg ag sh kv es).bind fun q=>if q.isNone&&gR ag sh kv&&held xv then some (.tuple #[],{ τ with heap:=σ.heap++[.map (es++[(kv,xv)])],fA:=gm τ σ.heap.length [xv] }) else none:=by
  intro j k x es τ kv xv h1 h2 h3 h4 h5 h6;have aeZ:τ.oE σ.heap.length=some es:=by unfold St.oE;rw[h4,if_neg (by simpa using hnh),h2];simp
  have hnl:¬ σ.heap.length < τ.lock:=by rw[h3];have:=G.lock;omega
  have iK:τ.heap.set σ.heap.length (.map (es++[(kv,xv)]))=σ.heap++[.map (es++[(kv,xv)])]:=by rw[h2,cw _ _ (av _)];simp
  have hev:ev (frm j) (.tmp t0)=some (.map (some σ.heap.length)):=h1;simp only[aop,hev,h5,h6,ak];rw[if_neg hnl,aeZ];simp only[ak,iK]
 have key:∀ j,1<=j->j<=asq.length->((st j).heap=σ.heap++[.map ((List.range j).filterMap (gU asq frm))]/\(st j).lock=σ.lock/\(st j).hid=σ.hid/\(((List.range j).filterMap (gU asq frm)).map (·.1)).Nodup) /\
   ∀ i k x,i < j->(∃ o,asq[i]?=some o/\o.op=.jN ag sh (.tmp t0) k x)->∃ kv xv,ev (frm i) k=some kv/\ev (frm i) x=some xv/\gR ag sh kv=true/\held xv=true/\kg ag sh kv ((List.range i).filterMap (gU asq frm))=some none/\val i=.tuple #[]:=by
  intro j;induction j with
  | zero=>intro h;omega
  | succ j ih=>
   intro _ hj;cases j with
   | zero=>
    refine⟨⟨?_,?_,?_,?_⟩,fun i k x hi ⟨o,ho,e⟩=>?_⟩
    ·rw[hv0.2];have:gU asq frm 0=none:=by unfold gU;rw[ho0];simp only[ho0m]
     simp[cN,this]
    ·rw[hv0.2]
    ·rw[hv0.2]
    ·have:gU asq frm 0=none:=by unfold gU;rw[ho0];simp only[ho0m]
     simp[cN,this]
    ·have:i=0:=om
     subst this;rw[ho0] at ho;cases ho;rw[ho0m] at e;cases e
   | succ j=>
    obtain⟨⟨i1,i2,i3,i4⟩,i5⟩:=ih om om;have hoj:asq[j+1]?=some asq[j+1]:=aq om;generalize asq[j+1]=o at hoj;obtain⟨hg,hk⟩:=hall _ _ hoj;have hstep:=(T _ _ hoj).2;have yG:(List.range (j+1+1)).filterMap (gU asq frm)=(List.range (j+1)).filterMap (gU asq frm)++(gU asq frm (j+1)).toList:=by rw[cN,List.filterMap_append];simp only[List.filterMap_cons,List.filterMap_nil];cases gU asq frm (j+1)<;>rfl
    have plain:(∀ ag' sh' m k x,o.op≠.jN ag' sh' m k x)->st (j+1+1)=st (j+1)->((st (j+1+1)).heap=σ.heap++[.map ((List.range (j+1+1)).filterMap (gU asq frm))]/\(st (j+1+1)).lock=σ.lock/\(st (j+1+1)).hid=σ.hid/\(((List.range (j+1+1)).filterMap (gU asq frm)).map (·.1)).Nodup) /\
   ∀ i k x,i < j+1+1->(∃ o,asq[i]?=some o/\o.op=.jN ag sh (.tmp t0) k x)->∃ kv xv,ev (frm i) k=some kv/\ev (frm i) x=some xv/\gR ag sh kv=true/\held xv=true/\kg ag sh kv ((List.range i).filterMap (gU asq frm))=some none/\val i=.tuple #[]:=by
     intro hnp hse;have DD:gU asq frm (j+1)=none:=by
      unfold gU;rw[hoj];dsimp only;split
      ·rename_i e;exact absurd e (hnp _ _ _ _ _)
      ·rfl
     rw[DD] at yG;simp only[Option.toList_none,bB] at yG;refine⟨⟨by rw[hse,yG];exact i1,by rw[hse];exact i2,by rw[hse];exact i3,by rw[yG];exact i4⟩,fun i k x hi ⟨o',ho',e⟩=>?_⟩;rcases bu i (j+1) with hlt | hge
     ·exact i5 i k x hlt ⟨o',ho',e⟩
     ·have:i=j+1:=om
      subst this;rw[hoj] at ho';cases ho';exact absurd e (hnp _ _ _ _ _)
    rcases hk with hk | hk | hk | ⟨k,x,hk⟩
    ·omega
    ·rcases hstep with ⟨_,h1⟩ | ⟨h1,h2,_⟩
     ·rw[xD hk,aj] at h1;obtain⟨v,_,h1⟩:=h1;simp only[bT] at h1;exact plain (fun _ _ _ _ _ e=>by rw[e] at hk;simp[kI] at hk) h1.2.symm
     ·exact plain (fun _ _ _ _ _ e=>by rw[e] at hk;simp[kI] at hk) h2
    ·rcases hstep with ⟨h0,h1⟩ | ⟨h1,h2,_⟩
     ·exfalso;cases hop:o.op<;>rw[hop] at hk h0<;>simp[mG,kI,ON] at hk h0
     ·exact plain (fun _ _ _ _ _ e=>by rw[e] at hk;simp[mG] at hk) h2
    ·rcases hstep with ⟨_,h1⟩ | ⟨h1,_⟩
     ·rw[hk] at h1;obtain⟨kv,hkv⟩:∃ kv,ev (frm (j+1)) k=some kv:=by simp only[aop,aa] at h1;obtain⟨_,_,kv,e,_⟩:=h1;exact⟨kv,e⟩
      obtain⟨xv,hxv⟩:∃ xv,ev (frm (j+1)) x=some xv:=by simp only[aop,aa] at h1;obtain⟨_,_,_,_,xv,e,_⟩:=h1;exact⟨xv,e⟩
      rw[hput (ht0 _ om om) i1 i2 i3 hkv hxv] at h1;simp only[aa] at h1;obtain⟨q,hq,h1⟩:=h1;split at h1
      ·rename_i n4;simp only[au,dQ] at n4;obtain⟨⟨rfl,hfit⟩,hheld⟩:=n4;simp only[ay,bT] at h1;have DD:gU asq frm (j+1)=some (kv,xv):=by unfold gU;rw[hoj];simp only[hk,hkv,hxv,ak,bq]
       rw[DD] at yG;simp only[Option.toList_some] at yG;have hnk:∀ p∈(List.range (j+1)).filterMap (gU asq frm),p.1≠kv:=by
        rcases(qm hfit hq).2 with ⟨_,h⟩ | ⟨p,_,_,h⟩
        ·exact h
        ·cases h
       refine⟨⟨by rw[<- h1.2,yG],by rw[<- h1.2];exact i2,by rw[<- h1.2];exact i3,?_⟩,fun i k' x' hi ⟨o',ho',e⟩=>?_⟩
       ·rw[yG,dh];refine dF.2 ⟨i4,by simp,fun y hy z hz=>?_⟩;simp at hz;subst hz;obtain⟨p,hp,rfl⟩:=bw.1 hy;exact hnk p hp
       ·rcases bu i (j+1) with hlt | hge
        ·exact i5 i k' x' hlt ⟨o',ho',e⟩
        ·have:i=j+1:=om
         subst this;rw[hoj] at ho';cases ho';rw[hk] at e;cases e;exact⟨kv,xv,hkv,hxv,hfit,hheld,hq,h1.1.symm⟩
      ·cases h1
     ·rw[hk] at h1;simp[mG] at h1
 obtain⟨⟨K1,K2,K3,K4⟩,K5⟩:=key asq.length om (av _);have kst:∀ j,1<=j->j<=asq.length->(st j).heap.length=σ.heap.length+1/\(st j).lock=σ.lock/\(st j).hid=σ.hid/\∀ id,id < σ.heap.length->(st j).heap[id]?=σ.heap[id]?:=fun j h1 h2=>by obtain⟨⟨k1,k2,k3,_⟩,_⟩:=key j h1 h2;exact⟨by rw[k1];simp,k2,k3,fun id hid=>by rw[k1,aA hid]⟩
 have DD:∀ {i:Nat} {p:Value×Value},gU asq frm i=some p->i < asq.length/\∃ k x,(∃ o,asq[i]?=some o/\o.op=.jN ag sh (.tmp t0) k x):=fun {i p} h=>by
  unfold gU at h;split at h
  ·rename_i o ho;refine⟨(af.1 ho).1,?_⟩;split at h
   ·rename_i ag' sh' m k x e;rcases(hall i o ho).2 with h1 | h1 | h1 | ⟨k',x',h1⟩
    ·subst h1;rw[ho0] at ho;cases ho;rw[ho0m] at e;cases e
    ·rw[e] at h1;simp[kI] at h1
    ·rw[e] at h1;simp[mG] at h1
    ·exact⟨k',x',o,ho,h1⟩
   ·cases h
  ·cases h
 have abE:∀ {i:Nat} {k x:Operand} {kv xv:Value},(∃ o,asq[i]?=some o/\o.op=.jN ag sh (.tmp t0) k x)->ev (frm i) k=some kv->ev (frm i) x=some xv->gU asq frm i=some (kv,xv):=fun⟨o,ho,e⟩ h1 h2=>by unfold gU;rw[ho];simp only[e,h1,h2,ak,bq]
 have abF:∀ {i j:Nat} {p q:Value×Value},i < j->gU asq frm i=some p->gU asq frm j=some q->vQ ag sh q.1 p.1 false:=fun {i j p q} hij hp hq=>by
  obtain⟨hj,k,x,hop⟩:=DD hq;obtain⟨kv,xv,e1,e2,e3,e4,e5,_⟩:=K5 j k x hj hop;have:=abE hop e1 e2;rw[hq] at this;cases this;obtain⟨f1,f2⟩:=qm e3 e5;have hm:p∈(List.range j).filterMap (gU asq frm):=dN.2 ⟨i,cj.2 hij,hp⟩;obtain⟨b,hb⟩:=f1 p hm;rcases f2 with ⟨_,f2⟩ | ⟨r,_,_,f2⟩
  ·cases b with
   | false=>exact hb
   | true=>exact absurd (hb.iff.1 rfl).symm (f2 p hm)
  ·cases f2
 have hcmp:∀ {i j:Nat} {p q:Value×Value},i≠j->gU asq frm i=some p->gU asq frm j=some q->vQ ag sh q.1 p.1 false:=fun {i j p q} hij hp hq=>by
  rcases Nat.lt_or_gt_of_ne hij with h1 | h1
  ·exact abF h1 hp hq
  ·exact(abF h1 hq hp).symm
 -- the map's maker comes before its entries
 have ae0:∀ {k:Nat} {p:Value×Value} {o:Oper},gU asq frm k=some p->ops[k]?=some o->∃ e∈o.after,Region.binds .any e=true/\e.on=0:=fun {k p o} h ho=>by
  obtain⟨hk,kk,x,o',ho',hop⟩:=DD h;obtain⟨ao,e1,e2⟩:=get k o ho;rw[ho'] at e1;cases e1;have hk0:k≠0:=fun e=>by subst e;rw[ho0] at ho';cases ho';rw[ho0m] at hop;cases hop
  have h0:ops[0]?=some ops[0]:=bD om;obtain⟨ao0,f1,f2⟩:=get 0 _ h0;rw[ho0] at f1;cases f1;have hd0:(ops[0]).dst=some t0:=by rw[<- (gy f2).2.1];exact ho0d
  have hmem:t0∈o.looksAt ops:=b7 _ (dN.2 ⟨.tmp t0,by have:=I6 (by rw[<- hop];exact(gy e2).1);simpa using this,rfl⟩);rcases stt.bound k 0 o _ t0 ho h0 hk0 hd0 hmem with ⟨e,g1,g2,g3⟩ | ⟨e,g1,g2,g3⟩
  ·exact⟨e,g1,g2,g3⟩
  ·have:=stt.back 0 _ e h0 g1 g2;omega
 have hz:∀ k,(Array.replicate ops.size false).getD k false=false:=fun k=>by by_cases hk:k < ops.size<;>simp[hk]
 refine wpIn_region_any hm (Us (Q:=Q) stt (fun j o ho=>by obtain⟨ao,_,hco⟩:=get j o ho;exact og (gy hco).1) (I:=fun l a1 w1=>∃ Y τ,ahu w0 ops asq σ fr frm val X a w l Y a1 w1 τ) (fun l a w ⟨_,_,I⟩=>I.lsize) (fun l a1 w1 j o ⟨Y,τ,I⟩ ho hun hrd=>?_) (fun l a1 w1 ⟨Y,τ,I⟩ hdone=>?_) ops.size _ a _ (by unfold gC.left;exact bh (fc _ _) (by simp)) ?_)
 ·-- a step
  obtain⟨ao,hao,hco⟩:=get j o ho;obtain⟨c1,c2,c3,c4⟩:=gy hco;have hj:j < ops.size:=(bA.1 ho).1;have hfr:∀ t∈o.looksAt ops,∀ v,(frm j).get t=some v->fN Y v (a1.tmps.getD t undef):=by
   intro t ht;have yD:(∀ (k:Nat) (x:Oper),k < j->ops[k]?=some x->x.dst≠some t)->gC.slot a1 t=gC.slot a t->∀ v,(frm j).get t=some v->fN Y v (a1.tmps.getD t undef):=fun h1 h2 v hv=>by
    rw[F0 Tf j om (fun k m hk hm=>by obtain⟨o',e1,e2⟩:=oN k m hm;rw[e2];exact h1 k o' hk e1),hfr0] at hv
    show fN _ v (gC.slot a1 t);rw[h2];exact I.base t v hv
   by_cases hw:∃ (k:Nat) (o':Oper),ops[k]?=some o'/\o'.dst=some t/\k≠j
   ·obtain⟨k,o',hk,hd,hkj⟩:=hw;rcases stt.bound j k o o' t ho hk (Ne.symm hkj) hd ht with ⟨e,he,hb,hon⟩ | ⟨e,he,hb,hon⟩
    ·have hlk:l.getD k false=true:=by rw[<- hon];exact hrd e he hb
     have hlt:k < j:=by rw[<- hon];exact stt.back j o e ho he hb
     intro v hv;obtain⟨ao',e1,e2⟩:=get k o' hk;rw[F1 Tf e1 (t:=t) (by rw[<- hd];exact(gy e2).2.1) (hone e1 (by rw[<- hd];exact(gy e2).2.1)) j hlt om] at hv;cases hv;exact I.set k o' t hk hlk hd
    ·have hlk:l.getD k false=false:=by
      cases hc:l.getD k false with
      | false=>rfl
      | true=>
       have:=I.closed k o' e hk hc he hb;rw[hon,hun] at this;cases this
     have hjk:j < k:=by rw[<- hon];exact stt.back k o' e hk he hb
     refine yD (fun i x hi hx hxd=>?_) (I.oM t fun i x hx hxd=>?_)
     ·exact stt.one i k x o' t hx hk om hd hxd
     ·by_cases hik:i=k
      ·subst hik;exact hlk
      ·exact absurd hxd (stt.one i k x o' t hx hk hik hd)
   ·refine yD (fun i x hi hx hxd=>hw ⟨i,x,hx,hxd,om⟩) (I.oM t fun i x hx hxd=>?_);by_cases hij:i=j
    ·subst hij;exact hun
    ·exact absurd ⟨i,x,hx,hxd,hij⟩ hw
  have hw:=u9 (ao:=ao) hco hfr (b:=true) (by unfold AM.want;rw[(hall j ao hao).1]);rw[hw];simp only[if_true];have hds:∀ d,o.dst=some d->d < a1.tmps.size:=fun d hd=>by rw[I.size];exact bg (c4 d hd) G.size
  have iK:(l.setIfInBounds j true).getD j false=true:=gC.nF false (by rw[I.lsize];exact hj);have hD:∀ k,k≠j->((l.setIfInBounds j true).getD k false=true↔l.getD k false=true):=fun k hk=>by rw[gC.mK false (Ne.symm hk)]
  have Zo:∀ x∈o.op.operands.toList,∀ v,ev (frm j) x=some v->fN Y v (a1.eval x):=fun x hx v hv=>zQ (fun t e v' hv'=>hfr t (by subst e;exact b7 _ (dN.2 ⟨.tmp t,hx,rfl⟩)) v' hv') (c3 x hx) hv
  have hclosed:∀ (k:Nat) (x:Oper) (e:Edge),ops[k]?=some x->(l.setIfInBounds j true).getD k false=true->e∈x.after->Region.binds .any e=true->(l.setIfInBounds j true).getD e.on false=true:=fun k x e hk hl he hb=>by
   have old:l.getD e.on false=true->(l.setIfInBounds j true).getD e.on false=true:=fun h=>by
    by_cases hej:e.on=j
    ·rw[hej];exact iK
    ·exact(hD _ hej).2 h
   by_cases hkj:k=j
   ·subst hkj;rw[ho] at hk;cases hk;exact old (hrd e he hb)
   ·exact old (I.closed k x e hk ((hD k hkj).1 hl) he hb)
  have rz:∀ u (t:Nat),(∀ (k:Nat) (x:Oper),ops[k]?=some x->x.dst=some t->(l.setIfInBounds j true).getD k false=false)->gC.slot (a1.put o.dst u) t=gC.slot a t:=fun u t ht=>by
   have hne:o.dst≠some t:=fun hd=>by rw[ht j o ho hd] at iK;cases iK
   rw[gC.mA hne];refine I.oM t fun k x hk hd=>?_;have:=ht k x hk hd;by_cases hkj:k=j
   ·subst hkj;exact hun
   ·rwa [gC.mK false (Ne.symm hkj)] at this
  have vW:∀ (Y':Emb) u,Evo Y Y'->fN Y' (val j) u->∀ (k:Nat) (x:Oper) (d:Nat),ops[k]?=some x->(l.setIfInBounds j true).getD k false=true->x.dst=some d->fN Y' (val k) (gC.slot (a1.put o.dst u) d):=fun Y' u he r1 k x d hk hl hd=>by
   by_cases hkj:k=j
   ·subst hkj;rw[ho] at hk;injection hk with hk;subst hk
    rw[hd,gC.qa (hds d hd)];exact r1
   ·rw[gC.mA (stt.one j k o x d ho hk (Ne.symm hkj) hd)];exact(I.set k x d hk ((hD k hkj).1 hl) hd).evo he
  have oP:σ.heap.length<=τ.heap.length/\τ.heap.length<=σ.heap.length+1/\∀ id,id < σ.heap.length->τ.heap[id]?=σ.heap[id]?:=by
   rcases I.heap with ⟨_,h1⟩ | ⟨_,es,h1,_⟩
   ·rw[h1];exact⟨av _,om,fun _ _=>rfl⟩
   ·rw[h1];exact⟨by simp,by simp,fun id hid=>by rw[aA hid]⟩
  have hlk:τ.lock<=τ.heap.length:=by rw[I.lock];have:=G.lock;omega
  have iJ:∀ t∈τ.hid,t < τ.heap.length:=fun t ht=>by rw[I.hid] at ht;have:=G.hid t ht;omega
  have hheap:j≠0->gU asq frm j=none->((l.setIfInBounds j true).getD 0 false=false/\τ.heap=σ.heap)\/((l.setIfInBounds j true).getD 0 false=true/\∃ es,τ.heap=σ.heap++[.map es]/\(es.map (·.1)).Nodup/\(∀ p∈es,∃ k,(l.setIfInBounds j true).getD k false=true/\gU asq frm k=some p)/\∀ k p,(l.setIfInBounds j true).getD k false=true->gU asq frm k=some p->p∈es):=fun hj0 hne=>by
   rcases I.heap with ⟨h0,h1⟩ | ⟨h0,es,h1,h2,h3,h4⟩
   ·exact .inl ⟨by rw[gC.mK false hj0];exact h0,h1⟩
   ·refine .inr ⟨(hD 0 (Ne.symm hj0)).2 h0,es,h1,h2,fun p hp=>?_,fun k p hk hp=>?_⟩
    ·obtain⟨k,g1,g2⟩:=h3 p hp;exact⟨k,(hD k (fun e=>by subst e;rw[hun] at g1;cases g1)).2 g1,g2⟩
    ·by_cases hkj:k=j
     ·subst hkj;rw[hne] at hp;cases hp
     ·exact h4 k p ((hD k hkj).1 hk) hp
  have hnone:(∀ k x,ao.op≠.jN ag sh (.tmp t0) k x)->gU asq frm j=none:=fun h=>by
   cases he:gU asq frm j with
   | none=>rfl
   | some p=>
    obtain⟨_,k,x,o',ho',hop⟩:=DD he;rw[hao] at ho';cases ho';exact absurd hop (h k x)
  have hstep:=(T j ao hao).2;by_cases hj0:j=0
  ·-- the map is made
   subst hj0;rw[ho0] at hao;cases hao;obtain⟨h0,h1⟩:l.getD 0 false=false/\τ.heap=σ.heap:=by
    rcases I.heap with h | ⟨h0,_⟩
    ·exact h
    ·rw[hun] at h0;cases h0
   have hrun:=nK (P:=P) (a:=a1) (o:=o) (fr:=frm 0) (σ:=τ) (v:=val 0) (σ':={ τ with heap:=τ.heap++[.map []] }) (tW (w0:=w0)) trivial c1 I.sim iJ hlk Zo (by rw[ho0m];show some _=_;rw[hv0.1,h1]);refine gC.mq (fun u w' ⟨Y',r1,r2,r3⟩=>⟨Y',{ τ with heap:=τ.heap++[.map []] },?_⟩) hrun;refine⟨by simp[I.lsize],hclosed,by rw[size_put];exact I.size,by rw[iL];exact I.defers,I.stp.trans' I.lock I.hid oP.1 r3,I.lock,I.hid,r2,.inr ⟨iK,[],by rw[h1],List.nodup_nil,by simp,fun k p hk hp=>?_⟩,I.base.evo r3.evo,vW Y' u r3.evo r1,rz u⟩;by_cases hk0:k=0
   ·subst hk0;obtain⟨_,_,_,o',ho',hop⟩:=DD hp;rw[ho0] at ho';cases ho';rw[ho0m] at hop;cases hop
   ·have hks:k < ops.size:=by have:=(DD hp).1;omega
    obtain⟨e,g1,g2,g3⟩:=ae0 hp (bD hks);have:=I.closed k _ e (bD hks) ((hD k hk0).1 hk) g1 g2;rw[g3,h0] at this;cases this
  ·rcases(hall j ao hao).2 with hk | hk | hk | ⟨k,x,hk⟩
   ·exact absurd hk hj0
   ·-- free
    have hpv:gD ao.op (frm j)=some (val j):=by
     rcases hstep with ⟨_,h1⟩ | ⟨h1,_⟩
     ·rw[xD hk,aj] at h1;obtain⟨v,h2,h1⟩:=h1;simp only[bT] at h1;rw[h2,h1.1]
     ·cases hop:ao.op<;>rw[hop] at hk h1<;>simp[mG,kI] at hk h1
    have hrun:=nK (P:=P) (a:=a1) (o:=o) (fr:=frm j) (σ:=τ) (v:=val j) (σ':=τ) (tW (w0:=w0)) trivial c1 I.sim iJ hlk Zo (by rw[xD hk,hpv];rfl);refine gC.mq (fun u w' ⟨Y',r1,r2,r3⟩=>⟨Y',τ,?_⟩) hrun;exact⟨by simp[I.lsize],hclosed,by rw[size_put];exact I.size,by rw[iL];exact I.defers,I.stp.trans' I.lock I.hid oP.1 r3,I.lock,I.hid,r2,hheap hj0 (hnone fun k x e=>by rw[e] at hk;simp[kI] at hk),I.base.evo r3.evo,vW Y' u r3.evo r1,rz u⟩
   ·-- a call
    obtain⟨q1,q2,q3,q4⟩:=kst j om om;obtain⟨s',t1,t2⟩:∃ s',aop fz ao.op (frm j) { st j with lock:=(st j).heap.length,hid:=σ.heap.length::(st j).hid } = some (val j,s')/\s'.heap.length=(st j).heap.length:=by
     rcases hstep with ⟨h1,_⟩ | ⟨_,_,h⟩
     ·exfalso;cases hop:ao.op<;>rw[hop] at hk h1<;>simp[mG,kI,ON] at hk h1
     ·exact h
    have Sv:Sim w0 Y { st j with lock:=(st j).heap.length,hid:=σ.heap.length::(st j).hid } w1:=I.sim.aht (h0:=σ.heap) oP.2.2 q4 oP.2.1 q1 rfl (by show _::(st j).hid=_;rw[q3,I.hid]);have hrun:=nK (P:=P) (a:=a1) (o:=o) hcf trivial c1 Sv (fun t ht=>by
     show t < (st j).heap.length;rcases aJ.1 ht with rfl | ht
     ·omega
     ·rw[q3] at ht;have:=G.hid t ht;omega) (av _) Zo t1
    refine gC.mq (fun u w' ⟨Y',r1,r2,r3⟩=>⟨Y',τ,?_⟩) hrun;obtain⟨rfl,hb⟩:=Mw r3 rfl (fun id bx h=>by have h1:=I.sim.dom id bx h;have h2:=oP.2.1;show id < (st j).heap.length;omega) r2 t2
    have s1:Stp Y' τ w1 Y' w':=Stp.Mx hb;exact⟨by simp[I.lsize],hclosed,by rw[size_put];exact I.size,by rw[iL];exact I.defers,I.stp.trans' I.lock I.hid oP.1 s1,I.lock,I.hid,I.sim.Mx hb,hheap hj0 (hnone fun k x e=>by rw[e] at hk;simp[mG] at hk),I.base,vW Y' u (Evo.refl _) r1,rz u⟩
   ·-- an entry
    obtain⟨kv,xv,e1,e2,e3,e4,e5,e6⟩:=K5 j k x om ⟨ao,hao,hk⟩;have hej:=abE ⟨ao,hao,hk⟩ e1 e2;have hd0:l.getD 0 false=true:=by obtain⟨e,g1,g2,g3⟩:=ae0 hej ho;rw[<- g3];exact hrd e g1 g2
    obtain⟨es,h1,h2,h3,h4⟩:∃ es,τ.heap=σ.heap++[.map es]/\(es.map (·.1)).Nodup/\(∀ p∈es,∃ k,l.getD k false=true/\gU asq frm k=some p)/\∀ k p,l.getD k false=true->gU asq frm k=some p->p∈es:=by
     rcases I.heap with ⟨h0,_⟩ | ⟨_,h⟩
     ·rw[hd0] at h0;cases h0
     ·exact h
    have hcm:∀ p∈es,vQ ag sh kv p.1 false:=fun p hp=>by obtain⟨i,g1,g2⟩:=h3 p hp;exact hcmp (p:=p) (q:=(kv,xv)) (fun e=>by subst e;rw[hun] at g1;cases g1) g2 hej
    have hrun:=nK (P:=P) (a:=a1) (o:=o) (fr:=frm j) (σ:=τ) (v:=val j) (σ':={ τ with heap:=σ.heap++[.map (es++[(kv,xv)])],fA:=gm τ σ.heap.length [xv] }) (tW (w0:=w0)) trivial c1 I.sim iJ hlk Zo (by rw[hk,hput (ht0 j om om) h1 I.lock I.hid e1 e2,Ef hcm];simp[e3,e4,e6])
    refine gC.mq (fun u w' ⟨Y',r1,r2,r3⟩=>⟨Y',{ τ with heap:=σ.heap++[.map (es++[(kv,xv)])],fA:=gm τ σ.heap.length [xv] },?_⟩) hrun;refine⟨by simp[I.lsize],hclosed,by rw[size_put];exact I.size,by rw[iL];exact I.defers,I.stp.trans' I.lock I.hid oP.1 r3,I.lock,I.hid,r2,.inr ⟨(hD 0 (Ne.symm hj0)).2 hd0,_,rfl,?_,fun p hp=>?_,fun i p hi hp=>?_⟩,I.base.evo r3.evo,vW Y' u r3.evo r1,rz u⟩
    ·rw[dh];refine dF.2 ⟨h2,by simp,fun y hy z hz=>?_⟩;simp at hz;subst hz;obtain⟨p,hp,rfl⟩:=bw.1 hy;intro e;have:=(hcm p hp).iff.2 e.symm;cases this
    ·rcases aP.1 hp with hp | hp
     ·obtain⟨i,g1,g2⟩:=h3 p hp;exact⟨i,(hD i (fun e=>by subst e;rw[hun] at g1;cases g1)).2 g1,g2⟩
     ·simp at hp;subst hp;exact⟨j,iK,hej⟩
    ·by_cases hij:i=j
     ·subst hij;rw[hej] at hp;cases hp;simp
     ·exact b7 _ (h4 i p ((hD i hij).1 hi) hp)
 ·-- the end
  obtain⟨es,h1,h2,h3,h4⟩:∃ es,τ.heap=σ.heap++[.map es]/\(es.map (·.1)).Nodup/\(∀ p∈es,∃ k,l.getD k false=true/\gU asq frm k=some p)/\∀ k p,l.getD k false=true->gU asq frm k=some p->p∈es:=by
   rcases I.heap with ⟨h0,_⟩ | ⟨_,h⟩
   ·rw[hdone 0 om] at h0;cases h0
   ·exact h
  have hmm:∀ p,p∈es↔p∈(List.range asq.length).filterMap (gU asq frm):=fun p=>by rw[dN];refine⟨fun hp=>?_,fun⟨k,hk,hp⟩=>h4 k p (hdone k (by have:=cj.1 hk;omega)) hp⟩;obtain⟨k,_,g⟩:=h3 p hp;exact⟨k,cj.2 (DD g).1,g⟩
  have ae1:((List.range asq.length).filterMap (gU asq frm)).length=es.length:=Nat.le_antisymm (F2 (Eg K4) fun x hx=>(hmm x).2 hx) (F2 (Eg h2) fun x hx=>(hmm x).1 hx);have S:Sim w0 Y (st asq.length) w1:=by
   have hb:∀ id,id≠σ.heap.length->(st asq.length).heap[id]?=τ.heap[id]?:=fun id hid=>by
    rw[K1,h1];rcases Nat.lt_or_gt_of_ne hid with h | h
    ·rw[aA h,aA h]
    ·rw[aQ (by simp;omega),aQ (by simp;omega)]
   refine⟨I.sim.bel,fun id bx h=>by have:=I.sim.dom id bx h;rw[h1] at this;rw[K1];simpa using this,I.sim.place,fun id bx g pl cs h hh hc=>?_,I.sim.inj,fun id bx h hl=>I.sim.lock id bx h (by rw[I.lock];rw[K2] at hl;exact hl),I.sim.zero,fun id bx es' h hh hc=>?_⟩
   ·rw[K3,<- I.hid] at hh;by_cases hid:id=σ.heap.length
    ·subst hid;rw[K1] at hc;simp at hc
    ·rw[hb id hid] at hc;exact I.sim.cell id bx g pl cs h hh hc
   ·rw[K3,<- I.hid] at hh;by_cases hid:id=σ.heap.length
    ·subst hid;rw[K1] at hc;simp at hc;obtain⟨b1,b2,res,ck,b3,b4⟩:=I.sim.j4 _ bx es h hh (by rw[h1];simp);refine⟨b1,b2,res,ck,b3,?_⟩;rw[<- hc];exact⟨by rw[ae1];exact b4.len,b4.nd,fun p hp=>b4.fwd p ((hmm p).2 hp),fun e he=>by obtain⟨p,hp,g⟩:=b4.bwd e he;exact⟨p,(hmm p).1 hp,g⟩⟩
    ·rw[hb id hid] at hc;exact I.sim.j4 id bx es' h hh hc
  rw[<- e3,<- e4] at hQ;refine hQ a1 w1 ⟨Y,⟨S,fun t v hv=>?_,by rw[I.size];exact G.size,(by rw[I.defers];exact G.defers.step I.stp),fun t ht=>?_,by rw[K2];have:=(kst asq.length om (av _)).1;have:=G.lock;omega⟩,I.stp⟩
  ·by_cases hw:∃ (k:Nat) (o':Oper),ops[k]?=some o'/\o'.dst=some t
   ·obtain⟨k,o',hk,hd⟩:=hw;have hkl:k < ops.size:=(bA.1 hk).1;obtain⟨ao,e1,e2⟩:=get k o' hk;rw[F1 Tf e1 (t:=t) (by rw[<- hd];exact(gy e2).2.1) (hone e1 (by rw[<- hd];exact(gy e2).2.1)) asq.length om (av _)] at hv;cases hv;exact I.set k o' t hk (hdone k hkl) hd
   ·rw[F0 Tf asq.length (av _) (fun k m _ hm hd=>by obtain⟨o',f1,f2⟩:=oN k m hm;exact hw ⟨k,o',f1,by rw[<- f2];exact hd⟩),hfr0] at hv
    have h1:=I.base t v hv;have h2:=I.oM t fun k x hk hd=>absurd ⟨k,x,hk,hd⟩ hw;show fN _ v (gC.slot a1 t);rw[h2];exact h1
  ·rw[K3] at ht;have h1:=G.hid t ht;have h2:=(kst asq.length om (av _)).1;omega
 ·-- the start
  have S:=G.sim;refine⟨X,σ,by simp,fun k o e _ hk=>?_,rfl,rfl,⟨av _,rfl,rfl,rfl,fun _ _ _=>rfl,Evo.refl X,fun id bx bx' h h'=>(by rw[h] at h';cases h';exact .inl rfl),fun id bx' h=>.inl ⟨bx',h,rfl,.inl rfl⟩⟩,rfl,rfl,⟨⟨S.bel.os,S.bel.tape,S.bel.output,S.bel.size,S.bel.block⟩,S.dom,S.place,S.cell,S.inj,S.lock,S.zero,S.j4⟩,.inl ⟨hz 0,rfl⟩,G.fr,fun k o d _ hk=>?_,fun _ _=>rfl⟩
  ·rw[hz] at hk;cases hk
  ·rw[hz] at hk;cases hk
end
end AM
namespace AM
open Go Go.RowKit
section
variable{P:Program}{w0:World}{lo:Nat}
def Ex.real:Ex->Exit
 | .normal=>.normal
 | .exit id=>if id < jc then .exit id else .goto (id - jc)
 | .ret=>.ret
theorem xE{K:Act->World->Prop}{Q:Exit->Act->World->Prop}{id:Nat}{a:Act}{w:World}(h:Q (Ex.exit id).real a w):Exit.then K Q (Ex.exit id).real a w:=by
 unfold Ex.real at *;by_cases hi:id < jc
 ·simp only[hi,if_true] at *;exact h
 ·simp only[hi,if_false] at *;exact h
theorem iC{b:Frame}{a:Act}{k:List Item}{cs:List Frame}{w:World}{c:Code} : step P (lone (b.atR a (.code (.scope c)::k)) cs w)=.next (lone (b.atR a (.code c::.inScope c::k)) cs w):=
 step_lone_go (by simp[stepG,stepG.exec,Frame.atR])
theorem uA{b:Frame}{a:Act}{k:List Item}{cs:List Frame}{w:World}{c:Code} : step P (lone (b.atR a (.inScope c::k)) cs w)=.next (lone (b.atR a k) cs w):=
 step_lone_go (by simp[stepG,stepG.exec,Frame.atR])
def abG(l:Nat)(J:Act->World->Prop)(Q:Exit->Act->World->Prop):Exit->Act->World->Prop
 | .goto l',a,w=>l'=l/\J a w
 | e,a,w=>Q e a w
def zS(F:Fence)(n:Nat)(P:Program)(l:Nat)(rest:Code)(Q:Exit->Act->World->Prop):Nat->Act->World->Prop
 | 0,_,_=>False
 | m+1,a,w=>rest.wpIn F n P (abG l (zS F n P l rest Q m) Q) a w
theorem nk{F:Fence}{n:Nat}{Q:Exit->Act->World->Prop}{a:Act}{w:World}{c rest:Code}(l m:Nat)(hf:findLabel c l=some rest)(first:c.wpIn F n P (abG l (zS F n P l rest Q m) Q) a w):(Code.scope c).wpIn F n P Q a w:=by
 intro b k cs hro hb hr;have h0:(lone (b.atR a (.code (.scope c)::k)) cs w).fenced P F:=fenced_calm hb hr rfl;have hg:gotoIn l (.inScope c::k)=some (.code rest::.inScope c::k):=by simp[gotoIn,hf]
 have out:∀ (mm:Machine) (e:Exit) (a₁:Act) (w₁:World),(∀ l',e≠.goto l')->ArrivesIn (Machine.fenced P F) P mm b (.inScope c::k) cs e a₁ w₁->ArrivesIn (Machine.fenced P F) P mm b k cs e a₁ w₁:=by
  intro mm e a₁ w₁ hne harr;cases e with
  | normal=>exact StepsIn.trans harr (.one (fenced_calm hb hr rfl) uA)
  | exit id=>
   have hx:exitTo id (.inScope c::k)=exitTo id k:=by simp[exitTo]
   exact⟨fun k' hk=>harr.1 k' (by rw[hx];exact hk),fun hr' hk=>let ⟨k₁,h1,h2⟩:=harr.2 hr' (by rw[hx];exact hk);⟨k₁,h1,h2⟩⟩
  | goto l'=>exact absurd rfl (hne l')
  | ret=>exact harr
  | panic ch=>exact harr
  | outgrown=>exact harr
 have key:∀ m a w,zS F n P l rest Q m a w->∃ e a' w',Q e a' w'/\ArrivesIn (Machine.fenced P F) P (lone (b.atR a (.code rest::.inScope c::k)) cs w) b k cs e a' w':=by
  intro m;induction m with
  | zero=>intro a w h;exact h.elim
  | succ m ih=>
   intro a w h;obtain⟨e,a₁,w₁,hq,harr⟩:=h b (.inScope c::k) cs hro hb hr;cases e with
   | goto l'=>
    obtain⟨rfl,hJ⟩:=hq;obtain⟨e₂,a₂,w₂,hq₂,harr₂⟩:=ih a₁ w₁ hJ;exact⟨e₂,a₂,w₂,hq₂,.of_steps (harr.1 _ hg) harr₂⟩
   | normal=>exact⟨_,a₁,w₁,hq,out _ _ _ _ (by simp) harr⟩
   | exit id=>exact⟨_,a₁,w₁,hq,out _ _ _ _ (by simp) harr⟩
   | ret=>exact⟨_,a₁,w₁,hq,out _ _ _ _ (by simp) harr⟩
   | panic ch=>exact⟨_,a₁,w₁,hq,out _ _ _ _ (by simp) harr⟩
   | outgrown=>exact⟨_,a₁,w₁,hq,out _ _ _ _ (by simp) harr⟩
 obtain⟨e,a₁,w₁,hq,harr⟩:=first b (.inScope c::k) cs hro hb hr
 cases e with
 | goto l'=>
  obtain⟨rfl,hJ⟩:=hq;obtain⟨e₂,a₂,w₂,hq₂,harr₂⟩:=key m a₁ w₁ hJ;exact⟨e₂,a₂,w₂,hq₂,.of_steps (.head h0 iC (harr.1 _ hg)) harr₂⟩
 | normal=>exact⟨_,a₁,w₁,hq,.of_steps (.one h0 iC) (out _ _ _ _ (by simp) harr)⟩
 | exit id=>exact⟨_,a₁,w₁,hq,.of_steps (.one h0 iC) (out _ _ _ _ (by simp) harr)⟩
 | ret=>exact⟨_,a₁,w₁,hq,.of_steps (.one h0 iC) (out _ _ _ _ (by simp) harr)⟩
 | panic ch=>exact⟨_,a₁,w₁,hq,.of_steps (.one h0 iC) (out _ _ _ _ (by simp) harr)⟩
 | outgrown=>exact⟨_,a₁,w₁,hq,.of_steps (.one h0 iC) (out _ _ _ _ (by simp) harr)⟩
theorem uq{F:Fence}{n:Nat}{Q:Exit->Act->World->Prop}{a:Act}{w:World}{c:Code}(h:c.wpIn F n P (Exit.noGoto Q) a w):(Code.scope c).wpIn F n P Q a w:=by
 intro b k cs hro hb hr;have h0:(lone (b.atR a (.code (.scope c)::k)) cs w).fenced P F:=fenced_calm hb hr rfl;obtain⟨e,a₁,w₁,hq,harr⟩:=h b (.inScope c::k) cs hro hb hr;cases e with
 | normal=>exact⟨.normal,a₁,w₁,hq,.head h0 iC (StepsIn.trans harr (.one (fenced_calm hb hr rfl) uA))⟩
 | exit id=>
  have hx:exitTo id (.inScope c::k)=exitTo id k:=by simp[exitTo]
  exact⟨_,a₁,w₁,hq,fun k' hk=>.head h0 iC (harr.1 k' (by rw[hx];exact hk)),fun hr' hk=>let ⟨k₁,h1,h2⟩:=harr.2 hr' (by rw[hx];exact hk);⟨k₁,h1,.head h0 iC h2⟩⟩
 | goto l=>exact hq.elim
 | ret=>exact⟨_,a₁,w₁,hq,.of_steps (.one h0 iC) harr⟩
 | panic ch=>exact⟨_,a₁,w₁,hq,.of_steps (.one h0 iC) harr⟩
 | outgrown=>exact⟨_,a₁,w₁,hq,.of_steps (.one h0 iC) harr⟩
theorem BL{body:Fr->St->Option (Ex×Fr×St)}{live:List Nat}{base i:Nat} : ∀ (k:Nat) (fr:Fr) (σ:St) (fr':Fr) (σ':St),iter body live base k fr σ=some (.exit i,fr',σ')->∃ fr1 σ1 fr2 σ2,body fr1 σ1=some (.exit i,fr2,σ2)
 | 0,fr,σ,fr',σ',h=>by simp[iter] at h
 | k+1,fr,σ,fr',σ',h=>by
  simp only[iter,aa] at h;obtain⟨⟨e1,fr1,σ1⟩,h1,h⟩:=h;cases e1 with
  | normal=>
   simp only[aa] at h;obtain⟨q,_,h⟩:=h;exact BL k _ _ _ _ h
  | exit j=>cases h;exact⟨_,_,_,_,h1⟩
  | ret=>cases h
theorem k7{n:Nat} : ∀ (c:fG) {fz:fD} (p:Nat->Bool),jO p c=true->∀ (fr:Fr) (σ:St) (i:Nat) (fr':Fr) (σ':St),exec fz n c fr σ=some (.exit i,fr',σ')->p i=true
 | .skip,_,p,hp,fr,σ,i,fr',σ',h=>by simp[exec] at h
 | .ret,_,p,hp,fr,σ,i,fr',σ',h=>by simp[exec] at h
 | .exit id,_,p,hp,fr,σ,i,fr',σ',h=>by
  simp only[exec,ay,bT,Ex.exit.injEq] at h;rw[<- h.1];exact hp
 | .region ops,_,p,hp,fr,σ,i,fr',σ',h=>by simp[exec] at h
 | .drawn ops,_,p,hp,fr,σ,i,fr',σ',h=>by simp[exec] at h
 | .lits ops,_,p,hp,fr,σ,i,fr',σ',h=>by simp[exec] at h
 | .sv xs m ops,_,p,hp,fr,σ,i,fr',σ',h=>by
  simp only[exec,aa,aj] at h;obtain⟨B,_,q,_,h⟩:=h;cases h
 | .seq a b,fz,p,hp,fr,σ,i,fr',σ',h=>by
  simp only[jO,au] at hp;simp only[exec,aa] at h;obtain⟨⟨e1,fr1,σ1⟩,h1,h⟩:=h;cases e1 with
  | normal=>exact k7 b p hp.2 _ _ _ _ _ h
  | exit j=>cases h;exact k7 a p hp.1 _ _ _ _ _ h1
  | ret=>cases h
 | .cond c a b,fz,p,hp,fr,σ,i,fr',σ',h=>by
  simp only[jO,au] at hp;simp only[exec] at h;split at h
  ·exact k7 a p hp.1 _ _ _ _ _ h
  ·exact k7 b p hp.2 _ _ _ _ _ h
  ·cases h
 | .block id b,fz,p,hp,fr,σ,i,fr',σ',h=>by
  simp only[jO] at hp;simp only[exec,aj] at h;obtain⟨⟨e1,fr1,σ1⟩,h1,h⟩:=h;cases e1 with
  | normal=>cases h
  | ret=>cases h
  | exit j=>
   simp only at h;split at h
   ·cases h
   ·rename_i hne;cases h;have:=k7 b _ hp _ _ _ _ _ h1;simpa[hne] using this
 | .loop live b,fz,p,hp,fr,σ,i,fr',σ',h=>by
  simp only[jO] at hp;simp only[exec,aj] at h;obtain⟨⟨e1,fr1,σ1⟩,h1,h⟩:=h;cases h;obtain⟨_,_,_,_,h2⟩:=BL _ _ _ _ _ h1;exact k7 b p hp _ _ _ _ _ h2
 | .each x g gk ps ba b,fz,p,hp,fr,σ,i,fr',σ',h=>by
  simp only[exec] at h;split at h
  ·split at h
   ·simp only[aa] at h;obtain⟨⟨e1,fr1,σ1⟩,_,h⟩:=h;unfold nC at h;split at h
    ·cases h
    ·simp only[aj] at h;obtain⟨z,_,h⟩:=h;cases h
   ·cases h
  ·cases h
theorem FrR.keep{X:Emb}{fr:Fr}{a:Act}(h:FrR X fr a):∀ l:List Nat,FrR X (fr.keep l) a
 | []=>fun t v ht=>by simp[Fr.keep,Fr.get] at ht
 | k::l=>fun t v ht=>by
  simp only[Fr.keep] at ht;split at ht
  ·rename_i q hq;simp only[Fr.get] at ht;split at ht
   ·rename_i e;subst e;cases ht;exact h k v hq
   ·exact FrR.keep h l t v ht
  ·exact FrR.keep h l t v ht
theorem xF:∀ {ks:List Nat} {vs:List Value} {t:Nat} {v:Value},Fr.get (ks.zip vs) t=some v->∃ i:Nat,ks[i]?=some t/\vs[i]?=some v/\∀ j:Nat,j < i->ks[j]?≠some t
 | [],_,_,_,h=>by simp[Fr.get] at h
 | k::ks,[],_,_,h=>by simp[Fr.get] at h
 | k::ks,u::vs,t,v,h=>by
  simp only[cU,Fr.get] at h;split at h
  ·rename_i e;subst e;cases h;exact⟨0,rfl,rfl,fun j hj=>by omega⟩
  ·rename_i hne;obtain⟨i,h1,h2,h3⟩:=xF h;refine⟨i+1,h1,h2,fun j hj=>?_⟩;cases j with
   | zero=>simpa using hne
   | succ j=>exact h3 j om
theorem Eh:∀ {fr:Fr} {i t:Nat},(fr.map (·.1))[i]?=some t->(∀ j:Nat,j < i->(fr.map (·.1))[j]?≠some t)->∃ v,(fr.map (·.2))[i]?=some v/\fr.get t=some v
 | [],i,t,h,_=>by simp at h
 | (k,u)::fr,0,t,h,_=>by
  simp at h;subst h;exact⟨u,rfl,by simp[Fr.get]⟩
 | (k,u)::fr,i+1,t,h,hj=>by
  obtain⟨v,h1,h2⟩:=Eh (fr:=fr) (i:=i) (t:=t) (by simpa using h) (fun j hj'=>by have:=hj (j+1) om;simpa using this);refine⟨v,by simpa using h1,?_⟩;have hk:¬ k=t:=by have:=hj 0 om;simpa using this
  simp[Fr.get,hk,h2]
theorem xG{X:Emb}{q u:Value}(h:gL X q u):∀ r∈fJ q,∃ bx,X r=some bx:=by
 unfold gL at h;split at h
 ·intro r hr;simp only[fJ,cM] at hr;subst hr;obtain⟨ra,_,bx,h1,_⟩:=h;exact⟨bx,h1⟩
 ·intro r hr;simp only[fJ,cM] at hr;subst hr;obtain⟨ra,c,_,_,_,bx,h1,_⟩:=h;exact⟨bx,h1⟩
 ·intro r hr;simp only[fJ,cM] at hr;subst hr;obtain⟨ra,_,bx,h1,_⟩:=h;exact⟨bx,h1⟩
 ·intro r hr;simp[fJ] at hr
 ·intro r hr;rw[AW h.1] at hr;cases hr
theorem xH{X:Emb}{l m:List Value}(h:gq (gL X) l m):∀ r∈l.flatMap fJ,∃ bx,X r=some bx:=fun r hr=>by obtain⟨v,hv,hr⟩:=aY.1 hr;obtain⟨j,hj⟩:=cS.1 hv;obtain⟨u,_,pX⟩:=h.get hj;exact xG pX r hr
theorem Rq{X:Emb}{v u:Value}(hd:held v=true)(h:lg X v u):∀ r∈fU v,∃ bx,X r=some bx:=fun r hr=>by
 cases v<;>simp only[lg] at h<;>first
  | exact xG h r hr
  | (
    obtain⟨rf,rc,_,h1,h2⟩:=h;rcases aP.1 hr with hr | hr
    ·exact xH h1 r hr
    ·exact xH h2 r hr)
  | (obtain⟨rs,_,h1⟩:=h;exact xH h1 r hr)
  | skip
 rename_i o;cases o with
 | none=>simp[fU,fJ] at hr
 | some q=>
  obtain⟨_,_,b,bx,_,h2,_⟩:=h;simp only[fU,fJ,cM] at hr;subst hr;exact⟨bx,h2⟩
theorem zT{X0 X:Emb}{τ0 σ σ':St}{vs vs':List Value}{w0 v w:World}(S:Sim w0 X σ w)(h0:Ast τ0 σ)(hd:τ0.fA=[])(hst:Stp X0 τ0 v X w)(hw:Sim w0 X0 τ0 v)(hh:∀ t∈τ0.hid,t < τ0.heap.length)(hl:τ0.lock<=τ0.heap.length)
  (hg:gc τ0.heap.length vs σ=some (vs',σ')):∃ X',Gcd w0 τ0.heap.length X σ w vs vs' σ' X'/\Stp X0 τ0 v X' w/\Ast τ0 σ':=by
 have hdom:=hw.dom;have hD:∀ id bx,id < τ0.heap.length->X id=some bx->id∉σ.hid->id∉σ.fA->∀ r∈fV σ.heap id,r < τ0.heap.length:=by
  intro id bx hi hx hn hnd r hr;have hr0:=h0.refs id hi hnd r hr;obtain⟨bx0,hx0⟩:∃ bx0,X0 id=some bx0:=by
   rcases hst.back id bx hx with ⟨bx0,h1,_⟩ | ⟨_,_,_,h4⟩
   ·exact⟨bx0,h1⟩
   ·omega
  unfold fV at hr0;cases hb:τ0.heap[id]? with
  | none=>rw[hb] at hr0;cases hr0
  | some b=>
   rw[hb] at hr0;cases b with
   | void=>simp[iN] at hr0
   | map es=>
    obtain⟨_,_,res,ck,_,c4⟩:=hw.j4 id bx0 es hx0 (by rw[<- h0.hid];exact hn) hb;simp only[iN,aY] at hr0;obtain⟨p,hp,hr0⟩:=hr0;obtain⟨_,hhd,e,_,_,pX⟩:=c4.fwd p hp;obtain⟨bx1,h1⟩:=Rq hhd pX r hr0;exact hdom _ _ h1
   | cells g pl cs=>
    obtain⟨_,_,_,_,c5,_⟩:=hw.cell id bx0 g pl cs hx0 (by rw[<- h0.hid];exact hn) hb;cases pl with
    | true=>simp[iN] at hr0
    | false=>
     simp only[iN,aY] at hr0;obtain⟨q,hq,hr0⟩:=hr0;obtain⟨j,hj⟩:=cS.1 hq;obtain⟨u,_,pX⟩:=c5 j q hj;obtain⟨bx1,h1⟩:=xG pX r hr0;exact hdom _ _ h1
 obtain⟨X',gd⟩:=Uo S (fun t ht=>hh t (by rw[<- h0.hid];exact ht)) (by rw[h0.lock];exact hl) hD hg;refine⟨X',gd,⟨hst.size,hst.os,hst.tape,hst.output,hst.frame,⟨?_,gd.y.trans hst.evo.y⟩,?_,?_⟩,h0.gc hd hg⟩
 ·intro id bx hx;obtain⟨bx',h1,h2⟩:=hst.evo.up id bx hx;exact⟨bx',by rw[gd.low id (hdom id bx hx)];exact h1,h2⟩
 ·intro id bx bx' hx hx';rw[gd.low id (hdom id bx hx)] at hx';exact hst.same id bx bx' hx hx'
 ·intro id bx' hx';by_cases hi:id < τ0.heap.length
  ·rw[gd.low id hi] at hx';exact hst.back id bx' hx'
  ·obtain⟨id0,k1,k2⟩:=gd.high id bx' om hx';have hnone:X0 id=none:=by
    cases hx0:X0 id with
    | none=>rfl
    | some bx=>exact absurd (hdom id bx hx0) hi
   rcases hst.back id0 bx' k2 with ⟨bx,h1,_⟩ | ⟨_,h2,h3,_⟩
   ·exact absurd (hdom id0 bx h1) om
   ·exact .inr ⟨hnone,h2,h3,om⟩
theorem BM{n:Nat}{X0 X:Emb}{τ0 σ σ':St}{fr fr':Fr}{a:Act}{w0 v w:World}(G:Good w0 lo n X σ fr a w)(h0:Ast τ0 σ)(hd:τ0.fA=[])(hst:Stp X0 τ0 v X w)(hw:Sim w0 X0 τ0 v)(hh:∀ t∈τ0.hid,t < τ0.heap.length)(hl:τ0.lock<=τ0.heap.length)
  (h:kS τ0.heap.length fr σ=some (fr',σ')):Ast τ0 σ'/\∃ X',Good w0 lo n X' σ' fr' a w/\Stp X0 τ0 v X' w:=by
 obtain⟨vs,hg,rfl⟩:=Ir h;obtain⟨X',gd,hst',Uj⟩:=zT G.sim h0 hd hst hw hh hl hg;refine⟨Uj,X',⟨gd.sim,?_,G.size,G.defers.sub fun id bx h=>(by
  by_cases hi:id < τ0.heap.length
  ·exact⟨id,by rw[<- gd.low id hi];exact h⟩
  ·obtain⟨id0,_,k2⟩:=gd.high id bx om h;exact⟨id0,k2⟩),fun t ht=>bg (hh t (by rw[<- h0.hid,<- gd.hid];exact ht)) Uj.len,by rw[Uj.lock];exact bh hl Uj.len⟩,hst'⟩
 intro t q ht;obtain⟨i,h1,h2,h3⟩:=xF ht;obtain⟨p,p1,p2⟩:=Eh h1 h3;exact gd.vals.2 i p q _ p1 h2 (G.fr t p p2)
theorem Sim.fA{X:Emb}{σ:St}{w:World}(S:Sim w0 X σ w)(d:List Nat):Sim w0 X { σ with fA:=d } w:=⟨S.bel,S.dom,S.place,S.cell,S.inj,S.lock,S.zero,S.j4⟩
theorem Good.fA{n:Nat}{X:Emb}{σ:St}{fr:Fr}{a:Act}{w:World}(G:Good w0 lo n X σ fr a w)(d:List Nat):Good w0 lo n X { σ with fA:=d } fr a w:=⟨G.sim.fA d,G.fr,G.size,G.defers,G.hid,G.lock⟩
theorem Stp.fA{X X':Emb}{σ:St}{w w':World}{d:List Nat}(h:Stp X { σ with fA:=d } w X' w'):Stp X σ w X' w':=⟨h.size,h.os,h.tape,h.output,h.frame,h.evo,h.same,h.back⟩
theorem BN{fz:fD}{Yp:Emb->World->Prop}{r:Option Nat}(hcf:g9 P w0 Yp fz){n m:Nat}{b:Code}{ac:fG}{live:List Nat}{X0:Emb}{τ0:St}{v:World}(hd:τ0.fA=[])(hw:Sim w0 X0 τ0 v)(hY0:Yp X0 v)(hh:∀ t∈τ0.hid,t < τ0.heap.length)(hl:τ0.lock<=τ0.heap.length)
  (hb:∀ fr σ ex fr' σ',exec fz m ac fr σ=some (ex,fr',σ')->∀ X a w,Good w0 lo n X σ fr a w->Yp X w->∀ Q:Exit->Act->World->Prop,(∀ a' w',Post w0 lo n X σ w fr' σ' a' w'->Q ex.real a' w')->b.wpIn (gC.fw r) 0 P Q a w) :
  ∀ (k:Nat) (fr:Fr) (σ:St) (ex:Ex) (fr':Fr) (σ':St),iter (exec fz m ac) live τ0.heap.length k fr σ=some (ex,fr',σ')->∀ X a w,Good w0 lo n X σ fr a w->Ast τ0 σ->Stp X0 τ0 v X w ->
   ∀ Q:Exit->Act->World->Prop,(∀ a' w',Post w0 lo n X0 τ0 v fr' σ' a' w'->Q ex.real a' w')->Code.roundsIn (gC.fw r) 0 P b Q k a w
 | 0,fr,σ,ex,fr',σ',h,_,_,_,_,_,_,_,_=>by simp[iter] at h
 | k+1,fr,σ,ex,fr',σ',h,X,a,w,G,h0,hst,Q,hQ=>by
  simp only[iter,aa] at h;obtain⟨⟨e1,fr1,σ1⟩,h1,h⟩:=h;rw[roundsIn_succ];have a1:=jB hcf.ast m ac _ _ _ _ _ G.lock h1;refine hb _ _ _ _ _ h1 X a w G (hcf.acA _ _ _ _ _ hY0 hst) _ fun a' w' ⟨X1,G1,s1⟩=>?_;have Uz:=hst.trans h0 s1;cases e1 with
  | normal=>
   simp only[aa] at h;obtain⟨⟨fr2,σ2⟩,h2,h⟩:=h;have G1':Good w0 lo n X1 σ1 (fr1.keep live) a' w':=⟨G1.sim,G1.fr.keep live,G1.size,G1.defers,G1.hid,G1.lock⟩;obtain⟨ha2,X2,G2,s2⟩:=BM G1' (h0.trans a1) hd Uz hw hh hl h2;exact BN hcf hd hw hY0 hh hl hb k _ _ _ _ _ h X2 a' w' G2 ha2 s2 Q hQ
  | exit id=>cases h;exact xE (hQ a' w' ⟨X1,G1,Uz⟩)
  | ret=>cases h;exact hQ a' w' ⟨X1,G1,Uz⟩
def acG(P:Program)(w0:World)(lo:Nat)(Yp:Emb->World->Prop)(fz:fD)(n m:Nat)(r:Option Nat)(it:Option (Nat×fG)):Prop:=
 ∀ (x:Operand) (ps:Array Tmp) (assign b:Code) (gJ:List (Nat×List Nat)) (fin out live:List Nat) (ac:fG),comp P n it gJ fin (.rangeFunc x ps assign b) out=some (ac,live) ->
  ∀ (fr:Fr) (σ:St) (ex:Ex) (fr':Fr) (σ':St),exec fz m ac fr σ=some (ex,fr',σ') ->
   ∀ X a w,Good w0 lo n X σ fr a w->Yp X w->∀ Q:Exit->Act->World->Prop,(∀ a' w',Post w0 lo n X σ w fr' σ' a' w'->Q ex.real a' w')->(Code.rangeFunc x ps assign b).wpIn (gC.fw r) 0 P Q a w
theorem Rt{Yp:Emb->World->Prop}{fz:fD}{n m:Nat}{r:Option Nat} : acG P w0 lo Yp fz n m r none:=fun x ps assign b gJ fin out live ac hc=>by simp[comp] at hc
theorem jF{fz:fD}{Yp:Emb->World->Prop}{r:Option Nat}{it:Option (Nat×fG)}{n m:Nat}(hcf:g9 P w0 Yp fz)(hm:P.follows .mixedOrders=true)(hrf:acG P w0 lo Yp fz n m r it):∀ (c:Code) (gJ:List (Nat×List Nat)) (fin out live:List Nat) (ac:fG),comp P n it gJ fin c out=some (ac,live)->∀ (fr:Fr) (σ:St) (ex:Ex) (fr':Fr) (σ':St),exec fz m ac fr σ=some (ex,fr',σ') ->
  ∀ X a w,Good w0 lo n X σ fr a w->Yp X w->∀ Q:Exit->Act->World->Prop,(∀ a' w',Post w0 lo n X σ w fr' σ' a' w'->Q ex.real a' w')->c.wpIn (gC.fw r) 0 P Q a w
 | .skip,gJ,fin,out,live,ac,hc,fr,σ,ex,fr',σ',h,X,a,w,G,hY,Q,hQ=>by
  simp only[comp] at hc;cases hc;simp only[exec] at h;cases h;exact wpIn_skip (hQ a w ⟨X,G,Stp.refl _ _ _⟩)
 | .ret,gJ,fin,out,live,ac,hc,fr,σ,ex,fr',σ',h,X,a,w,G,hY,Q,hQ=>by
  simp only[comp] at hc;cases hc;simp only[exec] at h;cases h;exact wpIn_ret (hQ a w ⟨X,G,Stp.refl _ _ _⟩)
 | .exit id,gJ,fin,out,live,ac,hc,fr,σ,ex,fr',σ',h,X,a,w,G,hY,Q,hQ=>by
  simp only[comp] at hc;split at hc
  ·split at hc
   ·rename_i hid;cases hc;simp only[exec] at h;cases h;exact wpIn_exit (by have:=hQ a w ⟨X,G,Stp.refl _ _ _⟩;simpa[Ex.real,hid] using this)
   ·cases hc
  ·cases hc
 | .region id ops draw,gJ,fin,out,live,ac,hc,fr,σ,ex,fr',σ',h,X,a,w,G,hY,Q,hQ=>by
  simp only[comp,aa] at hc;obtain⟨asq,has,hc⟩:=hc;cases draw with
  | true=>
   simp only[if_true] at hc;split at hc
   ·rename_i hst;split at hc
    ·rename_i acF;cases hc;simp only[exec,aj] at h;obtain⟨⟨fr1,σ1⟩,h1,h⟩:=h;cases h;exact My hcf.gE hm hst acF has h1 G hQ
    split at hc
    ·cases hc;rename_i hmx;simp only[exec,aa,aj] at h;obtain⟨B,hB,⟨fr1,σ1⟩,h1,h⟩:=h;cases h;exact Mu hcf.gE hm hst (Rp hmx) has (BI G hB) h1 G hQ
    ·cases hc;simp only[exec,aj] at h;obtain⟨⟨fr1,σ1⟩,h1,h⟩:=h;cases h;exact Ms hcf.gE hm hst has h1 G hQ
   ·cases hc
  | false=>
   simp only[aO,if_false] at hc;cases hc;simp only[exec,aj] at h;obtain⟨⟨fr1,σ1⟩,h1,h⟩:=h;cases h;exact wpIn_region_list (u7 hcf ops.toList asq has _ _ _ _ h1 X a w G hY hQ)
 | .seq x y,gJ,fin,out,live,ac,hc,fr,σ,ex,fr',σ',h,X,a,w,G,hY,Q,hQ=>by
  simp only[comp,aa,aj] at hc;obtain⟨q,hq,p,hp,hc⟩:=hc;cases hc;simp only[exec,aa] at h;obtain⟨⟨e1,fr1,σ1⟩,h1,h⟩:=h;have a1:=jB hcf.ast m _ _ _ _ _ _ G.lock h1;refine wpIn_seq (jF hcf hm hrf x gJ fin q.2 p.2 p.1 hp _ _ _ _ _ h1 X a w G hY _ fun a' w' ⟨X1,G1,s1⟩=>?_);cases e1 with
  | normal=>exact jF hcf hm hrf y gJ fin out q.2 q.1 hq _ _ _ _ _ h X1 a' w' G1 (hcf.acA _ _ _ _ _ hY s1) Q fun a2 w2 ⟨X2,G2,s2⟩=>hQ a2 w2 ⟨X2,G2,s1.trans a1 s2⟩
  | exit id=>cases h;exact xE (hQ a' w' ⟨X1,G1,s1⟩)
  | ret=>cases h;exact hQ a' w' ⟨X1,G1,s1⟩
 | .cond c x y,gJ,fin,out,live,ac,hc,fr,σ,ex,fr',σ',h,X,a,w,G,hY,Q,hQ=>by
  simp only[comp] at hc;split at hc
  ·rename_i hk;simp only[aa,aj] at hc;obtain⟨p,hp,q,hq,hc⟩:=hc;cases hc;simp only[exec] at h;split at h
   ·rename_i e;exact wpIn_cond_true (kE (G.fr.ev hk e)) (jF hcf hm hrf x gJ fin out p.2 p.1 hp _ _ _ _ _ h X a w G hY Q hQ)
   ·rename_i e;exact wpIn_cond_false (kE (G.fr.ev hk e)) (jF hcf hm hrf y gJ fin out q.2 q.1 hq _ _ _ _ _ h X a w G hY Q hQ)
   ·cases h
  ·cases hc
 | .block id b,gJ,fin,out,live,ac,hc,fr,σ,ex,fr',σ',h,X,a,w,G,hY,Q,hQ=>by
  simp only[comp] at hc;split at hc;case isFalse=>cases hc
  rename_i hid;simp only[aj] at hc;obtain⟨p,hp,hc⟩:=hc;cases hc;simp only[exec,aj] at h;obtain⟨⟨e1,fr1,σ1⟩,h1,h⟩:=h;refine wpIn_block (jF hcf hm hrf b _ fin out p.2 p.1 hp _ _ _ _ _ h1 X a w G hY _ fun a' w' hp'=>?_);cases e1 with
  | normal=>cases h;exact hQ a' w' hp'
  | ret=>cases h;exact hQ a' w' hp'
  | exit i=>
   simp only at h;split at h
   ·rename_i e;cases h;have:=hQ a' w' hp';simpa only[Ex.real,e,hid,if_true,Exit.inBlock] using this
   ·rename_i e;cases h;have:=hQ a' w' hp';unfold Ex.real at this ⊢;by_cases hi:i < jc
    ·simp only[hi,if_true] at this ⊢;simp only[Exit.inBlock,if_neg e];exact this
    ·simp only[hi,if_false] at this ⊢;exact this
 | .loop b,gJ,fin,out,live,ac,hc,fr,σ,ex,fr',σ',h,X,a,w,G,hY,Q,hQ=>by
  simp only[comp,aa,aj] at hc;obtain⟨p,hp,q,hq,r',hr,hc⟩:=hc;cases hc;simp only[exec,aj] at h;obtain⟨⟨e1,fr1,σ1⟩,h1,h⟩:=h;cases h;have G0:Good w0 lo n X { σ with fA:=[] } (fr.keep q.2) a w:=⟨G.sim.fA [],G.fr.keep _,G.size,G.defers,G.hid,G.lock⟩;refine wpIn_loop_rounds m (BN (τ0:={ σ with fA:=[] }) hcf rfl (G.sim.fA []) hY G.hid G.lock (fun fr σ ex fr' σ' h=>jF hcf hm hrf b gJ fin q.2 r'.2 r'.1 hr fr σ ex fr' σ' h) m _ _ _ _ _ h1 X a w G0 (Ast.refl _) (Stp.refl _ _ _) Q fun a' w' ⟨X1,G1,s1⟩=>hQ a' w' ⟨X1,G1.fA _,s1.fA⟩)
 | .rangeFunc x ps assign b,gJ,fin,out,live,ac,hc,fr,σ,ex,fr',σ',h,X,a,w,G,hY,Q,hQ=>hrf x ps assign b gJ fin out live ac hc fr σ ex fr' σ' h X a w G hY Q hQ
 | .scope c,gJ,fin,out,live,ac,hc,fr,σ,ex,fr',σ',h,X,a,w,G,hY,Q,hQ=>by
  simp only[comp,aa] at hc;obtain⟨p,hp,hc⟩:=hc;split at hc
  ·rename_i hin;cases hc;refine uq (jF hcf hm hrf c gJ fin out live ac hp fr σ ex fr' σ' h X a w G hY _ fun a' w' hp'=>?_);have:=hQ a' w' hp';cases ex with
   | normal=>exact this
   | ret=>exact this
   | exit i=>
    have hi:i < jc:=by simpa using k7 _ _ hin _ _ _ _ _ h
    simpa only[Ex.real,hi,if_true,Exit.noGoto] using this
  ·cases hc
 | .label l,gJ,fin,out,live,ac,hc,fr,σ,ex,fr',σ',h,X,a,w,G,hY,Q,hQ=>by
  simp only[comp] at hc;cases hc;simp only[exec] at h;cases h;exact wpIn_label (hQ a w ⟨X,G,Stp.refl _ _ _⟩)
 | .goto l,gJ,fin,out,live,ac,hc,fr,σ,ex,fr',σ',h,X,a,w,G,hY,Q,hQ=>by
  simp only[comp] at hc;split at hc
  ·cases hc;simp only[exec] at h;cases h;have hl:¬ jc+l < jc:=om
   refine wpIn_goto (by have:=hQ a w ⟨X,G,Stp.refl _ _ _⟩;simpa[Ex.real,hl] using this)
  ·cases hc
 | .refuse _,_,_,_,_,_,hc,_,_,_,_,_,_,_,_,_,_,_,_,_=>by simp[comp] at hc
theorem sL{fz:fD}{Yp:Emb->World->Prop}{r:Option Nat}{n m:Nat}(hcf:g9 P w0 Yp fz)(hm:P.follows .mixedOrders=true)(c:Code)(gJ:List (Nat×List Nat))(fin out live:List Nat)(ac:fG)(hc:comp P n none gJ fin c out=some (ac,live))(fr:Fr)(σ:St)(ex:Ex)(fr':Fr)(σ':St)(h:exec fz m ac fr σ=some (ex,fr',σ'))
  (X:Emb) (a:Act) (w:World) (G:Good w0 lo n X σ fr a w) (hY:Yp X w) (Q:Exit->Act->World->Prop) (hQ:∀ a' w',Post w0 lo n X σ w fr' σ' a' w'->Q ex.real a' w'):c.wpIn (gC.fw r) 0 P Q a w:=
 jF hcf hm Rt c gJ fin out live ac hc fr σ ex fr' σ' h X a w G hY Q hQ
theorem xI:∀ (l:List Value) (i t:Nat) (v:Value),Fr.get (gS i l) t=some v->i<=t/\l[t - i]?=some v
 | [],i,t,v,h=>by simp[gS,Fr.get] at h
 | x::l,i,t,v,h=>by
  simp only[gS,Fr.get] at h;split at h
  ·rename_i e;subst e;cases h;simp
  ·rename_i e;obtain⟨h1,h2⟩:=xI l (i+1) t v h;refine⟨om,?_⟩;rw[show t - i=(t - (i+1))+1 by omega];simpa using h2
def Emb.at_(X:Emb)(y:Nat):Emb:=⟨X.fn,y⟩
theorem OX{X:Emb}{y:Nat}{v u:Value} : gL (X.at_ y) v u↔gL X v u:=Iff.rfl
theorem Zp{X:Emb}{y:Nat}{v u:Value}(h:fN X v u)(hp:oF v=true):fN (X.at_ y) v u:=by
 cases v<;>first
  | exact h
  | simp[oF] at hp
theorem Zq{X:Emb}{y:Nat}{v u:Value}(h:lg X v u)(hd:held v=true):lg (X.at_ y) v u:=by
 cases v<;>first
  | exact h
  | skip
 rename_i g fi ca;cases g<;>first
  | exact h
  | simp[held,fY,sc] at hd
theorem Zr{X:Emb}{y:Nat}{es:List (Value×Value)}{res:List MapEntry}(h:sB X es res):sB (X.at_ y) es res:=
 ⟨h.len,h.nd,fun p hp=>by obtain⟨h1,h0,e,he,h2,h3⟩:=h.fwd p hp;exact⟨h1,h0,e,he,h2,Zq h3 h0⟩,h.bwd⟩
theorem Sim.at_{X:Emb}{σ:St}{w:World}(S:Sim w0 X σ w)(y:Nat):Sim w0 (X.at_ y) σ w:=
 ⟨S.bel,S.dom,S.place,fun id bx g pl cs h1 h2 h3=>by
  obtain⟨a1,a2,a3,a4,a5,a6⟩:=S.cell id bx g pl cs h1 h2 h3;exact⟨a1,a2,a3,a4,fun j v hj=>by obtain⟨u,hu,hr⟩:=a5 j v hj;exact⟨u,hu,OX.2 hr⟩,a6⟩,S.inj,S.lock,S.zero,fun id bx es h1 h2 h3=>by obtain⟨a1,a2,res,ck,a3,a4⟩:=S.j4 id bx es h1 h2 h3;exact⟨a1,a2,res,ck,a3,Zr a4⟩⟩
theorem Stp.at_{X X':Emb}{σ:St}{w w':World}(s:Stp X σ w X' w')(y:Nat):Stp (X.at_ y) σ w (X'.at_ y) w':=⟨s.size,s.os,s.tape,s.output,s.frame,⟨s.evo.up,rfl⟩,s.same,s.back⟩
theorem Sim.put{X:Emb}{σ:St}{w:World}{l:Nat}(o:Obj)(S:Sim w0 X σ w)(h1:w0.heap.size<=l)(h2:∀ id bx,X id=some bx->bx.b≠l):Sim w0 X σ (w.putObj l o):=by
 have hk:∀ k,k≠l->(w.putObj l o).heap[k]?=w.heap[k]?:=fun k hk=>World.putObj_heap_other hk;have hs:(w.putObj l o).heap.size=w.heap.size:=by simp[World.putObj]
 refine⟨S.bel.trans ⟨rfl,rfl,rfl,by rw[hs];exact av _,fun k hk'=>hk k om⟩,S.dom,fun id bx h=>⟨by rw[hs];exact(S.place id bx h).1,(S.place id bx h).2⟩,fun id bx g pl cs e1 e2 e3=>?_,S.inj,S.lock,S.zero,fun id bx es e1 e2 e3=>by obtain⟨a1,a2,res,ck,a3,a4⟩:=S.j4 id bx es e1 e2 e3;exact⟨a1,a2,res,ck,by rw[hk bx.b (h2 id bx e1)];exact a3,a4⟩⟩
 obtain⟨a1,a2,a3,a4,a5,a6⟩:=S.cell id bx g pl cs e1 e2 e3;have hb:=hk bx.b (h2 id bx e1);refine⟨a1,a2,a3,a4,fun j v hj=>?_,fun ho=>?_⟩
 ·obtain⟨u,hu,hr⟩:=a5 j v hj;exact⟨u,by rw[World.cell?_of_block (w:=w) hb];exact hu,hr⟩
 ·obtain⟨b1,rs,ty,lo',hi,b2,b3⟩:=a6 ho;exact⟨b1,rs,ty,lo',hi,by rw[hb];exact b2,b3⟩
theorem Stp.UA{X X':Emb}{σ:St}{w w':World}{l:Nat}{o o1:Obj}(h0:w.heap[l]?=some o)(s:Stp X σ (w.putObj l o1) X' w'):Stp X σ w X' (w'.putObj l o):=by
 have hs:∀ (w:World) o,(w.putObj l o).heap.size=w.heap.size:=fun w o=>by simp[World.putObj]
 refine⟨by have:=s.size;rw[hs] at this ⊢;exact this,s.os,s.tape,s.output,fun k hk hx=>?_,s.evo,s.same,fun id bx' h=>?_⟩
 ·by_cases e:k=l
  ·subst e;rw[h0];exact World.putObj_heap_same (by have:=s.size;rw[hs] at this;omega)
  ·rw[World.putObj_heap_other e,s.frame k (by rw[hs];exact hk) hx,World.putObj_heap_other e]
 ·have:=s.back id bx' h;rw[hs] at this;exact this
theorem Stp.after{X X':Emb}{σ:St}{w w' w2:World}(s:Stp X σ w X' w')(h1:w2.heap.size=w'.heap.size)(h2:∀ k,k < w.heap.size->w2.heap[k]?=w'.heap[k]?)(h3:w2.os=w'.os)(h4:w2.tape=w'.tape)(h5:w2.output=w'.output):Stp X σ w X' w2:=
 ⟨by rw[h1];exact s.size,h3.trans s.os,h4.trans s.tape,h5.trans s.output,fun k hk hx=>by rw[h2 k hk];exact s.frame k hk hx,s.evo,s.same,s.back⟩
theorem vY:∀ {a b:Fr} {t:Nat} {v:Value},(a++b).get t=some v->a.get t=some v\/((∀ p∈a,p.1≠t)/\b.get t=some v)
 | [],b,t,v,h=>.inr ⟨fun p hp=>by (cases hp),h⟩
 | (k,u)::a,b,t,v,h=>by
  simp only[aS,Fr.get] at h ⊢;split at h
  ·rename_i e;rw[if_pos e];exact .inl h
  ·rename_i e;rw[if_neg e];rcases vY h with h1 | ⟨h1,h2⟩
   ·exact .inl h1
   ·exact .inr ⟨fun p hp=>by
     rcases aJ.1 hp with rfl | hp
     ·exact e
     ·exact h1 p hp,h2⟩
def nW(tm:Array Value)(l:List (Nat×Value)):Array Value:=l.foldl (fun tm p=>tm.setIfInBounds p.1 p.2) tm
theorem yH:∀ (l:List (Nat×Value)) (tm:Array Value),(nW tm l).size=tm.size
 | [],tm=>rfl
 | p::l,tm=>by rw[nW,dg];exact(yH l _).trans (by simp)
theorem vc{t:Nat} : ∀ (l:List (Nat×Value)) (tm:Array Value),(∀ p∈l,p.1≠t)->(nW tm l).getD t undef=tm.getD t undef
 | [],tm,_=>rfl
 | p::l,tm,h=>by rw[nW,dg];refine(vc l _ fun q hq=>h q (List.mem_cons_of_mem _ hq)).trans ?_;have:=h p dO;simp[c8 this]
theorem Ei{t:Nat}{u:Value} : ∀ (l:List (Nat×Value)) (tm:Array Value) (i:Nat),l[i]?=some (t,u)->(l.map (·.1)).Nodup->t < tm.size->(nW tm l).getD t undef=u
 | [],tm,i,h,_,_=>by simp at h
 | p::l,tm,0,h,hn,ht=>by
  simp at h;subst h;rw[nW,dg];simp only[aK,cH] at hn;refine(vc l _ fun q hq e=>hn.1 (by rw[<- e];exact List.mem_map_of_mem hq)).trans ?_;simp[ht]
 | p::l,tm,i+1,h,hn,ht=>by rw[nW,dg];simp only[aK,cH] at hn;exact Ei l _ i (by simpa using h) hn.2 (by simpa using ht)
structure xJ(w0:World)(rec:Loop)(X:Emb)(w:World):Prop where
 at_:w.heap[X.y]?=some (.loop rec)
 low:w0.heap.size<=X.y
 clear:∀ id bx,X id=some bx->bx.b≠X.y
theorem xJ.step{rec:Loop}{X X':Emb}{σ:St}{w w':World}(h:xJ w0 rec X w)(s:Stp X σ w X' w'):xJ w0 rec X' w':=by obtain⟨k1,k2⟩:=s.clear (tU h.at_) h.clear;exact⟨by rw[s.evo.y,k1];exact h.at_,by rw[s.evo.y];exact h.low,fun id bx hx=>by rw[s.evo.y];exact k2 id bx hx⟩
def nH(fn:FuncId)(a:Act)(ps:Array Tmp)(assign body:Code)(D:Nat):Loop:={ state:=.ready,pending:=none,fn:=fn,tmps:=a.tmps,params:=ps,assign:=assign,body:=body,defers:=D }
theorem I7{fz:fD}{n m:Nat}(hcf:g9 P w0 qp fz)(hm:P.follows .mixedOrders=true){assign body:Code}{pa pb:fG}{oa la ob lb:List Nat}(hpa:comp P n none [] [] assign oa=some (pa,la))(hpb:comp P n none [] [] body ob=some (pb,lb))
  {ps:Array Tmp} (hnd:ps.toList.Nodup) (hlt:∀ t∈ps.toList,t < n) {X:Emb} {σ:St} {fr:Fr} {a:Act} {w:World} (G:Good w0 lo n X σ fr a w) {DE:FuncId} {D:Nat}
  {X2:Emb} {τ τ':St} {w2:World} {args:List Value} {rargs:Array Value} {v:Value} (hL:xJ w0 (nH DE a ps assign body D) X2 w2) (hE:Evo X (X2.at_ X.y)) (S:Sim w0 X2 τ w2) (hh:∀ t∈τ.hid,t < τ.heap.length) (hl:τ.lock<=τ.heap.length) (hr:gq (fN X2) args rargs.toList)
  (h:jJ (exec fz m pa) (exec fz m pb) ps.toList fr args τ=some (v,τ')) :
  ∃ fn tmps assign body,(Instr.yield X2.y rargs).run P w2=.ok (.round X2.y fn tmps assign body) w2/\RoundIn Fence.wide 0 P X2.y fn tmps assign body w2 (Ends w0 X2 τ w2 v τ'):=by
 unfold jJ at h;split at h;case isFalse=>cases h
 rename_i hc;simp only[au,decide_eq_true_eq] at hc;obtain⟨hc1,hc2⟩:=hc;simp only[aa] at h;obtain⟨⟨e1,fr1,σ1⟩,h1,h⟩:=h;cases e1 with
 | exit id=>cases h
 | ret=>cases h
 | normal=>
 simp only[aa] at h;obtain⟨⟨e2,fr2,σ2⟩,h2,h⟩:=h;cases e2 with
 | exit id=>cases h
 | ret=>cases h
 | normal=>
 simp only[aj] at h;obtain⟨z,h3,h4⟩:=h;cases h4;have hsz:rargs.size=(nH DE a ps assign body D).params.size:=by have:=hr.1;simp only[bZ] at this;show rargs.size=ps.size;rw[<- this,hc1];simp
 refine⟨_,_,_,_,run_yield hL.at_ hsz,roundIn_of_wpIn trivial ?_⟩;have htm:(((nH DE a ps assign body D).params.zip rargs).foldl (fun tmps (t,a)=>tmps.setIfInBounds t a) (nH DE a ps assign body D).tmps)=nW a.tmps (ps.toList.zip rargs.toList):=by unfold nW;rw[<- Array.toList_zip,Array.foldl_toList];rfl
 rw[htm];have hX2:∀ {v u:Value},oF v=true->fN X2 v u->fN (X2.at_ X.y) v u:=fun hp h=>Zp h hp;have abH:(ps.toList.zip rargs.toList).map (·.1)=ps.toList:=by rw[List.map_fst_zip];have:=hr.1;omega
 have G1:Good w0 w2.heap.size n (X2.at_ X.y) { τ with fA:=[] } (ps.toList.zip args++fr) { tmps:=nW a.tmps (ps.toList.zip rargs.toList),defers:=[] } w2:=by
  refine⟨(S.at_ _).fA [],fun t q ht=>?_,by show n<=(nW _ _).size;rw[yH];exact G.size,Marks.nil (av _),hh,hl⟩;show fN (X2.at_ X.y) q ((nW a.tmps (ps.toList.zip rargs.toList)).getD t undef);rcases vY ht with h5 | ⟨h5,h6⟩
  ·obtain⟨i,i1,i2,_⟩:=xF h5;obtain⟨u,hu,pX⟩:=hr.get i2;rw[Ei (u:=u) (ps.toList.zip rargs.toList) a.tmps i (by rw[List.getElem?_zip_eq_some];exact⟨i1,hu⟩) (by rw[abH];exact hnd) (bg (hlt t (aW i1)) G.size)];exact hX2 (aF.1 hc2 q (aW i2)) pX
  ·rw[vc]
   ·exact(G.fr t q h6).evo hE
   ·intro p hp e;have hpm:p.1∈ps.toList:=by rw[<- abH];exact List.mem_map_of_mem hp
    obtain⟨i,hi⟩:=cS.1 hpm;have hia:i < args.length:=by rw[hc1];exact(af.1 hi).1
    exact h5 (p.1,args[i]) (cS.2 ⟨i,by rw[List.getElem?_zip_eq_some];exact⟨hi,aq hia⟩⟩) e
 have A1:=jB hcf.ast m pa _ { τ with fA:=[] } _ _ _ hl h1;refine sL (r:=some X2.y) hcf hm assign [] [] oa la pa hpa _ _ _ _ _ h1 _ _ w2 G1 trivial _ fun a1 w3 ⟨X3,G3,s3⟩=>?_;obtain⟨c1,c2⟩:=s3.clear (tU hL.at_) hL.clear;rw[hL.at_] at c1;refine⟨_,run_beginRound c1 rfl,?_⟩;have G3':Good w0 w2.heap.size n X3 σ1 fr1 a1 (w3.putObj X2.y (.loop { nH DE a ps assign body D with state:=.busy })):=by
  refine⟨G3.sim.put _ hL.low c2,G3.fr,G3.size,⟨fun d hd=>?_,G3.defers.one,by have:=G3.defers.low;simpa[World.putObj] using this⟩,G3.hid,G3.lock⟩;obtain⟨E,k1,k2,k3,k4⟩:=G3.defers.each d hd;have hne:E≠X2.y:=fun e=>by rw[e,c1] at k2;cases k2
  exact⟨E,k1,by rw[World.putObj_heap_other hne];exact k2,k3,k4⟩
 have A2:=jB hcf.ast m pb _ σ1 _ _ _ (by rw[A1.lock];exact bh hl A1.len) h2;refine sL (r:=some X2.y) hcf hm body [] [] ob lb pb hpb _ _ _ _ _ h2 _ _ _ G3' trivial _ fun a2 w4 ⟨X4,G4,s4⟩=>?_;have hb3:(w3.putObj X2.y (.loop { nH DE a ps assign body D with state:=.busy })).heap[X2.y]?=some (.loop { nH DE a ps assign body D with state:=.busy }):=World.putObj_heap_same (tU c1);obtain⟨c3,c4⟩:=s4.clear (tU hb3) c2;rw[hb3] at c3;refine⟨_,_,run_endRound none c3,?_⟩;have ahv:=s3.trans A1 (Stp.UA c1 s4);have S5:=G4.sim.put (Obj.loop (nH DE a ps assign body D)) hL.low c4;obtain⟨X5,gd,s5,_⟩:=zT (τ0:={ τ with fA:=[] }) S5 (A1.trans A2) rfl ahv ((S.at_ X.y).fA []) hh hl (vs':=z.1) (σ':=z.2) h3;exact⟨.bool true,X5.at_ X2.y,rfl,(gw rfl).2 rfl,(gd.sim.at_ X2.y).fA _,(s5.fA).at_ X2.y⟩
structure Alike(lo:Nat)(w w':World):Prop where
 size:w'.heap.size=w.heap.size
 low:∀ k,k < lo->w'.heap[k]?=w.heap[k]?
 os:w'.os=w.os
 tape:w'.tape=w.tape
 output:w'.output=w.output
theorem vZ{F:Fence}{n:Nat}{fn:Func}{tmps:Array Value}{R:Ending->World->Prop}{X:Emb}{σ:St}(hlo:w0.heap.size<=lo):∀ (ds:List Deferred) (w:World),Marks lo X ds w->Sim w0 X σ w ->
  (∀ w',Sim w0 X σ w'->Alike lo w w'->∃ v,(results fn tmps).run P w'=.ok v w'/\R (.returned v) w')->LeavesInM F n P fn tmps R ds .returning w
 | [],w,M,S,h=>by
  simp only[LeavesInM,LeavesIn];exact h w S ⟨rfl,fun _ _=>rfl,rfl,rfl,rfl⟩
 | d::ds,w,M,S,h=>by
  obtain⟨D,h1,h2,h3,h4⟩:=M.each d dO;have hnd:=cH.1 M.one;simp only[LeavesInM];refine⟨by simp,.inl ⟨D,w.putObj D (.deferred none),by rw[h1],run_takeDeferred h2,?_⟩⟩;refine vZ hlo ds _ ⟨fun d' hd'=>?_,hnd.2,by have:=M.low;simpa[World.putObj] using this⟩ (S.put _ om h4) fun w' S' A=>h w' S' ?_
  ·obtain⟨D',k1,k2,k3,k4⟩:=M.each d' (List.mem_cons_of_mem _ hd');have hne:D'≠D:=fun e=>hnd.1 (by rw[h1,<- e,<- k1];exact hd');exact⟨D',k1,by rw[World.putObj_heap_other hne];exact k2,k3,k4⟩
  ·exact⟨A.size.trans (by simp[World.putObj]),fun k hk=>(A.low k hk).trans (World.putObj_heap_other om),A.os,A.tape,A.output⟩
theorem yI{fid:FuncId}{f:Func}{c:Code}(hf:P.funcs[fid]?=some f)(hb:f.body=some c){args:Array Value}{w:World}{R:Ending->World->Prop}(hlo:w0.heap.size<=w.heap.size)
  (h:c.wpIn (gC.fw none) 0 P (fun e a' w'=>(e=.normal\/e=.ret)/\∃ X' σ',Sim w0 X' σ' w'/\Marks w.heap.size X' a'.defers w'/\∀ w2,Sim w0 X' σ' w2->Alike w.heap.size w' w2->∃ v,(results f a'.tmps).run P w2=.ok v w2/\R (.returned v) w2)
   { tmps:=args++Array.replicate (f.ntmps - args.size) undef,defers:=[] } w):Calls P fid args w R:=by refine(callsIn_wide (n:=0)).1 (callsIn_of_wp_marks (F:=Fence.wide) hf hb trivial (wpIn_mono h fun e a' w' ⟨he,X',σ',S,M,hk⟩=>?_));rcases he with rfl | rfl<;>exact vZ hlo _ _ M S hk
def UB (P : Program) (it : Option (Nat × fG)) : Prop := ∀ g gc, it = some (g, gc) -> ∃ fg cg live, P.funcs[g]? = some fg /\ fg.name ≠ "runtime.NumGoroutine" /\ fg.body = some cg /\ fg.results = #[] /\ comp P fg.ntmps none [] [] cg [] = some (gc, live)
theorem Ej:∀ {l:List Nat},jP l=true->l.Nodup
 | [],_=>List.nodup_nil
 | r::l,h=>by simp only[jP,au,bU,eF,decide_eq_false_iff_not] at h;exact cH.2 ⟨h.1,Ej h.2⟩
theorem ae2{fz:fD}{it:Option (Nat×fG)}{n m:Nat}(hcf:g9 P w0 qp fz)(hm:P.follows .mixedOrders=true)(hit:UB P it):acG P w0 lo qp fz n m none it:=by
 intro x ps assign b gJ fin out live ac hc fr σ ex fr' σ' h X a w G _ Q hQ;simp only[comp,aa] at hc;obtain⟨⟨g,gk⟩,rfl,hc⟩:=hc;split at hc;case isFalse=>cases hc
 rename_i hk;simp only[au,aF,decide_eq_true_eq] at hk;obtain⟨⟨hk1,hk2⟩,hk3⟩:=hk;simp only[aa,aj] at hc;obtain⟨q,hq,p,hp,hc⟩:=hc;cases hc;simp only[exec] at h;split at h;case h_2=>cases h
 rename_i h' fi ca e;split at h;case isFalse=>cases h
 rename_i hg;simp only[au,beq_iff_eq,Array.isEmpty_iff] at hg;obtain⟨rfl,rfl⟩:=hg;simp only[aa] at h;obtain⟨⟨e1,fr1,σ1⟩,h1,h⟩:=h;obtain⟨fg,cg,lv,i1,i2,i3,i4,i5⟩:=hit _ _ rfl;obtain⟨rf,rc,ev1,r1,r2⟩:=Bf (G.fr.ev hk1 e);have hrf:rf=#[]:=by have:=r1.L4;simpa using this
 subst hrf;have hen:Mn P h':=⟨fg,i1,i2,by rw[i3];rfl⟩;refine wpIn_rangeFunc fun DE _=>?_;obtain⟨rec,xg⟩:∃ rec,rec=nH DE a ps assign b w.heap.size:=⟨_,rfl⟩;obtain⟨W1,hW1⟩:∃ W1,W1=(w.alloc (.deferred (some []))).alloc (.loop rec):=⟨_,rfl⟩;have hl1:W1.heap[w.heap.size+1]?=some (.loop rec):=by rw[hW1];have:=World.alloc_heap_new (w.alloc (.deferred (some []))) (.loop rec);rwa [World.size_alloc] at this
 have hd1:W1.heap[w.heap.size]?=some (.deferred (some [])):=by rw[hW1];exact(Below.heap_alloc _ _ _ (by simp)).trans (World.alloc_heap_new w _)
 have hold:∀ k,k < w.heap.size->W1.heap[k]?=w.heap[k]?:=fun k hk=>by rw[hW1];exact(Below.heap_alloc _ _ _ (by simp;omega)).trans (Below.heap_alloc _ _ _ hk)
 have aiu:W1.heap.size=w.heap.size+2:=by rw[hW1];simp
 have UC:Below w.heap.size w W1:=by rw[hW1];exact((Below.refl _ w).alloc (av _) _).alloc (by simp) _
 refine⟨w.heap.size+1,[{ target:=.collected w.heap.size,args:=#[] }],W1,{ target:=.fn (.func h') rc,args:=#[.func (.yield (w.heap.size+1)) #[] #[]] },W1,h',#[.func (.yield (w.heap.size+1)) #[] #[]]++rc,W1,?_,?_,fun _ _=>trivial,?_,fun h=>(by cases h),gC.IU (r:=none) ?_⟩
 ·rw[hW1,xg];exact run_enterLoop_outer _ _ _ _ _
 ·simp only[resolve,ev1];simp[go_sem]
 ·simp[invoke,go_sem,n9 hen]
 -- the function that is ranged over
 have hy:=pW hcf.ast (y:=jJ (exec fz m p.1) (exec fz m q.1) ps.toList fr) fun args σ v σ' hl h=>Ba (fun fr σ e fr' σ' hl h=>jB hcf.ast m _ fr σ e fr' σ' hl h) (fun fr σ e fr' σ' hl h=>jB hcf.ast m _ fr σ e fr' σ' hl h) hl h;have ahw:g9 P w0 (fun X2 w2=>xJ w0 rec X2 w2/\Evo X (X2.at_ X.y)) (jh fz (jJ (exec fz m p.1) (exec fz m q.1) ps.toList fr)):=
  ⟨hy,fun X2 τ w2 X3 w3 ⟨k1,k2⟩ s=>⟨k1.step s,k2.trans ⟨s.evo.up,rfl⟩⟩,fun g args τ v τ' hgc=>by
   cases g with
   | func f=>
    rcases hcf.call (.func f) args τ v τ' hgc with k1 | ⟨k,k1,_⟩
    ·exact .inl k1
    ·cases k1
   | yield k=>
    refine .inr ⟨k,rfl,fun X2 w2 rargs ⟨k1,k2⟩ S hh hl hr=>?_⟩;rw[xg] at k1;exact I7 hcf hm hp hq (Ej hk2) hk3 G k1 k2 S hh hl hr hgc
   | _=>simp[jh] at hgc⟩
 have S1:Sim w0 (X.at_ (w.heap.size+1)) { σ with fA:=[] } W1:=by
  refine Sim.at_ (Sim.fA ?_ []) _;exact⟨uP G.sim.bel UC,G.sim.dom,fun id bx h=>⟨by have:=(G.sim.place id bx h).1;omega,(G.sim.place id bx h).2⟩,fun id bx g pl cs h1 h2 h3=>by
   obtain⟨a1,a2,a3,a4,a5,a6⟩:=G.sim.cell id bx g pl cs h1 h2 h3;have hlt:=(G.sim.place id bx h1).1;refine⟨a1,a2,a3,a4,fun j v hj=>?_,fun ho=>?_⟩
   ·obtain⟨u,hu,hr⟩:=a5 j v hj;exact⟨u,by rw[UC.cell hlt];exact hu,hr⟩
   ·obtain⟨b1,rs,ty,lo,hi,b2,b3⟩:=a6 ho;exact⟨b1,rs,ty,lo,hi,by rw[hold _ hlt];exact b2,b3⟩,G.sim.inj,G.sim.lock,G.sim.zero,fun id bx es h1 h2 h3=>by obtain⟨a1,a2,res,ck,a3,a4⟩:=G.sim.j4 id bx es h1 h2 h3;exact⟨a1,a2,res,ck,by rw[hold _ (G.sim.place id bx h1).1];exact a3,a4⟩⟩
 have DB:w0.heap.size<=w.heap.size:=G.sim.bel.size;have L1:xJ w0 rec (X.at_ (w.heap.size+1)) W1:=⟨hl1,by show w0.heap.size<=w.heap.size+1;omega,fun id bx hx e=>by have:=(G.sim.place id bx hx).1;have e':bx.b=w.heap.size+1:=e;omega⟩
 have hD1:∀ id bx,X id=some bx->bx.b≠w.heap.size:=fun id bx hx e=>by have:=(G.sim.place id bx hx).1;omega
 have G1:Good w0 W1.heap.size fg.ntmps (X.at_ (w.heap.size+1)) { σ with fA:=[] } (gS 0 (qP::ca.toList)) { tmps:=(#[Value.func (.yield (w.heap.size+1)) #[] #[]]++rc)++Array.replicate (fg.ntmps - (#[Value.func (.yield (w.heap.size+1)) #[] #[]]++rc).size) undef,defers:=[] } W1:=by
  refine⟨S1,fun t v ht=>?_,by simp;omega,Marks.nil (av _),G.hid,G.lock⟩;have hra:gq (fN (X.at_ (w.heap.size+1))) (qP::ca.toList) (#[Value.func (.yield (w.heap.size+1)) #[] #[]]++rc).toList:=by
   have:(#[Value.func (.yield (w.heap.size+1)) #[] #[]]++rc).toList=Value.func (.yield (w.heap.size+1)) #[] #[]::rc.toList:=by simp
   rw[this];exact gq.cons ⟨#[],#[],rfl,gq.nil,gq.nil⟩ (r2.mono fun _ _ _ h=>mI (OX.2 h))
  obtain⟨_,g2⟩:=xI _ 0 t v ht;rw[Nat.sub_zero] at g2;obtain⟨u,hu,pX⟩:=hra.get g2;have hlt:t < (#[Value.func (.yield (w.heap.size+1)) #[] #[]]++rc).size:=by have:=(af.1 hu).1;rwa [bZ] at this
  have:((#[Value.func (.yield (w.heap.size+1)) #[] #[]]++rc)++Array.replicate (fg.ntmps - (#[Value.func (.yield (w.heap.size+1)) #[] #[]]++rc).size) undef).getD t undef=u:=by rw[eu,cK hlt,<- ez,hu];rfl
  show fN _ v (Array.getD _ t undef);rw[this];exact pX
 have A1:=jB hy m gk _ { σ with fA:=[] } _ _ _ G.lock h1;refine yI (w0:=w0) i1 i3 om (sL (r:=none) ahw hm cg [] [] [] lv gk i5 _ _ _ _ _ h1 _ _ _ G1 ⟨L1,Evo.refl X⟩ _ fun a' w' ⟨X6,G6,s6⟩=>?_);have hend:e1≠.normal->e1=.ret\/∃ id,e1=.exit id:=fun hne=>by cases e1<;>simp_all
 have ahx:∃ z,gc σ.heap.length [] σ1=some z/\ex=.normal/\fr'=fr/\σ' = { z.2 with fA:=fX σ.fA z.2.fA }/\(e1.real=.normal\/e1.real=.ret):=by
  unfold nC at h;cases e1 with
  | exit id=>cases h
  | normal=>
   simp only[aj] at h;obtain⟨z,z1,z2⟩:=h;cases z2;exact⟨z,z1,rfl,rfl,rfl,.inl rfl⟩
  | ret=>
   simp only[aj] at h;obtain⟨z,z1,z2⟩:=h;cases z2;exact⟨z,z1,rfl,rfl,rfl,.inr rfl⟩
 obtain⟨z,z1,rfl,rfl,rfl,z5⟩:=ahx;refine⟨z5,X6,σ1,G6.sim,G6.defers,fun w2 S2 al=>⟨.tuple #[],by simp[results,i4],?_⟩⟩
 -- behind the loop
 have s6':=s6.after (w2:=w2) al.size al.low al.os al.tape al.output;obtain⟨c1,c2⟩:=s6'.clear (D:=w.heap.size+1) om (fun id bx hx=>L1.clear id bx hx);obtain⟨d1,d2⟩:=s6'.clear (D:=w.heap.size) om (fun id bx hx=>hD1 id bx hx);rw[hl1] at c1;rw[hd1] at d1;refine⟨none,_,(run_endLoop c1 (by rw[xg];simp[nH])).trans (by rw[xg];rfl),?_⟩;have hps:∀ (o:Obj),(w2.putObj (w.heap.size+1) o).heap.size=w2.heap.size:=fun o=>by simp[World.putObj]
 obtain⟨w7,hw7⟩:∃ w7,w7=w2.putObj (w.heap.size+1) (.loop { rec with state:=.exhausted }):=⟨_,rfl⟩;have hs7:w7.heap.size=w2.heap.size:=by rw[hw7];exact hps _
 have ho7:∀ k,k≠w.heap.size+1->w7.heap[k]?=w2.heap[k]?:=fun k hk=>by rw[hw7];exact World.putObj_heap_other hk
 have S7:Sim w0 (X6.at_ X.y) σ1 w7:=by rw[hw7];exact(S2.put _ om c2).at_ _
 have s7:Stp X { σ with fA:=[] } w (X6.at_ X.y) w7:=by
  refine⟨by have:=s6'.size;omega,by rw[hw7];exact s6'.os.trans UC.os,by rw[hw7];exact s6'.tape.trans UC.tape,by rw[hw7];exact s6'.output.trans UC.output,fun k hk hx=>?_,⟨s6'.evo.up,rfl⟩,s6'.same,fun id bx' hb=>?_⟩
  ·rw[ho7 k om,s6'.frame k om hx,hold k hk]
  ·rcases s6'.back id bx' hb with ⟨bx,b1,b2,b3⟩ | ⟨b1,b2,b3,b4⟩
   ·exact .inl ⟨bx,b1,b2,b3.imp (fun h=>h) fun h=>by omega⟩
   ·exact .inr ⟨b1,b2,om,b4⟩
 obtain⟨X8,gd,s8,A8⟩:=zT (τ0:={ σ with fA:=[] }) S7 A1 rfl s7 (G.sim.fA []) G.hid G.lock (vs':=z.1) (σ':=z.2) z1;have hpost:Post w0 lo n X σ w fr' { z.2 with fA:=fX σ.fA z.2.fA } { a with defers:=[{ target:=.collected w.heap.size,args:=#[] }]++a.defers } w7:=by
  refine⟨X8,⟨gd.sim.fA _,G.fr.evo s8.evo,G.size,⟨fun d hd=>?_,?_,by have:=G.defers.low;have:=s6'.size;omega⟩,fun t ht=>?_,?_⟩,s8.fA⟩
  ·rcases aP.1 hd with hd | hd
   ·simp only[cM] at hd;refine⟨w.heap.size,hd,by rw[ho7 _ om,d1],G.defers.low,fun id bx hx=>?_⟩;by_cases hi:id < σ.heap.length
    ·rw[gd.low id hi] at hx;exact d2 id bx hx
    ·obtain⟨id0,_,k2⟩:=gd.high id bx (by show σ.heap.length<=id;omega) hx;exact d2 id0 bx k2
   ·exact(G.defers.step s8).each d hd
  ·rw[List.singleton_append];refine cH.2 ⟨fun hm'=>?_,G.defers.one⟩;obtain⟨D,k1,k2,_,_⟩:=G.defers.each _ hm';cases k1;have:=tU k2;omega
  ·have:=A8.len;exact bg (G.hid t (by rw[<- A8.hid];exact ht)) this
  ·have:=A8.len;have h2:=A8.lock;show z.2.lock<=z.2.heap.length;rw[h2];exact bh G.lock this
 have:=hQ _ _ hpost;rw[hw7,xg] at this;exact this
theorem mu{fz:fD}{it:Option (Nat×fG)}{n m:Nat}(hcf:g9 P w0 qp fz)(hm:P.follows .mixedOrders=true)(hit:UB P it)(c:Code)(gJ:List (Nat×List Nat))(fin out live:List Nat)(ac:fG)(hc:comp P n it gJ fin c out=some (ac,live))(fr:Fr)(σ:St)(ex:Ex)(fr':Fr)(σ':St)(h:exec fz m ac fr σ=some (ex,fr',σ'))
  (X:Emb) (a:Act) (w:World) (G:Good w0 lo n X σ fr a w) (Q:Exit->Act->World->Prop) (hQ:∀ a' w',Post w0 lo n X σ w fr' σ' a' w'->Q ex.real a' w'):c.wpIn (gC.fw none) 0 P Q a w:=
 jF hcf hm (ae2 hcf hm hit) c gJ fin out live ac hc fr σ ex fr' σ' h X a w G trivial Q hQ
theorem ae3{fz:fD}{m G E:Nat}{x:fG}(hGE:G≠E)(hx:jO (·==G) x=true){fr fr':Fr}{σ σ':St}{e:Ex}(h:exec fz m (.block G (.seq x (.exit E))) fr σ=some (e,fr',σ')) :
  ∃ e0,exec fz m x fr σ=some (e0,fr',σ')/\((e0=.normal/\e=.exit E)\/(e0=.exit G/\e=.normal)\/(e0=.ret/\e=.ret)):=by
 simp only[exec,aj,aa] at h;obtain⟨⟨e1,fr1,σ1⟩,⟨⟨e0,fr0,σ0⟩,h0,h1⟩,h⟩:=h;refine⟨e0,?_⟩;cases e0 with
 | normal=>
  simp only[ay,bT] at h1;obtain⟨rfl,rfl,rfl⟩:=h1;simp only at h;rw[if_neg (Ne.symm hGE)] at h;cases h;exact⟨h0,.inl ⟨rfl,rfl⟩⟩
 | ret=>
  simp only[ay,bT] at h1;obtain⟨rfl,rfl,rfl⟩:=h1;cases h;exact⟨h0,.inr (.inr ⟨rfl,rfl⟩)⟩
 | exit i=>
  have hi:i=G:=by simpa using k7 x _ hx _ _ _ _ _ h0
  subst hi;simp only[ay,bT] at h1;obtain⟨rfl,rfl,rfl⟩:=h1;simp only[if_true] at h;cases h;exact⟨h0,.inr (.inl ⟨rfl,rfl⟩)⟩
theorem Ek(l:Nat):(Ex.exit (jc+l)).real=.goto l:=by
 have hl:¬ jc+l < jc:=om
 simp[Ex.real,hl]
theorem yJ{fz:fD}{n m l:Nat}{rest:Code}{r:fG}{live:List Nat}{X0:Emb}{τ0:St}{v:World}(hcf:g9 P w0 qp fz)(hl':l < jc)(hd:τ0.fA=[])(hw:Sim w0 X0 τ0 v)(hh:∀ t∈τ0.hid,t < τ0.heap.length)(hl:τ0.lock<=τ0.heap.length)(hr:jO (·==jc+l) r=true)
  (hb:∀ fr σ ex fr' σ',exec fz m r fr σ=some (ex,fr',σ')->∀ X a w,Good w0 lo n X σ fr a w->∀ Q:Exit->Act->World->Prop,(∀ a' w',Post w0 lo n X σ w fr' σ' a' w'->Q ex.real a' w')->rest.wpIn (gC.fw none) 0 P Q a w) :
  ∀ (k:Nat) (fr:Fr) (σ:St) (ex:Ex) (fr':Fr) (σ':St),iter (exec fz m (.block (jc+l) (.seq r (.exit (2*jc))))) live τ0.heap.length k fr σ=some (ex,fr',σ')->(ex=.exit (2*jc)\/ex=.ret)/\∀ X a w,Good w0 lo n X σ fr a w->Ast τ0 σ->Stp X0 τ0 v X w ->
   ∀ Q:Exit->Act->World->Prop,(∀ a' w',Post w0 lo n X0 τ0 v fr' σ' a' w'->Q (if ex=.ret then .ret else .normal) a' w')->zS (gC.fw none) 0 P l rest Q k a w
 | 0,fr,σ,ex,fr',σ',h=>by simp[iter] at h
 | k+1,fr,σ,ex,fr',σ',h=>by
  simp only[iter,aa] at h;obtain⟨⟨e1,fr1,σ1⟩,h1,h⟩:=h;obtain⟨e0,h0,hcase⟩:=ae3 om hr h1;rcases hcase with ⟨rfl,rfl⟩ | ⟨rfl,rfl⟩ | ⟨rfl,rfl⟩
  ·cases h;refine⟨.inl rfl,fun X a w G ha hst Q hQ=>?_⟩;have a1:=jB hcf.ast m r _ _ _ _ _ G.lock h0;refine hb _ _ _ _ _ h0 X a w G _ fun a' w' ⟨X1,G1,s1⟩=>?_;exact hQ a' w' ⟨X1,G1,hst.trans ha s1⟩
  ·simp only[aa] at h;obtain⟨⟨fr2,σ2⟩,h2,h⟩:=h;obtain⟨q1,q2⟩:=yJ hcf hl' hd hw hh hl hr hb k _ _ _ _ _ h;refine⟨q1,fun X a w G ha hst Q hQ=>?_⟩;have a1:=jB hcf.ast m r _ _ _ _ _ G.lock h0;refine hb _ _ _ _ _ h0 X a w G _ fun a' w' ⟨X1,G1,s1⟩=>?_;rw[Ek];refine⟨rfl,?_⟩;have Uz:=hst.trans ha s1;have G1':Good w0 lo n X1 σ1 (fr1.keep live) a' w':=⟨G1.sim,G1.fr.keep live,G1.size,G1.defers,G1.hid,G1.lock⟩;obtain⟨ha2,X2,G2,s2⟩:=BM G1' (ha.trans a1) hd Uz hw hh hl h2;exact q2 X2 a' w' G2 ha2 s2 Q hQ
  ·cases h;refine⟨.inr rfl,fun X a w G ha hst Q hQ=>?_⟩;have a1:=jB hcf.ast m r _ _ _ _ _ G.lock h0;refine hb _ _ _ _ _ h0 X a w G _ fun a' w' ⟨X1,G1,s1⟩=>?_;exact hQ a' w' ⟨X1,G1,hst.trans ha s1⟩
theorem I8{fz:fD}{it:Option (Nat×fG)}{n m l:Nat}(hcf:g9 P w0 qp fz)(hm:P.follows .mixedOrders=true)(hit:UB P it){c rest:Code}{fin live:List Nat}{ac:fG}(hf:findLabel c l=some rest)(hc:w9 P n it fin l c rest=some (ac,live))
  {fr fr':Fr} {σ σ':St} {ex:Ex} (h:exec fz m ac fr σ=some (ex,fr',σ')) (X:Emb) (a:Act) (w:World) (G:Good w0 lo n X σ fr a w) (Q:Exit->Act->World->Prop) (hQ:∀ a' w',Post w0 lo n X σ w fr' σ' a' w'->Q ex.real a' w'):(Code.scope c).wpIn (gC.fw none) 0 P Q a w:=by
 simp only[w9,aa] at hc;obtain⟨p,hp,q,hq,r,hr,f,hff,hc⟩:=hc;split at hc;case isFalse=>cases hc
 rename_i hk;simp only[au,decide_eq_true_eq] at hk;obtain⟨⟨hl,hxf⟩,hxr⟩:=hk;cases hc;have hbr:∀ fr σ ex fr' σ',exec fz m r.1 fr σ=some (ex,fr',σ')->∀ X a w,Good w0 lo n X σ fr a w->∀ Q:Exit->Act->World->Prop,(∀ a' w',Post w0 lo n X σ w fr' σ' a' w'->Q ex.real a' w')->rest.wpIn (gC.fw none) 0 P Q a w:=
  fun fr σ ex fr' σ' h X a w G Q hQ=>mu hcf hm hit rest _ _ _ r.2 r.1 hr fr σ ex fr' σ' h X a w G Q hQ
 unfold Im at h;rw[exec] at h;simp only[aj] at h;obtain⟨⟨e1,fr1,σ1⟩,h,h9⟩:=h;rw[exec] at h;simp only[aa] at h;obtain⟨⟨e2,fr2,σ2⟩,h2,h⟩:=h;obtain⟨e0,h0,hcase⟩:=ae3 om hxf h2;have a1:=jB hcf.ast m f.1 _ _ _ _ _ G.lock h0;rcases hcase with ⟨rfl,rfl⟩ | ⟨rfl,rfl⟩ | ⟨rfl,rfl⟩
 ·cases h;simp only[if_true] at h9;cases h9;exact nk l 0 hf (mu hcf hm hit c _ _ _ f.2 f.1 hff _ _ _ _ _ h0 X a w G _ fun a' w' hp'=>hQ a' w' hp')
 ·simp only at h;rw[exec] at h;simp only[aj] at h;obtain⟨⟨e3,fr3,σ3⟩,h3,h⟩:=h;cases h;refine nk l m hf (mu hcf hm hit c _ _ _ f.2 f.1 hff _ _ _ _ _ h0 X a w G _ fun a' w' ⟨X1,G1,s1⟩=>?_);rw[Ek];refine⟨rfl,?_⟩;have G0:Good w0 lo n X1 { σ2 with fA:=[] } (fr2.keep q.2) a' w':=⟨G1.sim.fA [],G1.fr.keep _,G1.size,G1.defers,G1.hid,G1.lock⟩;obtain⟨q1,q2⟩:=yJ (τ0:={ σ2 with fA:=[] }) (X0:=X1) (v:=w') hcf hl rfl (G1.sim.fA []) G1.hid G1.lock hxr hbr m _ _ _ _ _ h3;refine q2 X1 a' w' G0 (Ast.refl _) (Stp.refl _ _ _) Q fun a3 w3 ⟨X3,G3,s3⟩=>?_;have hpost:Post w0 lo n X σ w fr3 { σ3 with fA:=fX σ2.fA σ3.fA } a3 w3:=⟨X3,G3.fA _,s1.trans a1 s3.fA⟩;rcases q1 with rfl | rfl
  ·simp only[if_true] at h9;cases h9;exact hQ _ _ hpost
  ·cases h9;exact hQ _ _ hpost
 ·cases h;cases h9;exact nk l 0 hf (mu hcf hm hit c _ _ _ f.2 f.1 hff _ _ _ _ _ h0 X a w G _ fun a' w' hp'=>hQ a' w' hp')
theorem Ru{fz:fD}{it:Option (Nat×fG)}{n m:Nat}(hcf:g9 P w0 qp fz)(hm:P.follows .mixedOrders=true)(hit:UB P it){c:Code}{fin live:List Nat}{ac:fG}(hc:FL P n it fin c=some (ac,live))
  {fr fr':Fr} {σ σ':St} {ex:Ex} (h:exec fz m ac fr σ=some (ex,fr',σ')) (X:Emb) (a:Act) (w:World) (G:Good w0 lo n X σ fr a w) (Q:Exit->Act->World->Prop) (hQ:∀ a' w',Post w0 lo n X σ w fr' σ' a' w'->Q ex.real a' w'):c.wpIn (gC.fw none) 0 P Q a w:=by
 unfold FL at hc;split at hc
 ·rename_i x c';split at hc
  ·exact mu hcf hm hit _ _ _ _ live ac hc _ _ _ _ _ h X a w G Q hQ
  ·rename_i l ls _;split at hc
   ·rename_i rest hf;simp only[aa,aj] at hc;obtain⟨f,hfc,g,hg,hc⟩:=hc;cases hc;simp only[exec,aa] at h;obtain⟨⟨e1,fr1,σ1⟩,h1,h⟩:=h;have a1:=jB hcf.ast m _ _ _ _ _ _ G.lock h1;refine wpIn_seq (mu hcf hm hit x _ _ _ g.2 g.1 hg _ _ _ _ _ h1 X a w G _ fun a' w' ⟨X1,G1,s1⟩=>?_);cases e1 with
    | normal=>exact I8 hcf hm hit hf hfc h X1 a' w' G1 Q fun a2 w2 ⟨X2,G2,s2⟩=>hQ a2 w2 ⟨X2,G2,s1.trans a1 s2⟩
    | exit id=>cases h;exact xE (hQ a' w' ⟨X1,G1,s1⟩)
    | ret=>cases h;exact hQ a' w' ⟨X1,G1,s1⟩
   ·cases hc
 ·exact mu hcf hm hit _ _ _ _ live ac hc _ _ _ _ _ h X a w G Q hQ
theorem Zs(P:Program)(c:Code):UB P (acq P c):=fun g gc h=>by
 unfold acq at h;split at h
 ·simp only[aa] at h;obtain⟨g',_,fg,h2,d,h3,h⟩:=h;split at h
  ·rename_i hc;simp only[aj] at h;obtain⟨p,h4,h5⟩:=h;cases h5;simp only[au,bne_iff_ne,ne_eq,Array.isEmpty_iff] at hc;exact⟨fg,d,p.2,h2,hc.2,h3,hc.1,h4⟩
  ·cases h
 ·cases h
end
end AM
namespace AM
open Go Go.RowKit
section
variable{P:Program}{w0:World}{lo:Nat}
theorem ve{X:Emb}{σ:St}{fr:Fr}{a:Act}{w:World}(S:Sim w0 X σ w)(hf:FrR X fr a):∀ (l:List ResultVar) (rs:List mX) (vs:List Value),qT P l=some rs->kj fr σ rs=some vs ->
  ∃ us:List Value,(l.mapM (fun | .tmp t=>pure (a.tmps.getD t undef) | .cell c t=>do loadVar t (<- asAddr (a.tmps.getD c undef)):ResultVar->Sem Value)).run P w=.ok us w/\gq (fN X) vs us
 | [],rs,vs,hc,h=>by
  simp only[qT,ay] at hc;subst hc;simp only[kj,ay] at h;subst h;exact⟨[],by simp,gq.nil⟩
 | .tmp t::l,rs,vs,hc,h=>by
  simp only[qT,aj] at hc;obtain⟨rs',h1,rfl⟩:=hc;simp only[kj,aa,aj] at h;obtain⟨v,hv,vs',hvs,rfl⟩:=h;obtain⟨us,e1,e2⟩:=ve S hf l rs' vs' h1 hvs;simp only[wZ] at hv;refine⟨a.tmps.getD t undef::us,?_,e2.cons (hf t v hv)⟩;rw[List.mapM_cons];simp only[Sem.run_bind,Sem.run_pure,Result.andThen_ok,e1]
 | .cell c t::l,rs,vs,hc,h=>by
  simp only[qT,aa,aj] at hc;obtain⟨n,hn,rs',h1,rfl⟩:=hc;simp only[kj,aa,aj] at h;obtain⟨v,hv,vs',hvs,rfl⟩:=h;obtain⟨us,e1,e2⟩:=ve S hf l rs' vs' h1 hvs;simp only[wZ] at hv;split at hv
  ·rename_i ad e;simp only[aa] at hv;obtain⟨⟨pl,cs⟩,hb,hv⟩:=hv;obtain⟨ra,q1,q2⟩:=kY (hf c _ e);obtain⟨u,hu,hr⟩:=rZ (P:=P) hn S hb q2 hv;refine⟨u::us,?_,e2.cons (jA hr)⟩;have q3:(do loadVar t (<- asAddr (a.tmps.getD c undef)):Sem Value).run P w=.ok u w:=by rw[q1];simp[asAddr,hu]
   rw[List.mapM_cons,Sem.run_bind];erw [q3];simp only[Result.andThen_ok];rw[Sem.run_bind,e1];rfl
  ·cases hv
theorem F3{X:Emb}{v u:Value}(h:fN X v u)(hf:DZ v=true):lg X v u:=by
 cases v<;>first
  | exact h
  | simp[DZ] at hf
theorem Rv{X:Emb}{vs:List Value}{us:List Value}{v:Value}(h:gq (fN X) vs us)(hr:lM vs=some v):fN X v (if h:us.toArray.size=1 then us.toArray[0] else .tuple us.toArray):=by
 unfold lM at hr;split at hr
 ·rename_i q;cases hr;obtain⟨u,m,rfl,h1,h2⟩:=h.head;have:=h2.L4;subst this;simpa using h1
 ·rename_i hne;split at hr
  ·rename_i hall;cases hr;have hl:=h.1;have hn:¬ us.toArray.size=1:=by
    intro e;simp at e;have:vs.length=1:=om
    match vs,this with
    | [q],_=>exact hne q rfl
   rw[dif_neg hn];exact⟨us.toArray,rfl,by simpa using h.mono fun v hv u hr=>F3 hr (aF.1 hall v hv)⟩
  ·cases hr
theorem yK{fz:fD}(hcf:g9 P w0 qp fz)(hm:P.follows .mixedOrders=true){m:Nat}{fid:FuncId}{f:Func}{fn:AFn}(hf:P.funcs[fid]?=some f)(hc:iH P f=some fn){args:List Value}{σ σ':St}{v:Value}(h:body fz m fn args σ=some (v,σ'))
  {X:Emb} {w:World} {rargs:Array Value} (S:Sim w0 X σ w) (hh:∀ t∈σ.hid,t < σ.heap.length) (hl:σ.lock<=σ.heap.length) (hfr:FrR X (gS 0 args) { tmps:=rargs++Array.replicate (f.ntmps - rargs.size) undef,defers:=[] }) :
  Calls P fid rargs w fun e w'=>∃ u X',e=.returned u/\fN X' v u/\Sim w0 X' σ' w'/\Stp X σ w X' w':=by
 simp only[iH,aa,aj] at hc;obtain⟨rs,hrs,c,hbody,⟨ac,live⟩,hcomp,rfl⟩:=hc;simp only[body,aa] at h;obtain⟨⟨e1,fr1,σ1⟩,h1,h⟩:=h;have G:Good w0 w.heap.size f.ntmps X { σ with fA:=[] } (gS 0 args) { tmps:=rargs++Array.replicate (f.ntmps - rargs.size) undef,defers:=[] } w:=
  ⟨S.fA [],hfr,by simp;omega,Marks.nil (av _),hh,hl⟩
 have a1:=jB hcf.ast m ac _ { σ with fA:=[] } _ _ _ hl h1;refine yI (w0:=w0) hf hbody S.bel.size (Ru hcf hm (Zs P c) hcomp h1 X _ w G _ fun a' w' ⟨X1,G1,s1⟩=>?_);have fin:(kj fr1 σ1 rs).bind (fun vs=>(lM vs).bind fun u=>(gc σ.heap.length [u] σ1).bind fun q=>match q.1 with
   | [v]=>some (v,{ q.2 with fA:=fX σ.fA q.2.fA })
   | _=>none)=some (v,σ')->∀ w2,Sim w0 X1 σ1 w2->Alike w.heap.size w' w2->∃ v1,(results f a'.tmps).run P w2=.ok v1 w2/\∃ u X',(Ending.returned v1)=.returned u/\fN X' v u/\Sim w0 X' σ' w2/\Stp X σ w X' w2:=by
  intro h w2 S2 al;simp only[aa] at h;obtain⟨vs,hvs,u,hu,⟨q,σ2⟩,hg,h⟩:=h;split at h
  ·rename_i v' hq;simp only at hq;subst hq;cases h;obtain⟨us,r1,r2⟩:=ve (P:=P) S2 G1.fr f.results.toList rs vs hrs hvs;obtain⟨X2,gd,s2,_⟩:=zT (τ0:={ σ with fA:=[] }) S2 a1 rfl (s1.after al.size al.low al.os al.tape al.output) (S.fA []) hh hl hg;refine⟨if h:us.toArray.size=1 then us.toArray[0] else .tuple us.toArray,?_,_,X2,rfl,gd.vals.2 0 u v _ rfl rfl (Rv r2 hu),gd.sim.fA _,s2.fA⟩;simp only[results,Sem.run_bind];rw[Array.mapM_eq_mapM_toList,map_eq_pure_bind,Sem.run_bind];erw [r1];simp only[Result.andThen_ok,Sem.run_pure]
  ·cases h
 cases e1 with
 | exit id=>cases h
 | normal=>exact⟨.inl rfl,X1,σ1,G1.sim,G1.defers,fun w2 S2 al=>fin h w2 S2 al⟩
 | ret=>exact⟨.inr rfl,X1,σ1,G1.sim,G1.defers,fun w2 S2 al=>fin h w2 S2 al⟩
theorem Mz{fz:fD}(hcf:g9 P w0 qp fz)(hm:P.follows .mixedOrders=true){m:Nat}{fid:FuncId}{f:Func}{fn:AFn}(hf:P.funcs[fid]?=some f)(hc:iH P f=some fn){args:List Value}{σ σ':St}{v:Value}(h:body fz m fn args σ=some (v,σ'))
  {X:Emb} {w:World} {rargs:Array Value} (S:Sim w0 X σ w) (hh:∀ t∈σ.hid,t < σ.heap.length) (hl:σ.lock<=σ.heap.length) (hr:gq (fN X) args rargs.toList) :
  Calls P fid rargs w fun e w'=>∃ u X',e=.returned u/\fN X' v u/\Sim w0 X' σ' w'/\Stp X σ w X' w':=by
 refine yK hcf hm hf hc h S hh hl fun t q ht=>?_;obtain⟨_,g2⟩:=xI args 0 t q ht;rw[Nat.sub_zero] at g2;obtain⟨u,hu,pX⟩:=hr.get g2;have hlt:t < rargs.size:=by have:=(af.1 hu).1;simpa using this
 have:(rargs++Array.replicate (f.ntmps - rargs.size) undef).getD t undef=u:=by rw[eu,cK hlt,<- ez,hu];rfl
 show fN X q (Array.getD _ t undef);rw[this];exact pX
def qt (P : Program) (env : Env) : Prop := ∃ l, env = .base l /\ ∀ i fn, gW l i = some fn -> ∃ f, P.funcs[i]? = some f /\ iH P f = some fn /\ f.name ≠ "runtime.NumGoroutine"
theorem yL{f:Func}{fn:AFn}(h:iH P f=some fn):f.body.isSome=true:=by simp only[iH,aa] at h;obtain⟨rs,_,c,hc,_⟩:=h;rw[hc];rfl
def isTrue:Option (Value×St)->Bool
 | some (.bool true,_)=>true
 | _=>false
theorem Rx{r:Option (Value×St)}(h:isTrue r=true):∃ σ',r=some (.bool true,σ'):=by
 unfold isTrue at h;split at h
 ·exact⟨_,rfl⟩
 ·cases h
end
end AM
namespace AM
open Go Go.RowKit
def gi{α:Type}(f:Nat->Option α):Prop:=∀ n r,f n=some r->f (n+1)=some r
theorem gi.le{α:Type}{f:Nat->Option α}(h:gi f){n m:Nat}{r:α}(hn:f n=some r)(hm:n<=m):f m=some r:=by
 induction hm with
 | refl=>exact hn
 | step _ ih=>exact h _ _ ih
open Classical in
noncomputable def lim{α:Type}(f:Nat->Option α):Option α:=if h:∃ n r,f n=some r then some (Classical.choose (Classical.choose_spec h)) else none
theorem k8{α:Type}{f:Nat->Option α}(h:gi f){r:α} : lim f=some r↔∃ n,f n=some r:=by
 unfold lim;constructor
 ·intro e;split at e
  ·rename_i hx;cases e;exact⟨_,Classical.choose_spec (Classical.choose_spec hx)⟩
  ·cases e
 ·rintro⟨n,e⟩;have hx:∃ n r,f n=some r:=⟨n,r,e⟩;rw[dif_pos hx];have h1:=Classical.choose_spec (Classical.choose_spec hx);have a1:=h.le e (Nat.le_max_left n (Classical.choose hx));have a2:=h.le h1 (Nat.le_max_right n (Classical.choose hx));rw[a1] at a2;exact a2.symm
theorem F4{α:Type}{f g:Nat->Option α}(hf:gi f)(hg:gi g)(h:∀ r,(∃ n,f n=some r)↔∃ n,g n=some r):lim f=lim g:=by
 cases e:lim f with
 | some r=>exact((k8 hg).2 ((h r).1 ((k8 hf).1 e))).symm
 | none=>
  cases e':lim g with
  | none=>rfl
  | some r=>rw[(k8 hf).2 ((h r).2 ((k8 hg).1 e'))] at e;cases e
theorem gi.const{α:Type}(x:Option α):gi fun _=>x:=fun _ _ h=>h
theorem fT{α:Type}(x:Option α):lim (fun _:Nat=>x)=x:=by
 cases x with
 | some r=>exact(k8 (gi.const _)).2 ⟨0,rfl⟩
 | none=>
  cases e:lim (fun _:Nat=>(none:Option α)) with
  | none=>rfl
  | some r=>obtain⟨_,h⟩:=(k8 (gi.const _)).1 e;cases h
theorem gi.bind{α β:Type}{f:Nat->Option α}{g:Nat->α->Option β}(hf:gi f)(hg:∀ a,gi fun n=>g n a):gi fun n=>(f n).bind (g n):=fun n r h=>by simp only[aa] at h ⊢;obtain⟨a,h1,h2⟩:=h;exact⟨a,hf n a h1,hg a n r h2⟩
theorem iu{α β:Type}{f:Nat->Option α}{g:Nat->α->Option β}(hf:gi f)(hg:∀ a,gi fun n=>g n a):lim (fun n=>(f n).bind (g n))=(lim f).bind fun a=>lim fun n=>g n a:=by
 cases e:lim f with
 | none=>
  simp only[Option.bind_none];cases e':lim (fun n=>(f n).bind (g n)) with
  | none=>rfl
  | some r=>
   obtain⟨n,h⟩:=(k8 (hf.bind hg)).1 e';simp only[aa] at h;obtain⟨a,h1,_⟩:=h;rw[(k8 hf).2 ⟨n,h1⟩] at e;cases e
 | some a=>
  simp only[ak];obtain⟨n,hn⟩:=(k8 hf).1 e;refine F4 (hf.bind hg) (hg a) fun r=>⟨fun⟨m,h⟩=>?_,fun⟨m,h⟩=>⟨max n m,?_⟩⟩
  ·simp only[aa] at h;obtain⟨b,h1,h2⟩:=h;have h3:=(k8 hf).2 ⟨m,h1⟩;rw[e] at h3;cases h3;exact⟨m,h2⟩
  ·simp only[aa];exact⟨a,hf.le hn (Nat.le_max_left _ _),(hg a).le h (Nat.le_max_right _ _)⟩
theorem xK{α β:Type}{f:Nat->Option α}(g:α->Option β)(hf:gi f):lim (fun n=>(f n).bind g)=(lim f).bind g:=by rw[iu (g:=fun _=>g) hf fun a=>gi.const _];exact congrArg _ (funext fun a=>fT _)
theorem tX{α β:Type}{f:Nat->Option α}{g:α->β}(hf:gi f):lim (fun n=>(f n).map g)=(lim f).map g:=by
 have:=iu (g:=fun _ a=>some (g a)) hf fun a=>gi.const _;simp only[fT] at this;have e:∀ x:Option α,x.map g=x.bind fun a=>some (g a):=fun x=>by cases x<;>rfl
 rw[e,<- this];congr 1;funext n;exact e _
theorem gi.map{α β:Type}{f:Nat->Option α}{g:α->β}(hf:gi f):gi fun n=>(f n).map g:=fun n r h=>by simp only[aj] at h ⊢;obtain⟨a,h1,h2⟩:=h;exact⟨a,hf n a h1,h2⟩
theorem gi.shift{α:Type}{f:Nat->Option α}(hf:gi f):gi fun n=>f (n+1):=fun n r h=>hf (n+1) r h
theorem xL{α:Type}{f:Nat->Option α}(hf:gi f):lim (fun n=>f (n+1))=lim f:=
 F4 hf.shift hf fun r=>⟨fun⟨n,h⟩=>⟨n+1,h⟩,fun⟨n,h⟩=>⟨n,hf n r h⟩⟩
def lP(c:Nat->fD):Prop:=∀ g args σ,gi fun n=>c n g args σ
theorem lQ{c:Nat->fD}(hc:lP c)(o:AOp)(fr:Fr)(σ:St):gi fun n=>aop (c n) o fr σ:=fun n r h=>by
 cases o<;>first
  | exact h
  | skip
 case call f args=>
  simp only[aop] at h ⊢;exact(gi.bind (gi.const _) fun vs=>hc _ _ _) n r h
 case Dx tbl x args=>
  simp only[aop,aa] at h ⊢;obtain⟨v,hv,vs,hvs,h⟩:=h;refine⟨v,hv,vs,hvs,?_⟩;split at h
  ·simp only[aa] at h ⊢;obtain⟨f,hf,h⟩:=h;exact⟨f,hf,hc _ _ _ n r h⟩
  ·cases h
 case iP x args=>
  simp only[aop,aa] at h ⊢;obtain⟨q,h1,vs,h2,h3⟩:=h;refine⟨q,h1,vs,h2,?_⟩;split at h3
  ·split at h3
   ·cases h3
   ·rename_i hy;rw[if_neg hy];exact hc _ _ _ n r h3
  ·cases h3
theorem mB{c:Nat->fD}(hc:lP c):∀ (l:List fB) (fr:Fr) (σ:St),gi fun n=>lI (c n) l fr σ
 | [],fr,σ=>gi.const _
 | o::l,fr,σ=>by
  simp only[lI];refine gi.bind (gi.const _) fun b=>?_;cases b with
  | true=>exact(lQ hc o.op fr σ).bind fun r=>mB hc l _ _
  | false=>exact mB hc l _ _
theorem mC{c:Nat->fD}(hc:lP c):∀ (l:List fB) (born:List (Nat×Nat×Nat)) (j:Nat) (fr:Fr) (σ:St),gi fun n=>lK (c n) born j l fr σ
 | [],born,j,fr,σ=>gi.const _
 | o::l,born,j,fr,σ=>by
  simp only[lK];refine gi.bind (gi.const _) fun b=>?_;cases b with
  | true=>exact(lQ hc o.op fr _).bind fun r=>mC hc l _ _ _ _
  | false=>exact mC hc l _ _ _ _
theorem nq{c:Nat->fD}(hc:lP c){m:Bool}{B:List Nat} : ∀ (l:List fB) (seen:List (Bool×Nat)) (fr:Fr) (σ:St),gi fun n=>j3 (c n) m B seen l fr σ
 | [],seen,fr,σ=>gi.const _
 | o::l,seen,fr,σ=>by
  simp only[j3];refine gi.bind (gi.const _) fun b=>?_;cases b with
  | true=>
   simp only[if_true];split
   ·split
    ·exact(lQ hc o.op fr _).bind fun r=>nq hc l _ _ _
    ·exact gi.const _
   ·refine gi.bind (gi.const _) fun tg=>?_;split
    ·exact gi.bind (gi.const _) fun r=>nq hc l _ _ _
    ·exact gi.const _
  | false=>exact nq hc l _ _ _
theorem nr{c:Nat->fD}(hc:lP c){m:Nat} : ∀ (l:List fB) (fr:Fr) (σ:St),gi fun n=>qO (c n) m l fr σ
 | [],_,_=>gi.const _
 | o::l,fr,σ=>by
  simp only[qO];split
  ·exact gi.bind (gi.const _) fun r=>nr hc l _ _
  ·split
   ·refine gi.bind (lQ hc _ _ _) fun r=>?_;split
    ·exact nr hc l _ _
    ·exact gi.const _
   ·exact gi.const _
theorem qu{B:Nat->Fr->St->Option (Ex×Fr×St)}{live:List Nat}{base:Nat}(hB:∀ fr σ,gi fun n=>B n fr σ):∀ (n:Nat) (m:Nat) (fr:Fr) (σ:St) r,iter (B m) live base n fr σ=some r->iter (B (m+1)) live base (n+1) fr σ=some r
 | 0,m,fr,σ,r,h=>by simp[iter] at h
 | n+1,m,fr,σ,r,h=>by
  rw[iter] at h ⊢;simp only[aa] at h ⊢;obtain⟨⟨e,fr1,σ1⟩,h1,h2⟩:=h;refine⟨_,hB fr σ m _ h1,?_⟩;cases e with
  | normal=>
   simp only[aa] at h2 ⊢;obtain⟨p,h3,h4⟩:=h2;exact⟨p,h3,qu hB n m _ _ r h4⟩
  | _=>exact h2
theorem Ry{B:Fr->St->Option (Ex×Fr×St)}{live:List Nat}{base:Nat} : ∀ {n:Nat} (fr:Fr) (σ:St) {r},iter B live base n fr σ=some r->iter B live base (n+1) fr σ=some r:=fun {n} fr σ {r} h=>
 qu (B:=fun _=>B) (fun _ _=>gi.const _) n 0 fr σ r h
theorem El{B B':Fr->St->Option (Ex×Fr×St)}{live:List Nat}{base:Nat}(hB:∀ fr σ r,B fr σ=some r->B' fr σ=some r):∀ (n:Nat) (fr:Fr) (σ:St) r,iter B live base n fr σ=some r->iter B' live base n fr σ=some r
 | 0,fr,σ,r,h=>by simp[iter] at h
 | n+1,fr,σ,r,h=>by
  rw[iter] at h ⊢;simp only[aa] at h ⊢;obtain⟨⟨e,fr1,σ1⟩,h1,h2⟩:=h;refine⟨_,hB fr σ _ h1,?_⟩;cases e with
  | normal=>
   simp only[aa] at h2 ⊢;obtain⟨p,h3,h4⟩:=h2;exact⟨p,h3,El hB n _ _ r h4⟩
  | _=>exact h2
theorem oQ{c:Nat->fD}{y:Nat->List Value->St->Option (Value×St)}(hc:lP c)(hy:∀ args σ,gi fun n=>y n args σ):lP fun n=>jh (c n) (y n):=fun g args σ=>by
 cases g with
 | func f=>exact hc _ _ _
 | yield l=>exact hy _ _
 | _=>exact gi.const _
theorem iY{c:Nat->fD}(hc:lP c):lP fun n=>gE (c n):=oQ hc fun _ _=>gi.const _
theorem yM{ba b:Nat->Fr->St->Option (Ex×Fr×St)}{ps:List Nat}{fr:Fr}(ha:∀ fr σ,gi fun n=>ba n fr σ)(hb:∀ fr σ,gi fun n=>b n fr σ)(args:List Value)(σ:St):gi fun n=>jJ (ba n) (b n) ps fr args σ:=by
 unfold jJ;split
 ·refine(ha _ _).bind fun r=>?_;obtain⟨e,fr',σ'⟩:=r;cases e with
  | normal=>
   refine(hb _ _).bind fun r=>?_;exact gi.const _
  | _=>exact gi.const _
 ·exact gi.const _
theorem jL:∀ (k:fG) {c:Nat->fD} (hc:lP c) (fr:Fr) (σ:St),gi fun n=>exec (c n) n k fr σ
 | .skip,c,hc,fr,σ=>gi.const _
 | .ret,c,hc,fr,σ=>gi.const _
 | .exit id,c,hc,fr,σ=>gi.const _
 | .region ops,c,hc,fr,σ=>by simp only[exec];exact(mB hc ops fr σ).map
 | .drawn ops,c,hc,fr,σ=>by simp only[exec];exact(mC (iY hc) ops [] 0 fr σ).map
 | .lits ops,c,hc,fr,σ=>by
  simp only[exec];exact(nr (iY hc) _ _ _).map
 | .sv xs m ops,c,hc,fr,σ=>by
  simp only[exec];exact gi.bind (gi.const _) fun B=>(nq (iY hc) ops [] fr σ).map
 | .seq a b,c,hc,fr,σ=>by
  simp only[exec];refine(jL a hc fr σ).bind fun r=>?_;obtain⟨e,fr',σ'⟩:=r;cases e with
  | normal=>exact jL b hc _ _
  | _=>exact gi.const _
 | .cond x a b,c,hc,fr,σ=>by
  simp only[exec];split
  ·exact jL a hc _ _
  ·exact jL b hc _ _
  ·exact gi.const _
 | .block id b,c,hc,fr,σ=>by simp only[exec];exact(jL b hc fr σ).map
 | .loop live b,c,hc,fr,σ=>by
  simp only[exec];refine gi.map fun n r h=>?_;exact qu (B:=fun n=>exec (c n) n b) (fun fr σ=>jL b hc fr σ) n n _ _ r h
 | .each x g gc ps ba b,c,hc,fr,σ=>by
  simp only[exec];split
  ·split
   ·exact(jL gc (oQ hc (yM (fun fr σ=>jL ba hc fr σ) (fun fr σ=>jL b hc fr σ))) _ _).bind fun r=>gi.const _
   ·exact gi.const _
  ·exact gi.const _
theorem iA{c:Nat->fD}(hc:lP c)(k:fG)(fr:Fr)(σ:St):gi fun n=>exec (c n) n k fr σ:=jL k hc fr σ
theorem Rz{c:Nat->fD}(hc:lP c)(fn:AFn)(args:List Value)(σ:St):gi fun n=>body (c n) n fn args σ:=by simp only[body];refine(iA hc _ _ _).bind fun r=>gi.const _
theorem RA(l:List (Nat×AFn)):lP (nT l):=fun g args σ n=>by
 induction n generalizing g args σ with
 | zero=>intro r h;simp[nT] at h
 | succ n ih=>
  intro r h;cases g with
  | func f=>
   simp only[nT,aa] at h ⊢;obtain⟨fn,h1,h2⟩:=h;refine⟨fn,h1,?_⟩
   -- one step of growth is enough
   let c:Nat->fD:=fun m=>if m<=n then nT l n else nT l (n+1)
   have hc:lP c:=fun g args σ m r h=>by
    simp only[c] at h ⊢;by_cases h1:m<=n
    ·rw[if_pos h1] at h;by_cases h2:m+1<=n
     ·rw[if_pos h2];exact h
     ·rw[if_neg h2];exact ih g args σ r h
    ·rw[if_neg h1] at h;rw[if_neg om];exact h
   have:=Rz hc fn args σ n r;simp only[c,if_pos (av n),if_neg (Nat.not_succ_le_self n)] at this;exact this h2
  | _=>simp[nT] at h
theorem gG:∀ (env:Env),lP (run env)
 | .base l=>RA l
 | .yl e ps ba b fr=>oQ (gG e) (yM (fun fr σ=>iA (gG e) ba fr σ) (fun fr σ=>iA (gG e) b fr σ))
noncomputable def fS(env:Env):fD:=fun g args σ=>lim fun n=>run env n g args σ
noncomputable def ga(env:Env)(k:fG)(fr:Fr)(σ:St):Option (Ex×Fr×St):=lim fun n=>exec (run env n) n k fr σ
noncomputable def fW(env:Env)(b:fG)(live:List Nat)(base:Nat)(fr:Fr)(σ:St):Option (Ex×Fr×St):=lim fun n=>iter (exec (run env n) n b) live base n fr σ
section
variable{env:Env}
theorem tY{g:Fn}{args:List Value}{σ:St}{r:Value×St} : fS env g args σ=some r↔∃ n,run env n g args σ=some r:=k8 (gG env g args σ)
noncomputable def RB(c:Nat->fD):fD:=fun g args σ=>lim fun n=>c n g args σ
variable{c:Nat->fD}
theorem zU(hc:lP c)(o:AOp)(fr:Fr)(σ:St):lim (fun n=>aop (c n) o fr σ)=aop (RB c) o fr σ:=by
 cases o<;>first
  | exact fT _
  | skip
 case call f args=>
  simp only[aop];rw[iu (gi.const _) fun vs=>hc _ _ _,fT];rfl
 case Dx tbl x args=>
  simp only[aop];refine(iu (gi.const _) fun v=>gi.bind (gi.const _) fun vs=>?_).trans ?_
  ·split
   ·exact gi.bind (gi.const _) fun f=>hc _ _ _
   ·exact gi.const _
  ·rw[fT];congr 1;funext v;refine(iu (gi.const _) fun vs=>?_).trans ?_
   ·split
    ·exact gi.bind (gi.const _) fun f=>hc _ _ _
    ·exact gi.const _
   ·rw[fT];congr 1;funext vs;split
    ·rw[iu (gi.const _) fun f=>hc _ _ _,fT];rfl
    ·exact fT _
 case iP x args=>
  simp only[aop];refine(iu (gi.const _) fun v=>gi.bind (gi.const _) fun vs=>?_).trans ?_
  ·cases v<;>first
    | exact gi.const _
    | (dsimp only;split<;>first | exact gi.const _ | exact hc _ _ _)
  ·rw[fT];congr 1;funext v;refine(iu (gi.const _) fun vs=>?_).trans ?_
   ·cases v<;>first
     | exact gi.const _
     | (dsimp only;split<;>first | exact gi.const _ | exact hc _ _ _)
   ·rw[fT];congr 1;funext vs;cases v<;>first
     | exact fT _
     | (dsimp only;split<;>first | exact fT _ | rfl)
theorem BO(hc:lP c):∀ (l:List fB) (fr:Fr) (σ:St),lim (fun n=>lI (c n) l fr σ)=lI (RB c) l fr σ
 | [],fr,σ=>fT _
 | o::l,fr,σ=>by
  simp only[lI];refine(iu (gi.const _) fun b=>?_).trans ?_
  ·cases b with
   | true=>exact(lQ hc o.op fr σ).bind fun r=>mB hc l _ _
   | false=>exact mB hc l _ _
  ·rw[fT];congr 1;funext b;cases b with
   | true=>
    refine(iu (lQ hc o.op fr σ) fun r=>mB hc l _ _).trans ?_;rw[zU hc];exact congrArg _ (funext fun r=>BO hc l _ _)
   | false=>exact BO hc l _ _
theorem BP(hc:lP c):∀ (l:List fB) (born:List (Nat×Nat×Nat)) (j:Nat) (fr:Fr) (σ:St),lim (fun n=>lK (c n) born j l fr σ)=lK (RB c) born j l fr σ
 | [],born,j,fr,σ=>fT _
 | o::l,born,j,fr,σ=>by
  simp only[lK];refine(iu (gi.const _) fun b=>?_).trans ?_
  ·cases b with
   | true=>exact(lQ hc o.op fr _).bind fun r=>mC hc l _ _ _ _
   | false=>exact mC hc l _ _ _ _
  ·rw[fT];congr 1;funext b;cases b with
   | true=>
    refine(iu (lQ hc o.op fr _) fun r=>mC hc l _ _ _ _).trans ?_;rw[zU hc];exact congrArg _ (funext fun r=>BP hc l _ _ _ _)
   | false=>exact BP hc l _ _ _ _
theorem v5(hc:lP c){m:Bool}{B:List Nat} : ∀ (l:List fB) (seen:List (Bool×Nat)) (fr:Fr) (σ:St),lim (fun n=>j3 (c n) m B seen l fr σ)=j3 (RB c) m B seen l fr σ
 | [],seen,fr,σ=>fT _
 | o::l,seen,fr,σ=>by
  simp only[j3];cases hw:want o fr with
  | none=>exact fT _
  | some b=>
   simp only[ak];cases b with
   | false=>
    simp only[aO,if_false];exact v5 hc l _ _ _
   | true=>
    simp only[if_true];cases hwr:o.wr with
    | true=>
     simp only[if_true];cases m with
     | false=>exact fT _
     | true=>
      simp only[if_true];refine(iu (lQ hc o.op fr _) fun r=>nq hc l _ _ _).trans ?_;rw[zU hc];refine congrArg _ (funext fun r=>?_);exact v5 hc l _ _ _
    | false=>
     simp only[aO,if_false];cases ht:tgt fr o.op with
     | none=>exact fT _
     | some tg=>
      simp only[ak];split
      ·cases ha:aop iQ o.op fr σ with
       | none=>exact fT _
       | some r=>
        simp only[ak];exact v5 hc l _ _ _
      ·exact fT _
theorem rA:RB (fun n=>gE (run env n))=gE (fS env):=by
 funext g args σ;cases g with
 | func f=>rfl
 | _=>exact fT _
theorem BQ(fr:Fr)(σ:St):ga env .skip fr σ=some (.normal,fr,σ):=fT _
theorem Em(fr:Fr)(σ:St):ga env .ret fr σ=some (.ret,fr,σ):=fT _
theorem BR(id:Nat)(fr:Fr)(σ:St):ga env (.exit id) fr σ=some (.exit id,fr,σ):=fT _
theorem v7(ops:List fB)(fr:Fr)(σ:St):ga env (.region ops) fr σ=(lI (fS env) ops fr σ).map fun r=>(.normal,r.1,r.2):=by unfold ga;simp only[exec];rw[tX (mB (gG env) ops fr σ),BO (gG env)];rfl
theorem yN(ops:List fB)(fr:Fr)(σ:St):ga env (.drawn ops) fr σ=(lK (gE (fS env)) [] 0 ops fr σ).map fun r=>(.normal,r.1,r.2):=by unfold ga;simp only[exec];rw[tX (mC (iY (gG env)) ops [] 0 fr σ),BP (iY (gG env)),rA]
theorem yO(xs:List Nat)(m:Bool)(ops:List fB)(fr:Fr)(σ:St):ga env (.sv xs m ops) fr σ=(boxes fr xs).bind fun B=>(j3 (gE (fS env)) m B [] ops fr σ).map fun r=>(.normal,r.1,r.2):=by
 unfold ga;simp only[exec];cases boxes fr xs with
 | none=>exact fT _
 | some B=>
  simp only[ak];rw[tX (nq (iY (gG env)) ops [] fr σ),v5 (iY (gG env)),rA]
theorem BS(hc:lP c){m:Nat} : ∀ (l:List fB) (fr:Fr) (σ:St),lim (fun n=>qO (c n) m l fr σ)=qO (RB c) m l fr σ
 | [],_,_=>fT _
 | o::l,fr,σ=>by
  simp only[qO];split
  ·rw[iu (gi.const _) fun r=>nr hc l _ _,fT];congr 1;funext r;exact BS hc l _ _
  ·split
   ·refine(iu (lQ hc _ _ _) fun r=>?_).trans ?_
    ·split
     ·exact nr hc l _ _
     ·exact gi.const _
    ·rw[zU hc];congr 1;funext r;split
     ·exact BS hc l _ _
     ·exact fT _
   ·exact fT _
theorem MA(ops:List fB)(fr:Fr)(σ:St):ga env (.lits ops) fr σ=(qO (gE (fS env)) σ.heap.length ops fr σ).map fun r=>(.normal,r.1,r.2):=by unfold ga;simp only[exec];rw[tX (nr (iY (gG env)) _ _ _),BS (iY (gG env)),rA]
theorem En(a b:fG)(fr:Fr)(σ:St):ga env (.seq a b) fr σ=(ga env a fr σ).bind fun r=>match r.1 with
  | .normal=>ga env b r.2.1 r.2.2
  | e=>some (e,r.2.1,r.2.2):=by
 unfold ga;simp only[exec];refine(iu (iA (gG env) a fr σ) fun r=>?_).trans ?_
 ·obtain⟨e,fr',σ'⟩:=r;cases e with
  | normal=>exact iA (gG env) b _ _
  | _=>exact gi.const _
 ·refine congrArg _ (funext fun r=>?_);obtain⟨e,fr',σ'⟩:=r;cases e<;>first
   | rfl
   | exact fT _
theorem BT(c:Operand)(a b:fG)(fr:Fr)(σ:St):ga env (.cond c a b) fr σ=match ev fr c with
  | some (.bool true)=>ga env a fr σ
  | some (.bool false)=>ga env b fr σ
  | _=>none:=by
 unfold ga;simp only[exec];generalize ev fr c=q;cases q with
 | none=>exact fT _
 | some v=>cases v<;>first
  | exact fT _
  | (rename_i b';cases b'<;>rfl)
theorem yP(id:Nat)(b:fG)(fr:Fr)(σ:St):ga env (.block id b) fr σ=(ga env b fr σ).map fun r=>match r.1 with
  | .exit i=>if i=id then (.normal,r.2.1,r.2.2) else (.exit i,r.2.1,r.2.2)
  | e=>(e,r.2.1,r.2.2):=by unfold ga;simp only[exec];refine(tX (iA (gG env) b fr σ)).trans ?_;refine congrArg (fun f=>Option.map f _) (funext fun r=>?_);obtain⟨e,fr',σ'⟩:=r;cases e<;>rfl
theorem xM(b:fG)(live:List Nat)(base:Nat)(fr:Fr)(σ:St):gi fun n=>iter (exec (run env n) n b) live base n fr σ:=fun n r h=>
 qu (B:=fun n=>exec (run env n) n b) (fun fr σ=>iA (gG env) b fr σ) n n fr σ r h
theorem BU(live:List Nat)(b:fG)(fr:Fr)(σ:St):ga env (.loop live b) fr σ=(fW env b live σ.heap.length (fr.keep live) { σ with fA:=[] }).map fun r=>(r.1,r.2.1,{ r.2.2 with fA:=fX σ.fA r.2.2.fA }):=by unfold ga;simp only[exec];rw[tX (xM b live _ _ _)];rfl
theorem v8(b:fG)(live:List Nat)(base:Nat)(fr:Fr)(σ:St):fW env b live base fr σ=(ga env b fr σ).bind fun r=>match r.1 with
  | .normal=>(kS base (r.2.1.keep live) r.2.2).bind fun q=>fW env b live base q.1 q.2
  | e=>some (e,r.2.1,r.2.2):=by
 have g1:∀ fr σ,gi fun n=>iter (exec (run env (n+1)) (n+1) b) live base n fr σ:=fun fr σ n r h=>
  qu (B:=fun n=>exec (run env (n+1)) (n+1) b) (fun fr σ=>(iA (gG env) b fr σ).shift) n n fr σ r h
 have e1:∀ fr σ,lim (fun n=>iter (exec (run env (n+1)) (n+1) b) live base n fr σ)=fW env b live base fr σ:=fun fr σ=>by
  refine F4 (g1 fr σ) (xM b live base fr σ) fun r=>⟨fun⟨n,h⟩=>⟨n+1,?_⟩,fun⟨n,h⟩=>⟨n,?_⟩⟩
  ·-- more rounds do no harm
   exact Ry _ _ h
  ·exact El (fun fr σ r h=>iA (gG env) b fr σ n r h) n fr σ r h
 unfold fW;rw[<- xL (xM b live base fr σ)];simp only[iter];refine(iu (f:=fun n=>exec (run env (n+1)) (n+1) b fr σ) (iA (gG env) b fr σ).shift fun r=>?_).trans ?_
 ·obtain⟨e,fr',σ'⟩:=r;cases e with
  | normal=>exact gi.bind (gi.const _) fun q=>g1 _ _
  | _=>exact gi.const _
 ·rw[xL (iA (gG env) b fr σ)];refine congrArg _ (funext fun r=>?_);obtain⟨e,fr',σ'⟩:=r;cases e with
  | normal=>
   refine(iu (gi.const _) fun q=>g1 _ _).trans ?_;rw[fT];exact congrArg _ (funext fun q=>e1 _ _)
  | _=>exact fT _
def fin(rs:List mX)(σ:St)(r:Ex×Fr×St):Option (Value×St):=match r.1 with
  | .exit _=>none
  | _=>(kj r.2.1 r.2.2 rs).bind fun vs=>(lM vs).bind fun u=>(gc σ.heap.length [u] r.2.2).bind fun q=>match q.1 with
   | [v]=>some (v,{ q.2 with fA:=fX σ.fA q.2.fA })
   | _=>none
theorem qt.nil{P:Program} : qt P (.base []):=⟨_,rfl,fun i fn h=>by cases h⟩
theorem qt.cons {P : Program} {l : List (Nat × AFn)} {i : Nat} {fn : AFn} {f : Func} (h1 : P.funcs[i]? = some f) (h2 : iH P f = some fn) (h3 : f.name ≠ "runtime.NumGoroutine") (h : qt P (.base l)) : qt P (.base ((i, fn) :: l)) := ⟨_, rfl, fun k g hk => by
 obtain⟨l',e,h⟩:=h;cases e;simp only[gW] at hk;split at hk
 ·rename_i e;subst e;cases hk;exact⟨f,h1,h2,h3⟩
 ·exact h k g hk⟩
theorem F5{f:Nat}{fn:AFn}(h:env.fn f=some fn)(args:List Value)(σ:St):fS env (.func f) args σ=(ga env fn.code (gS 0 args) { σ with fA:=[] }).bind (fin fn.results σ):=by
 cases env with
 | yl e ps ba b fr=>cases h
 | base l=>
  have h':gW l f=some fn:=h;unfold fS;rw[<- xL (gG (.base l) (.func f) args σ)];show lim (fun n=>(gW l f).bind fun fn=>body (nT l n) n fn args σ)=_;rw[h'];exact xK (fin fn.results σ) (iA (gG (.base l)) _ _ _)
theorem v9(e:Env)(ps:List Nat)(ba b:fG)(fr:Fr)(f:Nat)(args:List Value)(σ:St):fS (.yl e ps ba b fr) (.func f) args σ=fS e (.func f) args σ:=rfl
theorem uB(e:Env)(ps:List Nat)(ba b:fG)(fr:Fr)(k:Nat)(args:List Value)(σ:St):fS (.yl e ps ba b fr) (.yield k) args σ=jJ (ga e ba) (ga e b) ps fr args σ:=by
 show lim (fun n=>jJ (exec (run e n) n ba) (exec (run e n) n b) ps fr args σ)=_;unfold jJ;split
 ·refine(iu (iA (gG e) ba _ _) fun r=>?_).trans ?_
  ·obtain⟨x,fr',σ'⟩:=r;cases x with
   | normal=>exact(iA (gG e) b _ _).bind fun r=>gi.const _
   | _=>exact gi.const _
  ·refine congrArg _ (funext fun r=>?_);obtain⟨x,fr',σ'⟩:=r;cases x with
   | normal=>exact xK _ (iA (gG e) b _ _)
   | _=>exact fT _
 ·exact fT _
theorem BV(x:Operand)(g:Nat)(gk:fG)(ps:List Nat)(ba b:fG)(fr:Fr)(σ:St):ga env (.each x g gk ps ba b) fr σ=match ev fr x with
  | some (.func (.func h) fi ca)=>if h==g&&fi.isEmpty then (ga (.yl env ps ba b fr) gk (gS 0 (qP::ca.toList)) { σ with fA:=[] }).bind (nC fr σ) else none
  | _=>none:=by
 unfold ga;simp only[exec];generalize ev fr x=q;cases q with
 | none=>exact fT _
 | some v=>
  cases v<;>first
   | exact fT _
   | skip
  rename_i h fi ca;cases h<;>first
   | exact fT _
   | skip
  rename_i h;dsimp only;split
  ·exact xK (nC fr σ) (iA (gG (.yl env ps ba b fr)) gk (gS 0 (qP::ca.toList)) { σ with fA:=[] })
  ·exact fT _
end
end AM
namespace AM
open Go Go.RowKit
section
variable{P:Program}{w0:World}
def MB(P:Program)(i:Nat)(fn:AFn):Prop:=∀ (w0:World) (fz:fD) (m:Nat) (args:List Value) (σ σ':St) (v:Value) (X:Emb) (w:World) (rargs:Array Value),
 g9 P w0 qp fz->body fz m fn args σ=some (v,σ')->Sim w0 X σ w->(∀ t∈σ.hid,t < σ.heap.length)->σ.lock<=σ.heap.length->gq (fN X) args rargs.toList ->
  Calls P i rargs w fun e w'=>∃ u X',e=.returned u/\fN X' v u/\Sim w0 X' σ' w'/\Stp X σ w X' w'
def iS (P : Program) (env : Env) : Prop := ∃ l, env = .base l /\ ∀ i fn, gW l i = some fn -> ∃ f, P.funcs[i]? = some f /\ f.name ≠ "runtime.NumGoroutine" /\ f.body.isSome = true /\ (iH P f = some fn \/ MB P i fn)
theorem iS.of{env:Env}(h:qt P env):iS P env:=by obtain⟨l,rfl,h⟩:=h;refine⟨l,rfl,fun i fn hi=>?_⟩;obtain⟨f,h1,h2,h3⟩:=h i fn hi;exact⟨f,h1,h3,yL h2,.inl h2⟩
theorem iS.cons {l : List (Nat × AFn)} {i : Nat} {fn : AFn} {f : Func} (h1 : P.funcs[i]? = some f) (h2 : f.name ≠ "runtime.NumGoroutine") (h3 : f.body.isSome = true) (h4 : MB P i fn) (h : iS P (.base l)) : iS P (.base ((i, fn) :: l)) := ⟨_, rfl, fun k g hk => by
 obtain⟨l',e,h⟩:=h;cases e;simp only[gW] at hk;split at hk
 ·rename_i e;subst e;cases hk;exact⟨f,h1,h2,h3,.inr h4⟩
 ·exact h k g hk⟩
theorem nM {l : List (Nat × AFn)} (he : ∀ i fn, gW l i = some fn -> ∃ f, P.funcs[i]? = some f /\ f.name ≠ "runtime.NumGoroutine" /\ f.body.isSome = true /\ (iH P f = some fn \/ MB P i fn)) (hm : P.follows .mixedOrders = true) : ∀ n, g9 P w0 qp (nT l n)
 | 0=>⟨Bb l 0,pF,fun g args σ v σ' h=>by simp[nT] at h⟩
 | n+1=>⟨Bb l (n+1),pF,fun g args σ v σ' h=>by
  cases g with
  | func f=>
   simp only[nT,aa] at h;obtain⟨fn,hfn,h⟩:=h;obtain⟨f',h1,h3,hb,h2⟩:=he f fn hfn;refine .inl ⟨f,rfl,⟨f',h1,h3,hb⟩,fun X w rargs S hh hl hr=>?_⟩;rcases h2 with h2 | h2
   ·exact Mz (nM he hm n) hm h1 h2 h S hh hl hr
   ·exact h2 w0 (nT l n) n args σ σ' v X w rargs (nM he hm n) h S hh hl hr
  | _=>simp[nT] at h⟩
theorem BW{env:Env}(he:iS P env)(hm:P.follows .mixedOrders=true)(n:Nat):g9 P w0 qp (run env n):=by obtain⟨l,rfl,h⟩:=he;exact nM h hm n
theorem Sim.below{X:Emb}{σ:St}{w w':World}(S:Sim w0 X σ w)(hb:Below w.heap.size w w'):Sim w0 X σ w' where
 bel:=uP S.bel hb|>fun h=>h
 dom:=S.dom
 place:=fun id bx h=>⟨bg (S.place id bx h).1 hb.size,(S.place id bx h).2⟩
 cell:=fun id bx g pl cs h1 h2 h3=>by
  obtain⟨a1,a2,a3,a4,a5,a6⟩:=S.cell id bx g pl cs h1 h2 h3;have hlt:=(S.place id bx h1).1;refine⟨a1,a2,a3,a4,fun j v hj=>?_,fun ho=>?_⟩
  ·obtain⟨u,hu,hr⟩:=a5 j v hj;exact⟨u,by rw[hb.cell hlt];exact hu,hr⟩
  ·obtain⟨b1,rs,ty,lo,hi,b2,b3⟩:=a6 ho;exact⟨b1,rs,ty,lo,hi,by rw[hb.block _ hlt];exact b2,b3⟩
 inj:=S.inj
 lock:=S.lock
 zero:=S.zero
 j4:=fun id bx es h1 h2 h3=>by obtain⟨a1,a2,res,ck,a3,a4⟩:=S.j4 id bx es h1 h2 h3;exact⟨a1,a2,res,ck,by rw[hb.block _ (S.place id bx h1).1];exact a3,a4⟩
theorem yQ{fz:fD}(hcf:g9 P w0 qp fz)(hm:P.follows .mixedOrders=true){m:Nat}{fid:FuncId}{f:Func}{fn:AFn}(hf:P.funcs[fid]?=some f)(hc:iH P f=some fn){σ σ':St}{v:Value}(h:body fz m fn [] σ=some (v,σ'))
  {X:Emb} {w:World} {rargs:Array Value} (S:Sim w0 X σ w) (hh:∀ t∈σ.hid,t < σ.heap.length) (hl:σ.lock<=σ.heap.length) :
  Calls P fid rargs w fun e w'=>∃ u X',e=.returned u/\fN X' v u/\Sim w0 X' σ' w'/\Stp X σ w X' w':=
 yK hcf hm hf hc h S hh hl fun t q ht=>by simp[gS,Fr.get] at ht
theorem I9{env:Env}(he:iS P env)(hm:P.follows .mixedOrders=true){n f:Nat}{f':Func}{fn:AFn}(h1:P.funcs[f]?=some f')(h2:iH P f'=some fn)(h3:env.fn f=some fn)(h:isTrue (run env n (.func f) [] ⟨[],0,[],[]⟩)=true)(w:World)(rargs:Array Value) :
  Calls P f rargs w fun e w'=>e=.returned (.bool true)/\Below w.heap.size w w':=by
 obtain⟨σ',h⟩:=Rx h;obtain⟨l,rfl,he'⟩:=he;have h3':gW l f=some fn:=h3;cases n with
 | zero=>simp[run,nT] at h
 | succ n=>
  simp only[run,nT,h3',ak] at h;have S:Sim w ⟨fun _=>none,0⟩ ⟨[],0,[],[]⟩ w:=⟨Below.refl _ _,fun id bx h=>by (cases h),fun id bx h=>by (cases h),fun id bx g pl cs h=>by (cases h),fun i j bi bj h=>by (cases h),fun id bx h=>by (cases h),fun id bx h=>by (cases h),fun id bx es h=>by (cases h)⟩;refine(yQ (nM (w0:=w) he' hm n) hm h1 h2 h S (by simp) (by simp)).mono fun e w' ⟨u,X',h1,h2,h3,h4⟩=>?_;rw[kE h2] at h1;exact⟨h1,h3.bel⟩
def mL(v:Value):AFn:=⟨.seq (.region [⟨some 0,none,0,true,.mv (.const v)⟩]) .ret,[.tmp 0]⟩
theorem BX{fz:fD}{m:Nat}{u v:Value}{args:List Value}{σ σ':St}(h:body fz m (mL u) args σ=some (v,σ')):v=u/\σ'=σ:=by obtain⟨hp,L,H,d⟩:=σ;simp[body,mL,exec,lI,want,aop,gD,ev,Fr.put,kj,wZ,Fr.get,lM,gc,fX] at h;exact⟨h.1.symm,h.2.symm⟩
theorem DF{env:Env}(he:iS P env)(hm:P.follows .mixedOrders=true){n i:Nat}{f':Func}{fn:AFn}(h1:P.funcs[i]?=some f')(h2:iH P f'=some fn)(h3:env.fn i=some fn)(h:isTrue (run env n (.func i) [] ⟨[],0,[],[]⟩)=true):MB P i (mL (.bool true)):=fun w0 fz m args σ σ' v X w rargs _ hb S _ _ _=>by obtain⟨rfl,rfl⟩:=BX hb;refine(I9 he hm h1 h2 h3 h w rargs).mono fun e w' ⟨he,hw⟩=>⟨_,X,he,(gw rfl).2 rfl,S.below hw,?_⟩;exact⟨hw.size,hw.os,hw.tape,hw.output,fun k hk _=>hw.block k hk,Evo.refl X,fun id bx bx' h1 h2=>by rw[h1] at h2;cases h2;exact .inl rfl,fun id bx' h1=>.inl ⟨bx',h1,rfl,.inl rfl⟩⟩
def natFn(k:Fr->St->Option Value):AFn:=⟨.seq (.region [⟨some 1,none,0,true,.native k⟩]) .ret,[.tmp 1]⟩
theorem Stp.below{X:Emb}{σ:St}{w w':World}(hw:Below w.heap.size w w'):Stp X σ w X w':=
 ⟨hw.size,hw.os,hw.tape,hw.output,fun k hk _=>hw.block k hk,Evo.refl X,fun id bx bx' h1 h2=>by rw[h1] at h2;cases h2;exact .inl rfl,fun id bx' h1=>.inl ⟨bx',h1,rfl,.inl rfl⟩⟩
end
end AM
end Go.Proofs.YtgdpefeomemllaaGreat
