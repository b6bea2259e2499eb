/- Conditions: none. -/
import Derived.Test.YtgdpefeomemllaaGreatF4
set_option linter.all false
set_option maxRecDepth 100000
namespace Go.Proofs.YtgdpefeomemllaaGreat
namespace TwI
open Go Go.RowKit Go.Sort AM fO LtA SyP TmM TsA TsB TsC TsE TsI TsJ TtC TuF TwA TwS TwB TwC TwH Bt
section
variable{hp:List Blk}{L:Nat}{H d t:List Nat}{q b g e n:Nat}
theorem Hp{x:List Value}(hx:x.all AM.sc=true)(h2:x.all fY=true)(he:e<=2):St.append ⟨hp,L,H,d⟩ true e (.slice none 0 0) 1 x=some (.slice (some ⟨hp.length,0,some e⟩) 1 e,⟨hp++[.cells e true x],L,H,d⟩):=by
 have h1:small e=true:=by unfold small;simp;omega
 simp[St.append,h1,hx,h2]
theorem K7{b:Nat}{cs x:List Value}(hb:hp[b]?=some (.cells (n*e) true cs))(hc:cs.length=n*e)(hn0:n≠0)(hx:x.all AM.sc=true)(h2:x.all fY=true)(he:e=1\/e=2)(hn:n<=100000)(hL:L<=b)(hh:H.contains b=false) :
  St.append ⟨hp,L,H,d⟩ true e (.slice (some ⟨b,0,some (n*e)⟩) n e) 1 x=some (.slice (some ⟨b,0,some ((n+1)*e)⟩) (n+1) e,⟨hp.set b (.cells ((n+1)*e) true (cs++x)),L,H,d⟩):=by
 have h1:small ((n+1)*e)=true:=by unfold small;rcases he with rfl | rfl<;>simp<;>omega
 have hbl:St.blk ⟨hp,L,H,d⟩ ⟨b,0,some (n*e)⟩=some (true,cs):=by unfold St.blk;rw[hh,hb];simp
 have hnl:¬ b < L:=om
 simp[St.append,h1,hx,h2,hbl,hnl,hc,gm]
theorem gh{nw:List Blk}{cs:List Value}{s m z:Nat}{rest:Fr}(k:Nat)(hk:nw[k]?=some (.cells g true cs))(hr:∀ p∈rest,∀ r∈refs p.2,r < hp.length) :
  kS hp.length ((s,.slice (some ⟨hp.length+k,0,some m⟩) z e)::rest) ⟨hp++nw,L,H,[]⟩=some ((s,.slice (some ⟨hp.length,0,some m⟩) z e)::rest,⟨hp++[.cells g true cs],L,H,[]⟩):=by
 rw[V3 k hk (fun p hp' r h=>by
  rcases aJ.1 hp' with rfl | hp'
  ·simp[refs,fU,fJ] at h;exact .inr h
  ·exact .inl (hr p hp' r h)) ⟨_,dO,by simp[refs,fU,fJ]⟩]
 have e1:rest.map (fun p=>(p.1,ren (AM.one hp.length (hp.length+k)) p.2))=rest:=map_id' fun p h=>by rw[xQ fun r h'=>oh (hr p h r h')]
 rw[aK,e1];have e2:AM.one hp.length (hp.length+k) (hp.length+k)=hp.length:=iZ;simp only[ren,ke,iX,e2]
theorem gh0{nw:List Blk}{cs:List Value}{s m z:Nat}{rest:Fr}(hr:∀ p∈rest,∀ r∈refs p.2,r < hp.length) :
  kS hp.length ((s,.slice (some ⟨hp.length,0,some m⟩) z e)::rest) ⟨hp++.cells g true cs::nw,L,H,[]⟩=some ((s,.slice (some ⟨hp.length,0,some m⟩) z e)::rest,⟨hp++[.cells g true cs],L,H,[]⟩):=gh 0 rfl hr
def us(t:List Nat)(i:Nat):List Nat:=(List.range i).filter fun s=>decide (0 < (t[s]?).getD 0)
theorem aaz(t:List Nat)(i:Nat):us t (i+1)=if 0 < (t[i]?).getD 0 then us t i++[i] else us t i:=by unfold us;rw[cN,cG];by_cases h:0 < (t[i]?).getD 0<;>simp[h]
theorem N0(t:List Nat)(i:Nat):(us t i).length<=i:=by unfold us;have:=fc (fun s=>decide (0 < (t[s]?).getD 0)) (List.range i);simpa using this
theorem XD(k:Nat){l:List Nat}(h:l.length≠0):slI k l=.slice (some ⟨k,0,some (l.length*1)⟩) l.length 1:=by rw[dR];exact if_neg h
theorem N1{l:List Nat}(h:l.length≠0):lB l=[.cells (l.length*1) true (is l)]:=by rw[dR];exact if_neg h
theorem CQ(h:Ta t 100000)(hq:q < hp.length)(hF:Fit hp.length L H):∀ (k i:Nat),i+k=258->∃ fr,
  fW env GG [2,9,1,8] hp.length [(2,slI hp.length (us t i)),(9,.int .i64 i),(1,.pointer (some ⟨q,0,some 0⟩)),(8,.agg (is t).toArray)] ⟨hp++lB (us t i),L,H,[]⟩
   = some (.exit 0,fr,⟨hp++lB (us t 258),L,H,[]⟩)/\fr.get 2=some (slI hp.length (us t 258))/\fr.get 1=some (.pointer (some ⟨q,0,some 0⟩))
 | 0,i,e=>by
  obtain rfl:i=258:=om
  rw[fC GG.eq_1];simp(disch:=first|exact dis|fail) only[sy,simprocAttr,-List.reduceReplicate,hF.all];exact⟨_,rfl,rfl,rfl⟩
 | k+1,i,e=>by
  obtain⟨fr,ih,ih2⟩:=CQ h hq hF k (i+1) om;refine⟨fr,?_,ih2⟩;obtain⟨n,hn,-,hc⟩:=h.at (i:=i) om;have hlen:=mZ h.len;have h1:(i:Int) < 258:=om
  have h2:0<=(i:Int)/\(i:Int) < 258:=om
  have hul:=N0 t i;rw[aaz,hn] at ih;simp only[dn,aC,aI] at ih;have qH:∀ i:Int,∀ p∈([(9,.int .i64 i),(1,.pointer (some ⟨q,0,some 0⟩)),(8,.agg (is t).toArray)]:Fr),∀ r∈refs p.2,r < hp.length:=by
   intro i p hp' r hr;have hfl:=qY (oS t);simp only[aJ,bJ,or_false] at hp';rcases hp' with rfl | rfl | rfl
   ·simp[refs,fU,fJ] at hr
   ·simp[refs,fU,fJ] at hr;omega
   ·simp[refs,fU,hfl] at hr
  generalize us t i=u at *;generalize us t 258=w at *;rw[fC GG.eq_1];by_cases h0:0 < n
  ·rw[if_pos h0] at ih;have g0:(n:Int) > 0:=om
   have sm1:small 1=true:=by decide
   have hx:[Value.int .i64 (i:Int)].all AM.sc=true:=rfl;by_cases hu:u.length=0
   ·obtain rfl:=bp hu;have e1:slI hp.length []=.slice none 0 0:=rfl;have e2:lB []=[]:=rfl;rw[e1,e2,bB];have ha:=fun d=>Hp (hp:=hp++[.cells 0 true [.int .i64 (i:Int)]]) (L:=L) (H:=H) (d:=d) (e:=1) hx rfl om;have hg:=fun i'=>gh (hp:=hp) (L:=L) (H:=H) (nw:=[.cells 0 true [.int .i64 (i:Int)],.cells 1 true [.int .i64 (i:Int)]]) (s:=2) (m:=1) (z:=1) (e:=1) 1 rfl (qH i');simp only[aB,az,aT,aX,aR,aS,aV] at ha;simp(disch:=first|exact dis|fail) only[sy,simprocAttr,-List.reduceReplicate,hF.all,h1,h2,hc,hlen,g0,sm1,ha,hg];exact ih
   ·rw[XD _ hu,N1 hu];have ha:=fun d=>K7 (hp:=hp++[.cells (u.length*1) true (is u),.cells 0 true [.int .i64 (i:Int)]]) (L:=L) (H:=H) (d:=d) (e:=1) (b:=hp.length) (gA _) (by rw[mE,dR]) hu hx rfl (.inl rfl) om hF.1 hF.lS;rw[gZ] at ha;have hg:=fun i' nw g cs=>gh0 (hp:=hp) (L:=L) (H:=H) (nw:=nw) (g:=g) (cs:=cs) (s:=2) (m:=u.length+1) (z:=u.length+1) (e:=1) (qH i');simp only[dR] at ha hg ⊢;have e3:slI hp.length (u++[i])=.slice (some ⟨hp.length,0,some (u.length+1)⟩) (u.length+1) 1:=by simp[slI]
    have e4:lB (u++[i])=[.cells (u.length+1) true (is u++[.int .i64 (i:Int)])]:=by simp[lB,is]
    rw[e3,e4] at ih;simp(disch:=first|exact dis|fail) only[sy,simprocAttr,-List.reduceReplicate,hF.all,h1,h2,hc,hlen,g0,sm1,ha,hg];exact ih
  ·rw[if_neg h0] at ih;have g0:¬ (n:Int) > 0:=om
   by_cases hu:u.length=0
   ·obtain rfl:=bp hu;have e1:slI hp.length []=.slice none 0 0:=rfl;have e2:lB []=[]:=rfl;rw[e1,e2,bB] at ih ⊢;simp(disch:=first|exact dis|fail) only[sy,simprocAttr,-List.reduceReplicate,hF.all,h1,h2,hc,hlen,g0];exact ih
   ·rw[XD _ hu,N1 hu] at ih ⊢;have hg:=fun i' nw g cs=>gh0 (hp:=hp) (L:=L) (H:=H) (nw:=nw) (g:=g) (cs:=cs) (s:=2) (m:=u.length) (z:=u.length) (e:=1) (qH i');simp only[dR] at ih hg ⊢;simp(disch:=first|exact dis|fail) only[sy,simprocAttr,-List.reduceReplicate,hF.all,h1,h2,hc,hlen,g0,hg];exact ih
end
end TwI
namespace TwP
abbrev Th:=Nat×Bool
def S(l:List Nat)(k:Nat):Nat:=(l.take k).sum
def pairs:List Nat->List Nat
 | a::b::r=>(a+b)::pairs r
 | _=>[]
def mg:List Nat->List Nat->List Th
 | [],ps=>ps.map fun p=>(p,false)
 | x::xs,[]=>(x,true)::mg xs []
 | x::xs,p::ps=>if x<=p then (x,true)::mg xs (p::ps) else (p,false)::mg (x::xs) ps
termination_by xs ps=>xs.length+ps.length
def ws(r:List Th):List Nat:=r.map (·.1)
def row(w:List Nat):Nat->List Th
 | 0=>w.map fun x=>(x,true)
 | k+1=>mg w (pairs (ws (row w k)))
def lf(r:List Th)(m:Nat):Nat:=(r.take m).countP (·.2)
abbrev So(l:List Nat):Prop:=l.Pairwise (·<=·)
theorem N2(l):S l 0=0:=by simp[S]
theorem k9(x:Nat)(l)(k:Nat):S (x::l) (k+1)=x+S l k:=by simp[S]
theorem agw(k):S [] k=0:=by simp[S]
theorem shift:∀ {l:List Nat} {p:Nat} {k:Nat},So (p::l)->k<=l.length->S (p::l) k<=S l k
 | _,_,0,_,_=>by simp[S]
 | [],_,k+1,_,h=>by simp at h
 | x::l,p,k+1,h,hk=>by rw[k9,k9];have h1:=bH.1 h;have h2:=h1.1 x (by simp);have h3:=shift h1.2 (k:=k) (by simpa using hk);omega
theorem N3:∀ {l:List Nat} {i j:Nat},i<=j->S l i<=S l j
 | [],i,j,_=>by simp[S]
 | x::l,0,j,_=>by simp[S]
 | x::l,i+1,j+1,h=>by rw[k9,k9];have:=N3 (l:=l) (i:=i) (j:=j) om;omega
theorem Hq:∀ (xs ps:List Nat),(mg xs ps).length=xs.length+ps.length:=by
 intro xs ps
 fun_induction mg xs ps<;>simp_all<;>omega
theorem agx(xs ps:List Nat)(hx:So xs)(hp:So ps):So (ws (mg xs ps))/\∀ y∈ws (mg xs ps),y∈xs\/y∈ps:=by
 fun_induction mg xs ps with
 | case1 ps=>simpa[ws,dW] using hp
 | case2 x xs ih=>
  have h:=bH.1 hx;have ⟨i1,i2⟩:=ih h.2 hp;refine⟨bH.2 ⟨fun y hy=>?_,i1⟩,fun y hy=>?_⟩
  ·have:=i2 y hy;simp at this;exact h.1 y this
  ·rcases aJ.1 hy with rfl | hy
   ·simp
   ·have:=i2 y hy;simp at this;exact .inl (by simp[this])
 | case3 x xs p ps hle ih=>
  have h:=bH.1 hx;have g:=bH.1 hp;have ⟨i1,i2⟩:=ih h.2 hp;refine⟨bH.2 ⟨fun y hy=>?_,i1⟩,fun y hy=>?_⟩
  ·rcases i2 y hy with h3 | h3
   ·exact h.1 y h3
   ·rcases aJ.1 h3 with rfl | h4
    ·exact hle
    ·have:=g.1 y h4;show x<=y;omega
  ·rcases aJ.1 hy with rfl | hy
   ·simp
   ·rcases i2 y hy with h3 | h3
    ·exact .inl (by simp[h3])
    ·exact .inr h3
 | case4 x xs p ps hle ih=>
  have h:=bH.1 hx;have g:=bH.1 hp;have ⟨i1,i2⟩:=ih hx g.2;refine⟨bH.2 ⟨fun y hy=>?_,i1⟩,fun y hy=>?_⟩
  ·rcases i2 y hy with h3 | h3
   ·rcases aJ.1 h3 with rfl | h4
    ·show p<=y;omega
    ·have:=h.1 y h4;show p<=y;omega
   ·exact g.1 y h3
  ·rcases aJ.1 hy with rfl | hy
   ·simp
   ·rcases i2 y hy with h3 | h3
    ·exact .inl h3
    ·exact .inr (by simp[h3])
theorem agy(xs ps:List Nat)(hx:So xs)(hp:So ps):∀ a b,a<=xs.length->b<=ps.length->S (ws (mg xs ps)) (a+b)<=S xs a+S ps b:=by
 fun_induction mg xs ps with
 | case1 ps=>
  intro a b ha hb;obtain rfl:a=0:=by simpa using ha
  simp[ws,dW,agw]
 | case2 x xs ih=>
  intro a b ha hb;obtain rfl:b=0:=by simpa using hb
  cases a with
  | zero=>simp[S]
  | succ a=>
   have h:=bH.1 hx;have:=ih h.2 hp a 0 (by simpa using ha) (by simp);simp only[ws,aK,bY,k9] at this ⊢;omega
 | case3 x xs p ps hle ih=>
  intro a b ha hb;have h:=bH.1 hx;have g:=bH.1 hp;cases a with
  | succ a=>
   have:=ih h.2 hp a b (by simpa using ha) hb;rw[show a+1+b=(a+b)+1 by omega];simp only[ws,aK,k9] at this ⊢;omega
  | zero=>
   cases b with
   | zero=>simp[S]
   | succ b=>
    have:=ih h.2 hp 0 b (by simp) (by simp at hb ⊢;omega);have h5:=shift hp (k:=b) (by simpa using hb);rw[show 0+(b+1)=(0+b)+1 by omega];simp only[ws,aK,k9,N2] at this ⊢;omega
 | case4 x xs p ps hle ih=>
  intro a b ha hb;have h:=bH.1 hx;have g:=bH.1 hp;cases b with
  | succ b=>
   have:=ih hx g.2 a b ha (by simpa using hb);rw[show a+(b+1)=(a+b)+1 by omega];simp only[ws,aK,k9] at this ⊢;omega
  | zero=>
   cases a with
   | zero=>simp[S]
   | succ a=>
    have:=ih hx g.2 a 0 (by simp at ha ⊢;omega) (by simp);have h5:=shift hx (k:=a) (by simpa using ha);rw[show a+1+0=(a+0)+1 by omega];simp only[ws,aK,k9,N2,bY] at this ⊢;omega
theorem Hr(xs ps:List Nat):∀ m,m<=xs.length+ps.length->∃ b,m=lf (mg xs ps) m+b/\b<=ps.length/\lf (mg xs ps) m<=xs.length/\S (ws (mg xs ps)) m=S xs (lf (mg xs ps) m)+S ps b:=by
 fun_induction mg xs ps with
 | case1 ps=>
  intro m hm;have:lf (ps.map fun p=>(p,false)) m=0:=by simp[lf,List.countP_eq_zero];intro a h;simp_all [<- List.map_take]
  refine⟨m,om,by simpa using hm,by rw[this];simp,?_⟩;rw[this,N2];simp[ws,dW]
 | case2 x xs ih=>
  intro m hm;cases m with
  | zero=>exact⟨0,by simp[lf],by simp,by simp[lf],by simp[lf,S]⟩
  | succ m=>
   obtain⟨b,h1,h2,h3,h4⟩:=ih m (by simp at hm ⊢;omega);have e:lf ((x,true)::mg xs []) (m+1)=lf (mg xs []) m+1:=by simp[lf]
   refine⟨b,om,h2,by simp;omega,?_⟩;rw[e];simp only[ws,aK,k9] at h4 ⊢;omega
 | case3 x xs p ps hle ih=>
  intro m hm;cases m with
  | zero=>exact⟨0,by simp[lf],by simp,by simp[lf],by simp[lf,S]⟩
  | succ m=>
   obtain⟨b,h1,h2,h3,h4⟩:=ih m (by simp at hm ⊢;omega);have e:lf ((x,true)::mg xs (p::ps)) (m+1)=lf (mg xs (p::ps)) m+1:=by simp[lf]
   refine⟨b,om,h2,by simp;omega,?_⟩;rw[e];simp only[ws,aK,k9] at h4 ⊢;omega
 | case4 x xs p ps hle ih=>
  intro m hm;cases m with
  | zero=>exact⟨0,by simp[lf],by simp,by simp[lf],by simp[lf,S]⟩
  | succ m=>
   obtain⟨b,h1,h2,h3,h4⟩:=ih m (by simp at hm ⊢;omega);have e:lf ((p,false)::mg (x::xs) ps) (m+1)=lf (mg (x::xs) ps) m:=by simp[lf]
   refine⟨b+1,om,by simp;omega,om,?_⟩;rw[e];simp only[ws,aK,k9] at h4 ⊢;omega
theorem jk(l:List Nat):(pairs l).length=l.length / 2:=by
 fun_induction pairs l with
 | case1 a b r ih=>simp[ih];omega
 | case2 l h=>
  match l,h with
  | [],_=>rfl
  | [_],_=>simp
  | a::b::r,h=>exact(h a b r rfl).elim
theorem E6(l:List Nat):∀ y∈pairs l,∃ u∈l,∃ v∈l,y=u+v:=by
 fun_induction pairs l with
 | case1 a b r ih=>
  intro y hy;rcases aJ.1 hy with rfl | hy
  ·exact⟨a,by simp,b,by simp,rfl⟩
  ·obtain⟨u,hu,v,hv,e⟩:=ih y hy;exact⟨u,by simp[hu],v,by simp[hv],e⟩
 | case2=>simp
theorem K8(l:List Nat)(h:So l):So (pairs l):=by
 fun_induction pairs l with
 | case1 a b r ih=>
  have h1:=bH.1 h;have h2:=bH.1 h1.2;refine bH.2 ⟨fun y hy=>?_,ih h2.2⟩;obtain⟨u,hu,v,hv,rfl⟩:=E6 r y hy;have:=h1.1 u (by simp[hu]);have:=h2.1 v hv;omega
 | case2=>exact .nil
theorem Qb(l:List Nat):∀ b,b<=l.length / 2->S (pairs l) b=S l (2*b):=by
 fun_induction pairs l with
 | case1 a c r ih=>
  intro b hb;cases b with
  | zero=>simp[S]
  | succ b=>
   rw[show 2*(b+1)=2*b+1+1 by omega,k9,k9,k9,ih b (by simp at hb;omega)];omega
 | case2 l h=>
  intro b hb;match l,h with
  | [],_=>simp[S]
  | [x],_=>
   obtain rfl:b=0:=by simpa using hb
   simp[S]
  | a::b::r,h=>exact(h a b r rfl).elim
variable{w:List Nat}
theorem XE(h:So w):∀ k,So (ws (row w k))
 | 0=>by simpa[row,ws,dW] using h
 | k+1=>(agx w _ h (K8 _ (XE h k))).1
theorem Hs(k):(row w (k+1)).length=w.length+(row w k).length / 2:=by simp[row,Hq,jk,ws]
theorem Qc:∀ k,2*w.length*2 ^ k < (row w k).length*2 ^ k+2 ^ k+w.length
 | 0=>by simp[row];omega
 | k+1=>by
  have ih:=Qc k;rw[Hs,fm];generalize (row w k).length=s at *;generalize w.length=n at *;have e:s<=2*(s / 2)+1:=om
  generalize s / 2=t at *;generalize 2 ^ k=q at *;have:s*q<=(2*t+1)*q:=cq q e;simp only[bS,<- dy,dH] at *;have:n*(q*2)=2*(n*q):=by rw[<- dy];omega
  have:2*n*(q*2)=4*(n*q):=by rw[<- dy,dy 2];omega
  have:t*(q*2)=2*(t*q):=by rw[<- dy];omega
  have:2*t*q=2*(t*q):=by rw[dy]
  have:2*n*q=2*(n*q):=by rw[dy]
  omega
theorem XF(h:w.length<=2 ^ 15):2*w.length - 2<=(row w 14).length:=by have:=Qc (w:=w) 14;omega
def sm:Nat->(Nat->Nat)->Nat
 | 0,_=>0
 | n+1,f=>sm n f+f n
theorem Ht(f g:Nat->Nat):∀ n,sm n (fun k=>f k+g k)=sm n f+sm n g
 | 0=>rfl
 | n+1=>by simp only[sm,Ht f g n];omega
theorem XG{f g:Nat->Nat} : ∀ {n},(∀ k < n,f k<=g k)->sm n f<=sm n g
 | 0,_=>av _
 | n+1,h=>Nat.add_le_add (XG fun k hk=>h k om) (h n om)
theorem Qd:∀ n,sm n (fun _=>0)=0
 | 0=>rfl
 | n+1=>by simp[sm,Qd n]
def M(a:Nat->Nat):Nat->Nat
 | 0=>a 0
 | k+1=>a (k+1)+M a k / 2
theorem ab3(a:Nat->Nat):∀ k,sm (k+1) (fun j=>a j*2 ^ j) < (M a k+1)*2 ^ k
 | 0=>by simp[sm,M]
 | k+1=>by
  have ih:=ab3 a k;simp only[sm] at ih ⊢;simp only[M,fm];generalize sm k (fun j=>a j*2 ^ j)+a k*2 ^ k=t at *;generalize M a k=m at *;generalize 2 ^ k=q at *;have h:(m+1)*q<=(m / 2+1)*2*q:=cq q om;have e:(a (k+1)+m / 2+1)*(q*2)=a (k+1)*(q*2)+(m / 2+1)*2*q:=by rw[cA,bS (a (k+1)),dy,bE q 2]
  omega
theorem ab4(hw:So w){a:Nat->Nat}(ha:∀ k,a k<=w.length):∀ k,M a k<=(row w k).length/\S (ws (row w k)) (M a k)<=sm (k+1) fun j=>S w (a j)
 | 0=>by
  refine⟨by simpa[row,M] using ha 0,?_⟩;simp[sm,M,row,ws,dW]
 | k+1=>by have ⟨i1,i2⟩:=ab4 hw ha k;have hl:=Hs (w:=w) k;have:=ha (k+1);refine⟨by rw[hl];simp only[M];omega,?_⟩;have h1:=agy w (pairs (ws (row w k))) hw (K8 _ (XE hw k)) (a (k+1)) (M a k / 2) (ha _) (by rw[jk];simp[ws];omega);rw[Qb _ _ (by simp[ws];omega)] at h1;have h2:=N3 (l:=ws (row w k)) (i:=2*(M a k / 2)) (j:=M a k) om;show S (ws (mg w _)) (a (k+1)+M a k / 2)<=sm (k+1) _+S w (a (k+1));omega
theorem K9{q:Nat×Nat->Bool} : ∀ {l:List (Nat×Nat)},So (l.map (·.1))->S (l.map (·.1)) (l.countP q)<=(l.map fun x=>if q x then x.1 else 0).sum
 | [],_=>by simp[S]
 | x::l,h=>by
  have h1:=bH.1 h;have ih:=K9 (q:=q) h1.2;by_cases c:q x
  ·rw[List.countP_cons_of_pos c];simp only[aK,k9,dY,c,if_true];omega
  ·rw[List.countP_cons_of_neg c];have:=shift h (k:=l.countP q) (by simpa using List.countP_le_length);simp only[aK,dY,c] at this ⊢;simp at this ⊢;omega
theorem Qe(l:List (Nat×Nat))(f:Nat->Nat×Nat->Nat):∀ n,sm n (fun k=>(l.map (f k)).sum)=(l.map fun x=>sm n fun k=>f k x).sum:=by
 intro n;induction l with
 | nil=>simp[Qd]
 | cons x l ih=>simp only[aK,dY,Ht,ih]
theorem adG{l:List (Nat×Nat)}{f g:Nat×Nat->Nat}(h:∀ x∈l,f x=g x):(l.map f).sum=(l.map g).sum:=by rw[bQ h]
theorem agz(x d:Nat)(h:d<=15):sm 15 (fun k=>if 15<=d+k then x else 0)=x*d:=by
 have:∀ d,d<=15->∀ x,sm 15 (fun k=>if 15<=d+k then x else 0)=x*d:=by
  intro d hd x;match d,hd with
  | 0,_ | 1,_ | 2,_ | 3,_ | 4,_ | 5,_ | 6,_ | 7,_ | 8,_ | 9,_ | 10,_ | 11,_ | 12,_ | 13,_ | 14,_ | 15,_=>simp[sm];try omega
 exact this d h x
theorem ah0:∀ d,d<=15->sm 15 (fun k=>(if 15<=d+k then 1 else 0)*2 ^ k)+2 ^ (15 - d)=2 ^ 15:=by decide
theorem low{l:List (Nat×Nat)}(hw:So (l.map (·.1)))(hd:∀ x∈l,x.2<=15)(hk:(l.map fun x=>2 ^ (15 - x.2)).sum<=2 ^ 15) :
  S (ws (row (l.map (·.1)) 14)) (2*l.length - 2)<=(l.map fun x=>x.1*x.2).sum:=by
 let a:=fun k=>l.countP fun x=>decide (15<=x.2+k);have h1:=ab4 (w:=l.map (·.1)) hw (a:=a) (fun k=>by simpa using List.countP_le_length) 14;have h2:sm 15 (fun j=>a j*2 ^ j) < (M a 14+1)*2 ^ 14:=ab3 a 14;have e1:sm 15 (fun j=>a j*2 ^ j)+(l.map fun x=>2 ^ (15 - x.2)).sum=l.length*2 ^ 15:=by
  have:(fun j=>a j*2 ^ j)=fun j=>(l.map fun x=>(if 15<=x.2+j then 1 else 0)*2 ^ j).sum:=by
   funext j;simp only[a];clear h1 h2 hw hd hk a;induction l with
   | nil=>simp
   | cons x l ih=>
    simp only[cE,aK,dY,bS,ih];by_cases c:15<=x.2+j<;>simp[c];omega
  rw[this,Qe];clear this h1 h2 hw hk a;induction l with
  | nil=>simp
  | cons x l ih=>
   have i1:=ih fun y hy=>hd y (by simp[hy]);have i2:=ah0 x.2 (hd x (by simp));simp only[aK,dY,az];omega
 have h3:2*l.length - 2<=M a 14:=om
 have h4:sm 15 (fun j=>S (l.map (·.1)) (a j))<=(l.map fun x=>x.1*x.2).sum:=by
  refine bh (XG (g:=fun k=>(l.map fun x=>if 15<=x.2+k then x.1 else 0).sum) fun k _=>?_) ?_
  ·have:=K9 (q:=fun x=>decide (15<=x.2+k)) hw;simpa using this
  ·rw[Qe];rw[adG fun x hx=>agz x.1 x.2 (hd x hx)];exact av _
 exact bh (N3 h3) (bh h1.2 h4)
def lv(w:List Nat):Nat->Nat->List Nat
 | 0,m=>[lf (row w 0) m]
 | k+1,m=>lf (row w (k+1)) m::lv w k (2*(m - lf (row w (k+1)) m))
def len(asq:List Nat)(i:Nat):Nat:=asq.countP fun a=>decide (i < a)
theorem Hu{m}(h:m<=w.length):lf (row w 0) m=m:=by
 have:(row w 0).take m=(w.take m).map fun x=>(x,true):=by simp[row,List.map_take]
 simp only[lf,this,List.countP_map];rw[show((fun x:Th=>x.2)∘fun x=>(x,true))=fun _:Nat=>true from rfl];simp[dG h]
def vl:Nat->List Nat->Nat
 | 0,asq=>asq.headD 0
 | k+1,asq=>asq.headD 0*2 ^ (k+1)+vl k asq.tail
theorem N4(w:List Nat):∀ k m,(lv w k m).length=k+1
 | 0,_=>rfl
 | k+1,m=>by simp[lv,N4 w k]
theorem CR:∀ k m,m<=(row w k).length->(∀ a∈lv w k m,a<=w.length)/\((lv w k m).map (S w)).sum=S (ws (row w k)) m/\vl k (lv w k m)=m*2 ^ k
 | 0,m,h=>by
  have hm:m<=w.length:=by simpa[row] using h
  simp only[lv,Hu hm];refine⟨by simpa using hm,?_,by simp[vl]⟩;simp[row,ws,dW]
 | k+1,m,h=>by
  obtain⟨b,h1,h2,h3,h4⟩:=Hr w (pairs (ws (row w k))) m (by rw[row,Hq] at h;exact h);rw[jk] at h2;have h2':b<=(row w k).length / 2:=by simpa[ws] using h2
  rw[Qb _ _ h2] at h4;have e:lf (row w (k+1)) m=lf (mg w (pairs (ws (row w k)))) m:=rfl;simp only[lv,e];generalize lf (mg w (pairs (ws (row w k)))) m=a at *;have e2:2*(m - a)=2*b:=om
  rw[e2];obtain⟨i1,i2,i3⟩:=CR k (2*b) om;refine⟨fun y hy=>?_,?_,?_⟩
  ·rcases aJ.1 hy with rfl | hy
   ·exact h3
   ·exact i1 y hy
  ·simp only[aK,dY,i2];exact h4.symm
  ·simp only[vl,List.headD_cons,List.tail_cons,i3,h1,fm,bS];rw[bE 2 b,dy,bE 2]
theorem Qf:∀ (w:List Nat) (j a:Nat),((w.zipIdx j).map fun x=>if x.2 < a then x.1 else 0).sum=S w (a - j)
 | [],j,a=>by simp[S]
 | x::w,j,a=>by
  simp only[List.zipIdx_cons,aK,dY,Qf w (j+1) a];by_cases c:j < a
  ·rw[if_pos c,show a - j=a - (j+1)+1 by omega,k9]
  ·rw[if_neg c,show a - j=0 by omega,show a - (j+1)=0 by omega];simp[S]
theorem aaA(l:List (Nat×Nat))(f g:Nat×Nat->Nat):(l.map fun x=>f x+g x).sum=(l.map f).sum+(l.map g).sum:=by
 induction l with
 | nil=>rfl
 | cons x l ih=>simp only[aK,dY,ih];omega
theorem La(w:List Nat):∀ asq:List Nat,(w.zipIdx.map fun x=>x.1*len asq x.2).sum=(asq.map (S w)).sum
 | []=>by
  simp only[len,List.countP_nil,Nat.mul_zero,br,List.sum_nil];generalize w.zipIdx=z;induction z with
  | nil=>rfl
  | cons x z ih=>simpa using ih
 | a::asq=>by
  have:(fun x:Nat×Nat=>x.1*len (a::asq) x.2)=fun x=>x.1*len asq x.2+if x.2 < a then x.1 else 0:=by funext x;by_cases c:x.2 < a<;>simp[len,c,Nat.mul_add]
  rw[this,aaA,La w asq,Qf];simp;omega
def fl(asq:List Nat)(i:Nat):List Nat:=asq.map fun a=>if i < a then 1 else 0
theorem flag:∀ k (asq:List Nat) i,asq.length=k+1->vl k (fl asq i)+2 ^ (k+1 - len asq i)<=2 ^ (k+1)/\len asq i<=k+1
 | 0,[a],i,_=>by by_cases c:i < a<;>simp[fl,vl,len,c]
 | k+1,a::asq,i,h=>by
  have ⟨i1,i2⟩:=flag k asq i (by simpa using h);have e:vl (k+1) (fl (a::asq) i)=(if i < a then 1 else 0)*2 ^ (k+1)+vl k (fl asq i):=by simp[fl,vl]
  have e2:len (a::asq) i=len asq i+if i < a then 1 else 0:=by simp[len,cE]
  rw[e,e2,fm 2 (k+1)];by_cases c:i < a
  ·simp only[c,if_true];rw[show k+1+1 - (len asq i+1)=k+1 - len asq i by omega];omega
  ·simp only[c,if_false];rw[show k+1+1 - (len asq i+0)=k+1 - len asq i+1 by omega,fm];omega
theorem Hv(a:Nat):∀ n,sm n (fun i=>if i < a then 1 else 0)=min n a
 | 0=>by simp[sm]
 | n+1=>by simp only[sm,Hv a n];split<;>omega
theorem XH(c:Nat)(f:Nat->Nat):∀ n,sm n (fun i=>f i*c)=sm n f*c
 | 0=>by simp[sm]
 | n+1=>by simp only[sm,XH c f n,bS]
theorem ab5(n:Nat):∀ k (asq:List Nat),asq.length=k+1->(∀ a∈asq,a<=n)->sm n (fun i=>vl k (fl asq i))=vl k asq
 | 0,[a],_,h=>by
  have:=h a (by simp);simp only[fl,vl,aK,List.headD_cons,Hv];omega
 | k+1,a::asq,h,g=>by have:=g a (by simp);have ih:=ab5 n k asq (by simpa using h) fun y hy=>g y (by simp[hy]);simp only[fl,vl,aK,List.headD_cons,List.tail_cons] at ih ⊢;rw[Ht,ih,XH,Hv,eL this]
theorem XI(c):∀ n,sm n (fun _=>c)=n*c
 | 0=>by simp[sm]
 | n+1=>by simp only[sm,XI c n,bS];omega
def ls(w:List Nat)(i:Nat):Nat:=if w.length=1 then 1 else len (lv w 14 (2*w.length - 2)) i
theorem Lc(h:w.length<=2 ^ 15):sm w.length (fun i=>2 ^ (15 - ls w i))<=2 ^ 15:=by
 unfold ls;by_cases c:w.length=1
 ·simp[c,sm]
 simp only[c,if_false];by_cases c0:w.length=0
 ·simp[c0,sm]
 obtain⟨f1,-,f3⟩:=CR (w:=w) 14 (2*w.length - 2) (XF h);have hl:=N4 w 14 (2*w.length - 2);generalize lv w 14 (2*w.length - 2)=asq at *;have h1:sm w.length (fun i=>vl 14 (fl asq i)+2 ^ (15 - len asq i))<=sm w.length fun _=>2 ^ 15:=XG fun i _=>(flag 14 asq i hl).1;rw[Ht,ab5 _ _ _ hl f1,f3,XI] at h1;omega
theorem ab6(h:w.length<=2 ^ 15){i:Nat}(hi:i < w.length):1<=ls w i/\ls w i<=15:=by
 have k:=Lc h;have h2:ls w i<=15:=by
  unfold ls;split
  ·omega
  ·exact(flag 14 _ i (N4 w 14 _)).2
 refine⟨?_,h2⟩;by_cases c:w.length=1
 ·simp[ls,c]
 refine Nat.pos_of_ne_zero fun e=>?_;have:∀ n,∀ i < n,∀ f:Nat->Nat,(∀ j < n,1<=f j)->f i+(n - 1)<=sm n f:=by
  intro n;induction n with
  | zero=>intro i h;omega
  | succ n ih=>
   intro i h f g;simp only[sm];by_cases c:i=n
   ·subst c;have:∀ m,(∀ j < m,1<=f j)->m<=sm m f:=by
     intro m;induction m with
     | zero=>simp
     | succ m ih=>intro g;have:=ih fun j hj=>g j om;have:=g m om;simp only[sm];omega
    have:=this i fun j hj=>g j om;omega
   ·have:=ih i om f fun j hj=>g j om;have:=g n om;omega
 have:=this _ i hi (fun i=>2 ^ (15 - ls w i)) fun j _=>Nat.one_le_two_pow;simp only[e] at this;omega
theorem best{l:List (Nat×Nat)}(hw:So (l.map (·.1)))(hn:l.length<=2 ^ 15)(hd:∀ x∈l,1<=x.2/\x.2<=15)(hk:(l.map fun x=>2 ^ (15 - x.2)).sum<=2 ^ 15) :
  ((l.map (·.1)).zipIdx.map fun x=>x.1*ls (l.map (·.1)) x.2).sum<=(l.map fun x=>x.1*x.2).sum:=by
 by_cases c:l.length=1
 ·match l,c with
  | [x],_=>
   have:=(hd x (by simp)).1;simp[ls];exact eR _ this
 have h1:=low hw (fun x hx=>(hd x hx).2) hk;have h2:=(CR (w:=l.map (·.1)) 14 (2*(l.map (·.1)).length - 2) (XF (by simpa using hn))).2.1;rw[<- La] at h2;simp only[ls,eT,c,if_false] at h2 ⊢;omega
end TwP
namespace TwJ
open Go Go.RowKit Go.Sort AM fO LtA SyP TmM TsA TsB TsC TsE TsI TsJ TtC TuF TwA TwS TwB TwC TwH TwI Bt
theorem toA(l:List Nat):isA l.toArray=is l:=rfl
theorem Tt{n:Nat}{W W':Array Nat}(h:PermIn 0 n W W')(hn:W.size=n):W'.toList.Perm W.toList:=by have h1:=h.2.2;have h2:=h.1;rw[show W'.extract 0 n=W' by rw[<- hn,<- h2];exact Array.extract_size,show W.extract 0 n=W by rw[<- hn];exact Array.extract_size] at h1;exact h1
theorem Ld{n:Nat}{W:Array Nat}{t:List Nat}(h:SortedIn (ltK t) 0 n W)(hn:W.size=n):(W.toList.map fun s=>(t[s]?).getD 0).Pairwise (·<=·):=by rw[List.pairwise_map,eG];intro i j hi hj hij;rw[bZ] at hi hj;have:=h i j om hij om;simp only[ltK,key,decide_eq_false_iff_not,getElem!_pos W i hi,getElem!_pos W j hj] at this;simp only[Array.getElem_toList];omega
theorem ab7{t:List Nat}{i s:Nat}(h:s∈us t i):s < i:=cj.1 (cT.1 h).1
structure Od(t od:List Nat):Prop where
 perm:od.Perm (us t 258)
 so:(od.map fun s=>(t[s]?).getD 0).Pairwise (·<=·)
theorem Od.lt{t od:List Nat}(h:Od t od):∀ s∈od,s < 258:=fun s hs=>ab7 (h.perm.mem_iff.1 hs)
theorem Od.len{t od:List Nat}(h:Od t od):od.length<=258:=by rw[h.perm.length_eq];exact N0 t 258
section
variable{hp:List Blk}{L:Nat}{H d t:List Nat}{q b g e n:Nat}
theorem vo(h:Ta t 100000)(hne:us t 258≠[])(hF:Fit hp.length L H):∃ od,Od t od/\∀ d,fS env (.func 62) [.agg (is t).toArray] ⟨hp,L,H,d⟩=some (.slice (some ⟨hp.length,0,some od.length⟩) od.length 1,⟨hp++[.cells od.length true (is od)],L,H,d⟩):=by
 obtain⟨fr,e1,e2,e3⟩:=CQ (hp:=hp++[.cells 0 true (is t)]) (L:=L) (H:=H) (q:=hp.length) h (by simp) (hF.mono (by simp)) 258 0 om;have hun:(us t 258).length≠0:=fun h=>hne (bp h);have hlt:∀ s∈us t 258,s < 258:=fun s hs=>ab7 hs;have ah1:=N0 t 258;have hpm:∀ od:List Nat,od.Perm (us t 258)->od.length=(us t 258).length:=fun od h=>h.length_eq;have e0:slI (hp.length+1) (us t 0)=.slice none 0 0:=rfl;have e0':lB (us t 0)=[]:=rfl;simp only[aB,az,aT,aX,aN,XD _ hun,N1 hun,e0,e0',bB,dR,aR,aS,aV] at e1 e2;have hU:∃ u,u=us t 258:=⟨_,rfl⟩;obtain⟨u,hu⟩:=hU;rw[<- hu] at e1 e2 hun hlt ah1 hpm;have hSy:Sy u.toArray u.length:=⟨by simp,fun i hi=>by simp[hi];exact hlt _ (bN hi)⟩;have hC:Cx (hp++[.cells 0 true (is t),.cells u.length true (is u)]) L H t hp.length (hp.length+1):=
  ⟨h,gA _,hF.lS,om,by simp,by have:=hF.1;omega,hF.nv 1,hF.mono (by simp)⟩
 obtain⟨W',p1,p2,k⟩:=K6 (g:=u.length) (e:=1) hC (.inr rfl) om hSy;have hw:isA W'=is W'.toList:=rfl;have hl:=Tt p1 (by simp);have hwl:W'.toList.length=u.length:=by simpa using hl.length_eq
 rw[toA,hw,jt (by rw[iE];rfl)] at k;rw[show(hp++[Blk.cells 0 true (is t),.cells u.length true (is u)]).set (hp.length+1) (.cells u.length true (is W'.toList))=hp++[.cells 0 true (is t),.cells u.length true (is W'.toList)] by rw[wj];rfl] at k;refine⟨W'.toList,⟨by rw[<- hu];simpa using hl,Ld p2 (by rw[p1.1];simp)⟩,fun d=>?_⟩;rw[hwl,fF 62 _ _ ahL];have hv:=fun hp L H d hF=>tu (hp:=hp) (L:=L) (H:=H) (d:=d) h om hF;have hlen:=mZ h.len;have hG:=fun c1=>kO (h:=hp) (nw:=[c1,.cells u.length true (is W'.toList)]) (L:=L) (H:=H) (v:=.slice (some ⟨hp.length+1,0,some u.length⟩) u.length 1) 1 rfl (by simp[refs,fU,fJ]) (by simp[refs,fU,fJ]);have o2:AM.one hp.length (hp.length+1) (hp.length+1)=hp.length:=iZ;simp only[iB] at k;clear hC hSy hl p1 p2 hpm;generalize W'.toList=od at *;generalize u.length=N at *;simp(disch:=first|exact dis|fail) only[sy,simprocAttr,-List.reduceReplicate,hF.all,ZQ,jR,oS,hlen,fR hlen,hv,e1,e2,e3,k,hG,ren,ke,iX,o2,aK,br]
end
end TwJ
namespace TwK
open Go Go.RowKit Go.Sort AM fO LtA SyP TmM TsA TsB TsC TsE TsI TsJ TtC TuF TwA TwS TwB TwC TwH TwI TwJ TwP Bt
def thL:List Th->List Value
 | []=>[]
 | p::l=>.int .i64 (p.1:Nat)::.bool p.2::thL l
theorem mh:∀ l:List Th,(thL l).length=l.length*2
 | []=>rfl
 | p::l=>by simp only[thL,az,mh l];omega
theorem XJ:∀ l:List Th,(thL l).all AM.sc=true
 | []=>rfl
 | p::l=>by simp only[thL,ct,XJ l];rfl
theorem AG:∀ l m:List Th,thL (l++m)=thL l++thL m
 | [],m=>rfl
 | p::l,m=>by simp only[thL,aS,AG l m]
theorem Hw:∀ (l:List Th) (i:Nat) (h:i < l.length),((thL l).drop (i*2)).take 2=[.int .i64 (l[i].1:Nat),.bool l[i].2]
 | p::l,0,h=>rfl
 | p::l,i+1,h=>by rw[thL,show(i+1)*2=i*2+1+1 by omega,cC,cC];exact Hw l i (by simpa using h)
theorem Lf:∀ (l:List Th) (i:Nat) (h:i < l.length),(thL l)[i*2]?=some (.int .i64 (l[i].1:Nat))
 | p::l,0,h=>rfl
 | p::l,i+1,h=>by rw[thL,show(i+1)*2=i*2+1+1 by omega,cJ,cJ];exact Lf l i (by simpa using h)
def slT(k:Nat)(l:List Th):Value:=if l.length=0 then .slice none 0 0 else .slice (some ⟨k,0,some (l.length*2)⟩) l.length 2
def xY(l:List Th):List Blk:=if l.length=0 then [] else [.cells (l.length*2) true (thL l)]
theorem zo(k:Nat){l:List Th}(h:l.length≠0):slT k l=.slice (some ⟨k,0,some (l.length*2)⟩) l.length 2:=if_neg h
theorem tC{l:List Th}(h:l.length≠0):xY l=[.cells (l.length*2) true (thL l)]:=if_neg h
theorem Hx(k:Nat)(l:List Th)(x:Th):slT k (l++[x])=.slice (some ⟨k,0,some ((l.length+1)*2)⟩) (l.length+1) 2:=by simp[slT]
theorem CS(l:List Th)(x:Th):xY (l++[x])=[.cells ((l.length+1)*2) true (thL l++[.int .i64 (x.1:Nat),.bool x.2])]:=by simp[xY,AG,thL]
def wts(t od:List Nat):List Nat:=od.map fun s=>(t[s]?).getD 0
section
variable{hp:List Blk}{L:Nat}{H d t:List Nat}{q b g e n:Nat}
theorem E7{od:List Nat}{v:Value}(h:Ta t 100000)(hS:Si hp H v od)(hod:∀ s∈od,s < 258)(hle:od.length<=258)(hvr:∀ r∈refs v,r < hp.length)(hq:hp[q]?=some (.cells 0 true (is t)))(hh:H.contains q=false)(hF:Fit hp.length L H):∀ (k i:Nat),i+k=od.length->∃ fr,
  fW env GH [4,9,8,7,2] hp.length [(4,slT hp.length (row ((wts t od).take i) 0)),(9,.int .i64 i),(8,.int .i64 od.length),(7,v),(2,.pointer (some ⟨q,0,some 0⟩))] ⟨hp++xY (row ((wts t od).take i) 0),L,H,[]⟩
   = some (.exit 0,fr,⟨hp++xY (row (wts t od) 0),L,H,[]⟩)/\fr.get 4=some (slT hp.length (row (wts t od) 0))
 | 0,i,e=>by
  rw[bt (by simp[wts];omega)];obtain⟨b,of,g,ee,pl,cs,rfl,hh',hb,hc⟩:=hS;have h1:¬ (i:Int) < od.length:=om
  rw[fC GH.eq_1];simp(disch:=first|exact dis|fail) only[sy,simprocAttr,-List.reduceReplicate,hF.all,h1];exact⟨_,rfl,rfl⟩
 | k+1,i,e=>by
  obtain⟨fr,ih,ih2⟩:=E7 h hS hod hle hvr hq hh hF k (i+1) om;refine⟨fr,?_,ih2⟩;have hi:i < od.length:=om
  have hx:=hod _ (bN hi);obtain⟨m,hm,-,hm2⟩:=h.at hx;have hwi:i < (wts t od).length:=by simpa[wts] using hi
  have hwe:(wts t od)[i]=m:=by simp[wts,hm]
  have hsn:row ((wts t od).take (i+1)) 0=row ((wts t od).take i) 0++[(m,true)]:=by rw[b9 hwi,hwe];simp[row]
  have hlen:(row ((wts t od).take i) 0).length=i:=by simp[row];omega
  rw[hsn] at ih;obtain⟨b,of,g,ee,pl,cs,rfl,hh',hb,hc⟩:=hS;have hc:=hc i hi;have hbl:=(af.1 hb).1;have hql:=(af.1 hq).1;have h1:(i:Int) < od.length:=om
  have h2:0<=(i:Int)/\(i:Int) < od.length:=om
  have h3:0<=((od[i]:Nat):Int)/\((od[i]:Nat):Int) < 258:=om
  have qH:∀ i:Int,∀ p∈([(9,.int .i64 i),(8,.int .i64 od.length),(7,.slice (some ⟨b,of,some g⟩) od.length ee),(2,.pointer (some ⟨q,0,some 0⟩))]:Fr),∀ r∈refs p.2,r < hp.length:=by
   intro i p hp' r hr;simp only[aJ,bJ,or_false] at hp';rcases hp' with rfl | rfl | rfl | rfl
   ·simp[refs,fU,fJ] at hr
   ·simp[refs,fU,fJ] at hr
   ·exact hvr r hr
   ·simp[refs,fU,fJ] at hr;omega
  generalize row ((wts t od).take i) 0=u at *;generalize row (wts t od) 0=w at *;generalize od[i]=x at *;rw[fC GH.eq_1];have hx:[Value.int .i64 (m:Int),.bool true].all AM.sc=true:=rfl;have sm1:small 2=true:=by decide
  simp only[aC,aI] at ih;by_cases hu:u.length=0
  ·obtain rfl:=bp hu;have e1:slT hp.length []=.slice none 0 0:=rfl;have e2:xY []=[]:=rfl;rw[e1,e2,bB];have ha:=fun d=>Hp (hp:=hp++[.cells 0 true [.int .i64 (m:Int),.bool true]]) (L:=L) (H:=H) (d:=d) (e:=2) hx rfl om;have hg:=fun i'=>gh (hp:=hp) (L:=L) (H:=H) (nw:=[.cells 0 true [.int .i64 (m:Int),.bool true],.cells 2 true [.int .i64 (m:Int),.bool true]]) (s:=4) (m:=2) (z:=1) (e:=2) 1 rfl (qH i');simp only[aB,az,aT,aX,aR,aS,aV] at ha;simp(disch:=first|exact dis|fail) only[sy,simprocAttr,-List.reduceReplicate,hF.all,h1,h2,h3,hb,hh',hc,hq,hh,hm2,sm1,ha,hg];exact ih
  ·rw[zo _ hu,tC hu];have ha:=fun d=>K7 (hp:=hp++[.cells (u.length*2) true (thL u),.cells 0 true [.int .i64 (m:Int),.bool true]]) (L:=L) (H:=H) (d:=d) (e:=2) (b:=hp.length) (gA _) (mh u) hu hx rfl (.inr rfl) om hF.1 hF.lS;rw[gZ] at ha;have hg:=fun i' nw g cs=>gh0 (hp:=hp) (L:=L) (H:=H) (nw:=nw) (g:=g) (cs:=cs) (s:=4) (m:=(u.length+1)*2) (z:=u.length+1) (e:=2) (qH i');rw[Hx,CS] at ih;simp only[hlen] at ha hg ih ⊢;simp(disch:=first|exact dis|fail) only[sy,simprocAttr,-List.reduceReplicate,hF.all,h1,h2,h3,hb,hh',hc,hq,hh,hm2,sm1,ha,hg];exact ih
theorem Lg{od:List Nat}{v:Value}(h:Ta t 100000)(hS:Si hp H v od)(hod:∀ s∈od,s < 258)(hle:od.length<=258)(h0:od.length≠0)(hF:Fit hp.length L H) :
  fS env (.func 64) [.agg (is t).toArray,v] ⟨hp,L,H,d⟩=some (.slice (some ⟨hp.length,0,some (od.length*2)⟩) od.length 2,⟨hp++[.cells (od.length*2) true (thL (row (wts t od) 0))],L,H,d⟩):=by
 rw[fF 64 _ _ ahN];have hvr:∀ r∈refs v,r < (hp++[Blk.cells 0 true (is t)]).length:=by obtain⟨b,of,g,ee,pl,cs,rfl,hh',hb,hc⟩:=hS;have hbl:=(af.1 hb).1;intro r hr;simp[refs,fU,fJ] at hr ⊢;omega
 obtain⟨fr,e1,e2⟩:=E7 (L:=L) (q:=hp.length) h (NX hS [.cells 0 true (is t)]) hod hle hvr (gA _) hF.lS (hF.mono (by simp)) od.length 0 om;have hrl:(row (wts t od) 0).length=od.length:=by simp[row,wts]
 have e3:slT (hp.length+1) (row ((wts t od).take 0) 0)=.slice none 0 0:=rfl;have e4:xY (row ((wts t od).take 0) 0)=[]:=rfl;simp only[aB,az,aT,aX,aN,zo _ (show(row (wts t od) 0).length≠0 by omega),tC (show(row (wts t od) 0).length≠0 by omega),e3,e4,bB,aR,aS,aV,hrl] at e1 e2;have hlen:=mZ h.len;obtain⟨b,of,g,ee,pl,cs,rfl,hh',hb,hc⟩:=hS;generalize row (wts t od) 0=w at *;have hG:=fun c1=>kO (h:=hp) (nw:=[c1,.cells (od.length*2) true (thL w)]) (L:=L) (H:=H) (v:=.slice (some ⟨hp.length+1,0,some (od.length*2)⟩) od.length 2) 1 rfl (by simp[refs,fU,fJ]) (by simp[refs,fU,fJ]);have o2:AM.one hp.length (hp.length+1) (hp.length+1)=hp.length:=iZ;simp(disch:=first|exact dis|fail) only[sy,simprocAttr,-List.reduceReplicate,hF.all,ac3,jR,oS,hlen,fR hlen,e1,e2,hG,ren,ke,iX,o2,aK,br]
end
end TwK
namespace TwL
open Go Go.RowKit Go.Sort AM fO LtA SyP TmM TsA TsB TsC TsE TsI TsJ TtC TuF TwA TwS TwB TwC TwH TwI TwJ TwK TwP Bt
def vq(o:Value)(k i:Int)(rv fv:Value)(pb:Nat):Fr:=[(4,o),(5,.int .i64 k),(1,rv),(6,.int .i64 i),(7,.pointer (some ⟨pb,0,some 0⟩)),(0,fv)]
structure In(ww:List Nat)(w:Nat)(o:List Th)(k:Nat)(o':List Th)(k':Nat):Prop where
 le:k'<=ww.length
 sz:o'.length+(ww.length - k')=o.length+(ww.length - k)
 eq:∀ ps,o'++(w,false)::mg (ww.drop k') ps=o++mg (ww.drop k) (w::ps)
theorem In.stop{ww:List Nat}{w:Nat}{o:List Th}{k:Nat}(hk:k<=ww.length)(h:∀ h:k < ww.length,¬ ww[k]<=w):In ww w o k o k:=⟨hk,rfl,fun ps=>by
 by_cases h1:k < ww.length
 ·rw[bC h1,mg,if_neg (h h1)]
 ·rw[c9 om,mg,mg];rfl⟩
theorem In.step{ww:List Nat}{w:Nat}{o o':List Th}{k k':Nat}(hk:k < ww.length)(h:ww[k]<=w)(i:In ww w (o++[(ww[k],true)]) (k+1) o' k'):In ww w o k o' k':=⟨i.le,by have:=i.sz;simp at this;omega,fun ps=>by rw[i.eq ps,bC hk,mg,if_pos h,aR];rfl⟩
section
variable{h:List Blk}{L:Nat}{H d:List Nat}{b0 fb pb gf w base:Nat}{i:Int}{ww:List Nat}{rv:Value}
theorem in1(hb0:b0 < h.length)(hfb:h[fb]?=some (.cells gf true (thL (row ww 0))))(hpb:h[pb]?=some (.cells 0 true [.int .i64 (w:Nat),.bool false]))(n1:b0≠fb)(n2:b0≠pb)(f1:H.contains fb=false)(f2:H.contains pb=false)(f3:H.contains b0=false)(hL:L<=b0)(hww:ww.length<=258)
  (hgc:∀ (z:Nat) (k:Int) (X:List Value) (lit:Blk),kS base (vq (.slice (some ⟨b0,0,some (z*2)⟩) z 2) k i rv (.slice (some ⟨fb,0,some gf⟩) ww.length 2) pb) ⟨h.set b0 (.cells (z*2) true X)++[lit],L,H,[]⟩=some (vq (.slice (some ⟨b0,0,some (z*2)⟩) z 2) k i rv (.slice (some ⟨fb,0,some gf⟩) ww.length 2) pb,⟨h.set b0 (.cells (z*2) true X),L,H,[]⟩))
  (hF:Fit h.length L H):∀ (r k:Nat) (o:List Th),ww.length - k=r->k<=ww.length->o.length+r<=1000->o.length≠0->∃ fr o' k',
  fW env Cm [4,5,1,6,7,0] base (vq (.slice (some ⟨b0,0,some (o.length*2)⟩) o.length 2) k i rv (.slice (some ⟨fb,0,some gf⟩) ww.length 2) pb) ⟨h.set b0 (.cells (o.length*2) true (thL o)),L,H,[]⟩
   = some (.exit 2,fr,⟨h.set b0 (.cells (o'.length*2) true (thL o')),L,H,[]⟩)
   /\ (fr.get 4=some (.slice (some ⟨b0,0,some (o'.length*2)⟩) o'.length 2)/\fr.get 5=some (.int .i64 (k':Nat))/\fr.get 1=some rv/\fr.get 6=some (.int .i64 i)/\fr.get 7=some (.pointer (some ⟨pb,0,some 0⟩))/\fr.get 0=some (.slice (some ⟨fb,0,some gf⟩) ww.length 2))/\o'.length≠0/\In ww w o k o' k'
 | r,k,o,hr,hk,ho,h0=>by
  have hg1:∀ B:Blk,(h.set b0 B)[fb]?=some (.cells gf true (thL (row ww 0))):=fun B=>by rw[aZ n1];exact hfb
  have hg2:∀ B:Blk,(h.set b0 B)[pb]?=some (.cells 0 true [.int .i64 (w:Nat),.bool false]):=fun B=>by rw[aZ n2];exact hpb
  have hfl:=(af.1 hfb).1;have hpl:=(af.1 hpb).1;have hrl:(row ww 0).length=ww.length:=by simp[row]
  rw[fC Cm.eq_1];by_cases hkw:k < ww.length
  ·have g0:(k:Int) < (ww.length:Int):=om
   have b1:0<=(k:Int)/\(k:Int) < (ww.length:Int):=om
   have hc:=Lf (row ww 0) k om;have hc2:=Hw (row ww 0) k om;have hrk:(row ww 0)[k]'(by omega)=(ww[k],true):=by simp[row]
   rw[hrk] at hc hc2;have hlen:=mh (row ww 0);rw[hrl] at hlen;have s2:k*2+2<=ww.length*2:=om
   by_cases hle:ww[k]<=w
   ·have g1:((ww[k]:Nat):Int)<=(w:Int):=om
    obtain⟨r,rfl⟩:∃ r',r=r'+1:=⟨r - 1,om⟩;obtain⟨fr,o',k',ih,ih2,ih3,ih4⟩:=in1 hb0 hfb hpb n1 n2 f1 f2 f3 hL hww hgc hF r (k+1) (o++[(ww[k],true)]) om om (by simp;omega) (by simp);refine⟨fr,o',k',?_,ih2,ih3,ih4.step hkw hle⟩;generalize ww[k]=m at *;have sm1:small 2=true:=by decide
    have hx:[Value.int .i64 (m:Int),.bool true].all AM.sc=true:=rfl;have ha:=fun d=>K7 (hp:=h.set b0 (.cells (o.length*2) true (thL o))++[.cells 0 true [.int .i64 (m:Int),.bool true]]) (L:=L) (H:=H) (d:=d) (e:=2) (b:=b0) (by rw[aA (by simpa using hb0)];simp[hb0]) (mh o) h0 hx rfl (.inr rfl) om hL f3;have e1:∀ A C D:Blk,(h.set b0 A++[C]).set b0 D=h.set b0 D++[C]:=fun A C D=>by rw[dA _ _ (by simpa using hb0),bG]
    have e2:∀ A C:Blk,(h.set b0 A++[C])[h.length]?=some C:=fun A C=>by simpa using gA (h:=h.set b0 A) (nw:=[]) C
    simp only[e1] at ha;simp only[vq,aB,az,aT,aX,AG,thL,aC,aI] at ih hgc ⊢;simp(disch:=first|exact dis|fail) only[sy,simprocAttr,-List.reduceReplicate,hF.all,g0,b1,hg1,hg2,f1,f2,hc,hc2,hlen,s2,g1,sm1,e2,ha,hgc];exact ih
   ·have g1:¬ ((ww[k]:Nat):Int)<=(w:Int):=om
    have hst:=In.stop (o:=o) hk fun _=>hle;generalize ww[k]=m at *;simp only[vq];simp(disch:=first|exact dis|fail) only[sy,simprocAttr,-List.reduceReplicate,hF.all,g0,b1,hg1,hg2,f1,f2,hc,hlen,g1];exact⟨_,o,k,rfl,⟨rfl,rfl,rfl,rfl,rfl,rfl⟩,h0,hst⟩
  ·have g0:¬ (k:Int) < (ww.length:Int):=om
   simp only[vq];simp(disch:=first|exact dis|fail) only[sy,simprocAttr,-List.reduceReplicate,hF.all,g0];exact⟨_,o,k,rfl,⟨rfl,rfl,rfl,rfl,rfl,rfl⟩,h0,In.stop hk fun h=>absurd h hkw⟩
end
end TwL
namespace TwM
open Go Go.RowKit Go.Sort AM fO LtA SyP TmM TsA TsB TsC TsE TsI TsJ TtC TuF TwA TwS TwB TwC TwH TwI TwJ TwK TwL TwP Bt
theorem Hy(k:Nat):slT k []=.slice none 0 0:=rfl
theorem tD:xY []=[]:=rfl
section
variable{h hp:List Blk}{L:Nat}{H d:List Nat}{fb pb rb gf gr w:Nat}{i:Int}{ww:List Nat}{rv:Value}
theorem in2(hfb:h[fb]?=some (.cells gf true (thL (row ww 0))))(hpb:h[pb]?=some (.cells 0 true [.int .i64 (w:Nat),.bool false]))(f1:H.contains fb=false)(f2:H.contains pb=false)(hww:ww.length<=258)(hrv:∀ r∈refs rv,r < h.length)(hF:Fit h.length L H){k:Nat}(hk:k<=ww.length):∃ fr o' k',
  fW env Cm [4,5,1,6,7,0] h.length (vq (.slice none 0 0) k i rv (.slice (some ⟨fb,0,some gf⟩) ww.length 2) pb) ⟨h,L,H,[]⟩
   = some (.exit 2,fr,⟨h++xY o',L,H,[]⟩)
   /\ (fr.get 4=some (slT h.length o')/\fr.get 5=some (.int .i64 (k':Nat))/\fr.get 1=some rv/\fr.get 6=some (.int .i64 i)/\fr.get 7=some (.pointer (some ⟨pb,0,some 0⟩))/\fr.get 0=some (.slice (some ⟨fb,0,some gf⟩) ww.length 2))/\In ww w [] k o' k':=by
 have hfl:=(af.1 hfb).1;have hpl:=(af.1 hpb).1;have hrl:(row ww 0).length=ww.length:=by simp[row]
 rw[fC Cm.eq_1];by_cases hkw:k < ww.length
 ·have g0:(k:Int) < (ww.length:Int):=om
  have b1:0<=(k:Int)/\(k:Int) < (ww.length:Int):=om
  have hc:=Lf (row ww 0) k om;have hc2:=Hw (row ww 0) k om;have hrk:(row ww 0)[k]'(by omega)=(ww[k],true):=by simp[row]
  rw[hrk] at hc hc2;have hlen:=mh (row ww 0);rw[hrl] at hlen;have s2:k*2+2<=ww.length*2:=om
  by_cases hle:ww[k]<=w
  ·have g1:((ww[k]:Nat):Int)<=(w:Int):=om
   have qH:∀ k:Int,∀ p∈([(5,.int .i64 k),(1,rv),(6,.int .i64 i),(7,.pointer (some ⟨pb,0,some 0⟩)),(0,.slice (some ⟨fb,0,some gf⟩) ww.length 2)]:Fr),∀ r∈refs p.2,r < h.length:=by
    intro k p hp' r hr;simp only[aJ,bJ,or_false] at hp';rcases hp' with rfl | rfl | rfl | rfl | rfl
    ·simp[refs,fU,fJ] at hr
    ·exact hrv r hr
    ·simp[refs,fU,fJ] at hr
    ·simp[refs,fU,fJ] at hr;omega
    ·simp[refs,fU,fJ] at hr;omega
   obtain⟨fr,o',k',ih,ih2,ih3,ih4⟩:=in1 (h:=h++[.cells 2 true (thL [(ww[k],true)])]) (b0:=h.length) (L:=L) (i:=i) (rv:=rv) (base:=h.length) (by simp) (by rw[lT hfl];exact hfb) (by rw[lT hpl];exact hpb) om om f1 f2 hF.lS hF.1 hww (fun z k X lit=>by rw[gZ,aR];exact gh0 (qH k)) (hF.mono (by simp)) (ww.length - (k+1)) (k+1) [(ww[k],true)] rfl om (by simp;omega) (by simp)
   refine⟨fr,o',k',?_,?_,In.step hkw hle ih4⟩
   ·generalize ww[k]=m at *;have sm1:small 2=true:=by decide
    have hx:[Value.int .i64 (m:Int),.bool true].all AM.sc=true:=rfl;have ha:=fun d=>Hp (hp:=h++[.cells 0 true [.int .i64 (m:Int),.bool true]]) (L:=L) (H:=H) (d:=d) (e:=2) hx rfl om;have hg:=fun i'=>gh (hp:=h) (L:=L) (H:=H) (nw:=[.cells 0 true [.int .i64 (m:Int),.bool true],.cells 2 true [.int .i64 (m:Int),.bool true]]) (s:=4) (m:=2) (z:=1) (e:=2) 1 rfl (qH i');rw[tC ih3];simp only[gZ,vq,thL,aB,az,aT,aX,aR,aS,aV,aC,aI,dH] at ih ha ⊢;simp(disch:=first|exact dis|fail) only[sy,simprocAttr,-List.reduceReplicate,hF.all,g0,b1,hfb,hpb,f1,f2,hc,hc2,hlen,s2,g1,sm1,ha,hg];exact ih
   ·rw[zo _ ih3];exact ih2
  ·have g1:¬ ((ww[k]:Nat):Int)<=(w:Int):=om
   have hst:=In.stop (o:=[]) hk fun _=>hle;generalize ww[k]=m at *;simp only[vq];simp(disch:=first|exact dis|fail) only[sy,simprocAttr,-List.reduceReplicate,hF.all,g0,b1,hfb,hpb,f1,f2,hc,hlen,g1];exact⟨_,[],k,by rw[tD,bB],⟨rfl,rfl,rfl,rfl,rfl,rfl⟩,hst⟩
 ·have g0:¬ (k:Int) < (ww.length:Int):=om
  simp only[vq];simp(disch:=first|exact dis|fail) only[sy,simprocAttr,-List.reduceReplicate,hF.all,g0];exact⟨_,[],k,by rw[tD,bB],⟨rfl,rfl,rfl,rfl,rfl,rfl⟩,In.stop hk fun h=>absurd h hkw⟩
theorem agA{l:List Nat}{i:Nat}(h:i+1 < l.length):pairs (l.drop i)=(l[i]+l[i+1])::pairs (l.drop (i+2)):=by rw[bC om,bC h,pairs]
theorem agB{l:List Nat}{i:Nat}(h:¬ i+1 < l.length):pairs (l.drop i)=[]:=by
 have hl:(l.drop i).length<=1:=by rw[dL];omega
 match l.drop i,hl with
 | [],_=>rfl
 | [_],_=>rfl
def Lh(o:Value)(k i:Nat)(rv fv:Value):Fr:=[(4,o),(5,.int .i64 k),(1,rv),(6,.int .i64 i),(0,fv)]
theorem XK{R:List Th}{i k:Nat}{o:List Th}(hfb:hp[fb]?=some (.cells gf true (thL (row ww 0))))(hrb:hp[rb]?=some (.cells gr true (thL R)))(f1:H.contains fb=false)(f2:H.contains rb=false)(hww:ww.length<=258)(hR:∀ x∈R,x.1<=2 ^ 60)(hRl:R.length<=1000)
  (hk:k<=ww.length) (hi:i+1 < R.length) (ho:o.length+(ww.length - k)<=999) (hF:Fit hp.length L H):∃ o' k',k'<=ww.length/\o'.length+(ww.length - k')=o.length+(ww.length - k)+1/\o'.length≠0/\(∀ ps,o'++mg (ww.drop k') ps=o++mg (ww.drop k) ((R[i].1+R[i+1].1)::ps)) /\
  fW env vi [4,5,1,6,0] hp.length (Lh (slT hp.length o) k i (.slice (some ⟨rb,0,some gr⟩) R.length 2) (.slice (some ⟨fb,0,some gf⟩) ww.length 2)) ⟨hp++xY o,L,H,[]⟩
   = fW env vi [4,5,1,6,0] hp.length (Lh (slT hp.length o') k' (i+2) (.slice (some ⟨rb,0,some gr⟩) R.length 2) (.slice (some ⟨fb,0,some gf⟩) ww.length 2)) ⟨hp++xY o',L,H,[]⟩:=by
 have hfl:=(af.1 hfb).1;have hrl:=(af.1 hrb).1;have r0:=Lf R i om;have r1:=Lf R (i+1) hi;have w0:=hR _ (bN (show i < R.length by omega));have w1:=hR _ (bN hi);generalize R[i].1=x at *;generalize R[i+1].1=y at *;have g0:(i:Int)+1 < (R.length:Int):=om
 have b0:0<=(i:Int)/\(i:Int) < (R.length:Int):=om
 have b1:0<=(i:Int)+1/\(i:Int)+1 < (R.length:Int):=om
 have t1:((i:Int)+1).toNat=i+1:=om
 have sm1:small 2=true:=by decide
 have hx:[Value.int .i64 ((x+y:Nat):Int),.bool false].all AM.sc=true:=rfl;have hxy:(x:Int)+y=((x+y:Nat):Int):=om
 have hw:x+y<=2 ^ 61:=om
 have XL:=mh R;have qH:∀ k j:Int,∀ p∈([(5,.int .i64 k),(1,.slice (some ⟨rb,0,some gr⟩) R.length 2),(6,.int .i64 j),(0,.slice (some ⟨fb,0,some gf⟩) ww.length 2)]:Fr),∀ r∈refs p.2,r < hp.length:=by intro k j p hp' r hr;simp only[aJ,bJ,or_false] at hp';rcases hp' with rfl | rfl | rfl | rfl<;>simp[refs,fU,fJ] at hr<;>omega
 by_cases h0:o.length=0
 ·obtain rfl:=bp h0;obtain⟨fr,o',k',e1,⟨e2,e3,e4,e5,e6,e7⟩,e8⟩:=in2 (h:=hp++[.cells 0 true [.int .i64 ((x+y:Nat):Int),.bool false]]) (L:=L) (H:=H) (pb:=hp.length) (w:=x+y) (i:=i) (rv:=.slice (some ⟨rb,0,some gr⟩) R.length 2) (by rw[lT hfl];exact hfb) (gA _) f1 hF.lS hww (by intro r hr;simp[refs,fU,fJ] at hr ⊢;omega) (hF.mono (by simp)) hk;have hsz:=e8.sz;refine⟨o'++[(x+y,false)],k',e8.le,by simp at hsz ⊢;omega,by simp,fun ps=>by rw[aR];exact e8.eq ps,?_⟩;rw[fC vi.eq_1,Hy,tD,bB,Hx,CS];by_cases ho':o'.length=0
  ·obtain rfl:=bp ho';have ha:=fun d=>Hp (hp:=hp++[.cells 0 true [.int .i64 ((x+y:Nat):Int),.bool false],.cells 0 true [.int .i64 ((x+y:Nat):Int),.bool false]]) (L:=L) (H:=H) (d:=d) (e:=2) hx rfl om;have hg:=fun k j c=>gh (hp:=hp) (L:=L) (H:=H) (nw:=[c,c,.cells 2 true [.int .i64 ((x+y:Nat):Int),.bool false]]) (s:=4) (m:=2) (z:=1) (e:=2) 2 rfl (qH k j);simp only[Hy,tD,bB,aB,az,aT,aX,aR,aS,aV] at e1 e2 ha;simp only[thL,aT,aX,dH,aV,vq,Lh,aC,cu] at *;simp(disch:=first|exact dis|fail) only[sy,simprocAttr,-List.reduceReplicate,hF.all,hfb,hrb,f1,f2,r0,r1,g0,b0,b1,t1,XL,e1,e2,e3,e4,e5,e6,e7,sm1,ha,hg]
  ·have ha:=fun d=>K7 (hp:=hp++[.cells 0 true [.int .i64 ((x+y:Nat):Int),.bool false],.cells (o'.length*2) true (thL o'),.cells 0 true [.int .i64 ((x+y:Nat):Int),.bool false]]) (L:=L) (H:=H) (d:=d) (e:=2) (b:=hp.length+1) (by rw[iE];rfl) (mh o') ho' hx rfl (.inr rfl) (by simp at hsz;omega) (by have:=hF.1;omega) (hF.nv 1);have hg:=fun k j c c2 cs=>gh (hp:=hp) (L:=L) (H:=H) (nw:=[c,.cells ((o'.length+1)*2) true cs,c2]) (s:=4) (m:=(o'.length+1)*2) (z:=o'.length+1) (e:=2) 1 rfl (qH k j);rw[wj] at ha;simp only[zo _ ho',tC ho',aB,az,aT,aX,aR,aS,aV] at e1 e2 ha;simp only[vq,Lh,aC,cu,cV,dP] at *;simp(disch:=first|exact dis|fail) only[sy,simprocAttr,-List.reduceReplicate,hF.all,hfb,hrb,f1,f2,r0,r1,g0,b0,b1,t1,XL,e1,e2,e3,e4,e5,e6,e7,sm1,ha,hg]
 ·obtain⟨fr,o',k',e1,⟨e2,e3,e4,e5,e6,e7⟩,e9,e8⟩:=in1 (h:=hp++[.cells (o.length*2) true (thL o),.cells 0 true [.int .i64 ((x+y:Nat):Int),.bool false]]) (base:=hp.length+2) (L:=L) (H:=H) (b0:=hp.length) (pb:=hp.length+1) (w:=x+y) (i:=i) (rv:=.slice (some ⟨rb,0,some gr⟩) R.length 2) (by simp) (by rw[lT hfl];exact hfb) (by rw[iE];rfl) om om f1 (hF.nv 1) hF.lS hF.1 hww
   (fun z k X lit=>by
    rw[gZ,aR];have:=J3 (hp:=hp) (nw:=[.cells (z*2) true X,.cells 0 true [.int .i64 ((x+y:Nat):Int),.bool false],lit]) (L:=L) (H:=H) (fr:=vq (.slice (some ⟨hp.length,0,some (z*2)⟩) z 2) k i (.slice (some ⟨rb,0,some gr⟩) R.length 2) (.slice (some ⟨fb,0,some gf⟩) ww.length 2) (hp.length+1)) 2 (by simp) (by intro p hp' r hr;simp only[vq,aJ,bJ,or_false] at hp';rcases hp' with rfl | rfl | rfl | rfl | rfl | rfl<;>simp[refs,fU,fJ] at hr<;>omega)
    exact this) (hF.mono (by simp)) (ww.length - k) k o rfl hk om h0
  have hsz:=e8.sz;refine⟨o'++[(x+y,false)],k',e8.le,by simp at hsz ⊢;omega,by simp,fun ps=>by rw[aR];exact e8.eq ps,?_⟩;rw[fC vi.eq_1,zo _ h0,tC h0,Hx,CS];have ha:=fun d=>K7 (hp:=hp++[.cells (o'.length*2) true (thL o'),.cells 0 true [.int .i64 ((x+y:Nat):Int),.bool false],.cells 0 true [.int .i64 ((x+y:Nat):Int),.bool false]]) (L:=L) (H:=H) (d:=d) (e:=2) (b:=hp.length) (gA _) (mh o') e9 hx rfl (.inr rfl) om hF.1 hF.lS;have hg:=fun k j nw g cs=>gh0 (hp:=hp) (L:=L) (H:=H) (nw:=nw) (g:=g) (cs:=cs) (s:=4) (m:=(o'.length+1)*2) (z:=o'.length+1) (e:=2) (qH k j);rw[gZ] at ha;simp only[gZ] at e1;simp only[vq,Lh,aC,cu] at *;simp(disch:=first|exact dis|fail) only[sy,simprocAttr,-List.reduceReplicate,hF.all,hfb,hrb,f1,f2,r0,r1,g0,b0,b1,t1,XL,e1,e2,e3,e4,e5,e6,e7,sm1,ha,hg]
end
end TwM
namespace TwN
open Go Go.RowKit Go.Sort AM fO LtA SyP TmM TsA TsB TsC TsE TsI TsJ TtC TuF TwA TwS TwB TwC TwH TwI TwJ TwK TwL TwM TwP Bt
section
variable{hp:List Blk}{L:Nat}{H d:List Nat}{fb rb gf gr:Nat}{ww:List Nat}
theorem Li{R:List Th}(hfb:hp[fb]?=some (.cells gf true (thL (row ww 0))))(hrb:hp[rb]?=some (.cells gr true (thL R)))(f1:H.contains fb=false)(f2:H.contains rb=false)(hww:ww.length<=258)(hR:∀ x∈R,x.1<=2 ^ 60)(hRl:R.length<=600)(hF:Fit hp.length L H):∀ (r i k:Nat) (o:List Th),R.length - i<=r->i<=R.length->k<=ww.length->o.length+(ww.length - k)+(R.length - i)<=900->(i+1 < R.length\/o.length≠0)->∃ fr o' k',
  fW env vi [4,5,1,6,0] hp.length (Lh (slT hp.length o) k i (.slice (some ⟨rb,0,some gr⟩) R.length 2) (.slice (some ⟨fb,0,some gf⟩) ww.length 2)) ⟨hp++xY o,L,H,[]⟩
   = some (.exit 0,fr,⟨hp++xY o',L,H,[]⟩)
   /\ (fr.get 4=some (slT hp.length o')/\fr.get 5=some (.int .i64 (k':Nat))/\fr.get 0=some (.slice (some ⟨fb,0,some gf⟩) ww.length 2))/\k'<=ww.length/\o'.length≠0/\o'.length+(ww.length - k')<=900/\o'++mg (ww.drop k') []=o++mg (ww.drop k) (pairs ((ws R).drop i))
 | r,i,k,o,hr,hi0,hk,hz,hne=>by
  have hwl:(ws R).length=R.length:=by simp[ws]
  by_cases hi:i+1 < R.length
  ·obtain⟨r,rfl⟩:∃ r',r=r'+1:=⟨r - 1,om⟩;obtain⟨o1,k1,a1,a2,a3,a4,a5⟩:=XK (L:=L) hfb hrb f1 f2 hww hR om hk hi (o:=o) om hF;obtain⟨fr,o',k',b1,b2,b3,b4,b5,b6⟩:=Li hfb hrb f1 f2 hww hR hRl hF r (i+2) k1 o1 om om a1 om (.inr a3);refine⟨fr,o',k',by rw[a5];exact b1,b2,b3,b4,b5,?_⟩;rw[b6,a4,agA (l:=ws R) (i:=i) om];simp[ws]
  ·have h0:o.length≠0:=by rcases hne with h | h;exact absurd h hi;exact h
   have g0:¬ (i:Int)+1 < (R.length:Int):=om
   rw[agB om,fC vi.eq_1];rw[zo _ h0,tC h0];simp only[Lh];simp(disch:=first|exact dis|fail) only[sy,simprocAttr,-List.reduceReplicate,hF.all,g0];exact⟨_,o,k,by rw[tC h0],⟨by rw[zo _ h0];rfl,rfl,rfl⟩,hk,h0,om,rfl⟩
theorem adH{cs x:List Value}{b n m e:Nat}(hb:hp[b]?=some (.cells (n*e) true cs))(hc:cs.length=n*e)(hn0:n≠0)(hm0:m≠0)(hx:x.all AM.sc=true)(h2:x.all fY=true)(he:e=1\/e=2)(hn:n+m<=100000)(hL:L<=b)(hh:H.contains b=false) :
  St.append ⟨hp,L,H,d⟩ true e (.slice (some ⟨b,0,some (n*e)⟩) n e) m x=some (.slice (some ⟨b,0,some ((n+m)*e)⟩) (n+m) e,⟨hp.set b (.cells ((n+m)*e) true (cs++x)),L,H,d⟩):=by
 have h1:small ((n+m)*e)=true:=by unfold small;rcases he with rfl | rfl<;>simp<;>omega
 have hbl:St.blk ⟨hp,L,H,d⟩ ⟨b,0,some (n*e)⟩=some (true,cs):=by unfold St.blk;rw[hh,hb];simp
 have hnl:¬ b < L:=om
 simp[St.append,h1,hx,h2,hbl,hnl,hc,hm0,gm]
theorem XM:∀ l:List Nat,mg l []=row l 0
 | []=>by rw[mg];rfl
 | x::l=>by rw[mg,XM l];rfl
theorem E8:∀ l:List Th,(thL l).all fY=true
 | []=>rfl
 | p::l=>by simp only[thL,ct,E8 l];rfl
theorem Lj:∀ (l:List Th) (k:Nat),(thL l).drop (k*2)=thL (l.drop k)
 | l,0=>by simp
 | [],k+1=>by simp[thL]
 | p::l,k+1=>by rw[thL,show(k+1)*2=k*2+1+1 by omega,cC,cC,cC];exact Lj l k
theorem qF{R:List Th}(hfb:hp[fb]?=some (.cells gf true (thL (row ww 0))))(hrb:hp[rb]?=some (.cells gr true (thL R)))(f1:H.contains fb=false)(f2:H.contains rb=false)(hww:ww.length<=258)(hR:∀ x∈R,x.1<=2 ^ 60)(hR2:2<=R.length)(hRl:R.length<=600)(hF:Fit hp.length L H){N:Nat}(hN:(mg ww (pairs (ws R))).length=N) :
  fS env (.func 65) [.slice (some ⟨fb,0,some gf⟩) ww.length 2,.slice (some ⟨rb,0,some gr⟩) R.length 2] ⟨hp,L,H,d⟩=some (.slice (some ⟨hp.length,0,some (N*2)⟩) N 2,⟨hp++[.cells (N*2) true (thL (mg ww (pairs (ws R))))],L,H,d⟩):=by
 subst hN;have hfl:=(af.1 hfb).1;have hrl:=(af.1 hrb).1;rw[fF 65 _ _ ahO];obtain⟨fr,o,k,e1,⟨e2,e3,e4⟩,e5,e6,e7,e8⟩:=Li (L:=L) hfb hrb f1 f2 hww hR hRl hF R.length 0 0 [] om om om (by simp;omega) (.inl om);rw[cz,cz,aV,XM] at e8;rw[<- e8];have hlen:=mh (row ww 0);have hr0:(row ww 0).length=ww.length:=by simp[row]
 rw[hr0] at hlen;have b1:0<=(k:Int)/\(k:Int)<=(ww.length:Int):=om
 have hkl:k<=ww.length:=e5;have hrd:(row (ww.drop k) 0)=(row ww 0).drop k:=by simp[row]
 simp only[Hy,tD,zo _ e6,tC e6,bB,Lh,aN] at e1 e2;have hG:=fun g cs m z=>kO (h:=hp) (nw:=[.cells g true cs]) (L:=L) (H:=H) (v:=.slice (some ⟨hp.length,0,some m⟩) z 2) 0 rfl (by simp[refs,fU,fJ]) (by simp[refs,fU,fJ]);have o2:AM.one hp.length hp.length hp.length=hp.length:=JX;by_cases hk:k=ww.length
 ·have hz:row (ww.drop k) 0=[]:=by rw[hk];simp[row]
  have hs0:small 0=true:=by decide
  have hm0:ww.length - k=0:=om
  have ah2:∀ v vs d,St.append ⟨hp++[.cells (o.length*2) true (thL o)],L,H,d⟩ true 2 (.slice (some v) o.length 2) 0 vs=some (.slice (some v) o.length 2,⟨hp++[.cells (o.length*2) true (thL o)],L,H,d⟩):=fun v vs d=>by simp[St.append]
  have hkk:k*2<=ww.length*2:=om
  rw[hz,bB];simp(disch:=first|exact dis|fail) only[sy,simprocAttr,-List.reduceReplicate,hF.all,V5,hfb,f1,hlen,b1,hkl,hs0,hm0,hkk,e1,e2,e3,e4,ah2,hG,ren,ke,iX,o2,aK,br]
 ·have hm0:ww.length - k≠0:=om
  have ha:=fun d=>adH (hp:=hp++[.cells (o.length*2) true (thL o)]) (L:=L) (H:=H) (d:=d) (e:=2) (b:=hp.length) (m:=ww.length - k) (x:=thL (row (ww.drop k) 0)) (gA _) (mh o) e6 hm0 (XJ _) (E8 _) (.inr rfl) om hF.1 hF.lS;have hsm:small ((ww.length - k)*2)=true:=by unfold small;simp;omega
  have hle:k*2+(ww.length - k)*2<=ww.length*2:=om
  have htk:(thL (row (ww.drop k) 0)).take ((ww.length - k)*2)=thL (row (ww.drop k) 0):=bt (by rw[mh];simp[row]);have hdr:(thL (row ww 0)).drop (k*2)=thL (row (ww.drop k) 0):=by rw[Lj,hrd]
  have hol:(o++row (ww.drop k) 0).length=o.length+(ww.length - k):=by simp[row]
  rw[gZ] at ha;rw[hol,AG];simp(disch:=first|exact dis|fail) only[sy,simprocAttr,-List.reduceReplicate,hF.all,V5,hfb,f1,hlen,b1,hkl,hsm,hle,htk,hdr,e1,e2,e3,e4,ha,hG,ren,ke,iX,o2,aK,br]
end
end TwN
namespace TwO
open Go Go.RowKit Go.Sort AM fO LtA SyP TmM TsA TsB TsC TsE TsI TsJ TtC TuF TwA TwS TwB TwC TwH TwI TwJ TwK TwL TwM TwN TwP Bt
theorem E9:∀ (l acc:List Nat),(acc++l).Nodup->firsts l acc=acc++l
 | [],acc,_=>by simp[firsts]
 | r::l,acc,h=>by
  have hr:r∉acc:=fun hm=>by have:=(dF.1 h).2.2 r hm r (by simp);exact this rfl
  rw[firsts,if_neg (by simpa using hr),E9 l _ (by simpa using h)];simp
theorem Fa{base m id:Nat}(h:id < base+m):plc base (List.range' base m) id=id:=by
 unfold plc;split
 ·rfl
 ·rename_i h1;have:(List.range' base m).idxOf id=id - base:=by
   have hi:id - base < (List.range' base m).length:=by simp;omega
   have he:(List.range' base m)[id - base]=id:=by simp;omega
   have hn:(List.range' base m).Nodup:=List.nodup_range'
   conv=>lhs;rw[<- he]
   exact hn.idxOf_getElem _ hi
  omega
theorem aaB{h nw:List Blk}{L rb m:Nat}{H:List Nat}{vs:List Value}{cs:List Value}{g:Nat}(hrb:h[rb]?=some (.cells g false cs))(hv:∀ v∈vs,∀ r∈refs v,r < h.length)
  (hc:∀ r∈cs.flatMap fJ,r < h.length+m) (hR:(cs.flatMap fJ).filter (h.length<=·)=List.range' h.length m) (hm:m≠0) (hm2:m < 4096) (hp:∀ i,i < m->∃ g cs,nw[i]?=some (.cells g true cs)) :
  gc h.length vs ⟨h++nw,L,H,[rb]⟩=some (vs,⟨h++nw.take m,L,H,[rb]⟩):=by
 have hrl:=(af.1 hrb).1;have hat:fV h rb=cs.flatMap fJ:=by simp[fV,hrb,iN]
 have SS:(vs.flatMap refs++[rb].flatMap (fV h)).filter (h.length<=·)=List.range' h.length m:=by
  rw[cG,dI.2 (fun r hr=>by obtain⟨v,hv1,hv2⟩:=aY.1 hr;have:=hv v hv1 r hv2;simp;omega),aV,dV,dK,bB,hat]
  exact hR
 rw[PF (R:=List.range' h.length m) rfl (by simpa using hrl) SS (by intro e;have:=congrArg List.length e;simp at this;exact hm this) (by simpa using hm2) (fun r hr=>by have:=eB.1 hr;obtain⟨g,cs,hg⟩:=hp (r - h.length) om;exact⟨g,cs,by rw[aM om];exact hg⟩)]
 rw[E9 _ [] (by simpa using List.nodup_range'),aV];have e1:vs.map (ren (plc h.length (List.range' h.length m)))=vs:=map_id' fun v hv'=>xQ fun r hr=>Fa (by have:=hv v hv' r hr;omega);have e2:jq (plc h.length (List.range' h.length m)) [rb] h=h:=by
  simp only[jq];apply bK;intro i;rw[dz];by_cases hi:rb=i
  ·subst hi;rw[hrb];simp only[if_true,bq,kR,Option.map_eq_map];congr 2;exact map_id' fun v hv'=>ud fun r hr=>Fa (hc r (aY.2 ⟨v,hv',hr⟩))
  ·simp only[hi,if_false];cases h[i]?<;>rfl
 have e3:(List.range' h.length m).map (fun r=>(h++nw).getD r default)=nw.take m:=by
  apply bK;intro i;rw[bW,List.getElem?_take];by_cases hi:i < m
  ·obtain⟨g',cs',hg⟩:=hp i hi;rw[List.getElem?_range' (by simpa using hi),if_pos hi,hg];simp[aE,aM,hg]
  ·rw[if_neg hi,aQ (by simp;omega)];rfl
 rw[e1,e2,e3]
def rix(n r0:Nat):Nat->Nat
 | 0=>r0
 | j+1=>n+j
def rsl(ww:List Nat)(n r0 j:Nat):Value:=.slice (some ⟨rix n r0 j,0,some ((row ww j).length*2)⟩) (row ww j).length 2
def rcs(ww:List Nat)(n r0 k:Nat):List Value:=(List.range k).map (rsl ww n r0)
def rbl(ww:List Nat)(k:Nat):List Blk:=(List.range k).map fun j=>.cells ((row ww (j+1)).length*2) true (thL (row ww (j+1)))
theorem Lk(ww:List Nat)(n r0 k:Nat):rcs ww n r0 (k+1)=rcs ww n r0 k++[rsl ww n r0 k]:=by simp[rcs,cN]
theorem XN(ww:List Nat)(k:Nat):rbl ww (k+1)=rbl ww k++[.cells ((row ww (k+1)).length*2) true (thL (row ww (k+1)))]:=by simp[rbl,cN]
theorem Hz(ww:List Nat)(n r0 k:Nat):(rcs ww n r0 k).length=k:=by simp[rcs]
theorem pM(ww:List Nat)(k:Nat):(rbl ww k).length=k:=by simp[rbl]
theorem N5{ww:List Nat}{n r0 k j:Nat}(h:j < k):(rcs ww n r0 k)[j]?=some (rsl ww n r0 j):=by simp[rcs,h]
theorem N6{ww:List Nat}{k j:Nat}(h:j < k):(rbl ww k)[j]?=some (.cells ((row ww (j+1)).length*2) true (thL (row ww (j+1)))):=by simp[rbl,h]
theorem Ll{ww:List Nat}{n r0:Nat}(h:r0 < n):∀ k,((rcs ww n r0 (k+1)).flatMap fJ).filter (n<=·)=List.range' n k
 | 0=>by simp[rcs,rsl,rix,fJ];omega
 | k+1=>by
  rw[Lk,List.flatMap_append,cG,Ll h k];have:List.range' n (k+1)=List.range' n k++[n+k]:=by simpa using (List.range'_append_1 (s:=n) (m:=k) (n:=1)).symm
  rw[this];simp[rsl,rix,fJ]
theorem adI{ww:List Nat}{n r0:Nat}(h:r0 < n){k:Nat} : ∀ r∈(rcs ww n r0 (k+1)).flatMap fJ,r < n+k:=fun r hr=>by
 obtain⟨v,hv,hr⟩:=aY.1 hr;obtain⟨j,hj,rfl⟩:=bw.1 hv;have:=cj.1 hj;cases j with
 | zero=>simp[rsl,rix,fJ] at hr;omega
 | succ j=>simp[rsl,rix,fJ] at hr;omega
theorem adJ(xs ps:List Nat):∀ y∈ws (mg xs ps),y∈xs\/y∈ps:=by
 fun_induction mg xs ps with
 | case1 ps=>simp[ws,dW]
 | case2 x xs ih=>
  intro y hy;rcases aJ.1 hy with rfl | hy
  ·simp
  ·have:=ih y hy;simp at this;exact .inl (by simp[this])
 | case3 x xs p ps hle ih=>
  intro y hy;rcases aJ.1 hy with rfl | hy
  ·simp
  ·rcases ih y hy with h3 | h3
   ·exact .inl (by simp[h3])
   ·exact .inr h3
 | case4 x xs p ps hle ih=>
  intro y hy;rcases aJ.1 hy with rfl | hy
  ·simp
  ·rcases ih y hy with h3 | h3
   ·exact .inl h3
   ·exact .inr (by simp[h3])
theorem XO{ww:List Nat}{B:Nat}(h:∀ x∈ww,x<=B):∀ k,∀ x∈row ww k,x.1<=B*2 ^ k
 | 0,x,hx=>by
  simp only[row,bw] at hx;obtain⟨y,hy,rfl⟩:=hx;simpa using h y hy
 | k+1,x,hx=>by
  have ih:=XO h k;have hm:=adJ ww (pairs (ws (row ww k))) x.1 (bw.2 ⟨x,hx,rfl⟩);have h2:B<=B*2 ^ (k+1):=eR _ (Nat.pow_pos om);rcases hm with h1 | h1
  ·exact bh (h _ h1) h2
  ·obtain⟨u,hu,v,hv,e⟩:=E6 _ _ h1;simp only[ws,bw] at hu hv;obtain⟨u',hu',rfl⟩:=hu;obtain⟨v',hv',rfl⟩:=hv;have:=ih _ hu';have:=ih _ hv';rw[fm,<- dy];omega
theorem CT{ww:List Nat}(h2:2<=ww.length):∀ k,2<=(row ww k).length/\(row ww k).length<=2*ww.length
 | 0=>by simp[row];omega
 | k+1=>by have:=CT h2 k;rw[Hs];omega
end TwO
namespace TwQ
open Go Go.RowKit Go.Sort AM fO LtA SyP TmM TsA TsB TsC TsE TsI TsJ TtC TuF TwA TwS TwB TwC TwH TwI TwJ TwK TwL TwM TwN TwO TwP Bt
section
variable{h:List Blk}{L:Nat}{H d:List Nat}{rb r0:Nat}{ww:List Nat}{lpv ov:Value}
theorem adK{hp:List Blk}{cs:List Value}{k gg:Nat}{a:Addr}{z e:Nat}(hb:hp[rb]?=some (.cells gg false cs))(hc:cs.length=k)(hk:k<=1000)(hg:gg<=k)(hL:L<=rb)(hh:H.contains rb=false)(hd:d=[]\/d=[rb]) :
  St.append ⟨hp,L,H,d⟩ false 1 (.slice (some ⟨rb,0,some gg⟩) k 1) 1 [.slice (some a) z e]=some (.slice (some ⟨rb,0,some (k+1)⟩) (k+1) 1,⟨hp.set rb (.cells (k+1) false (cs++[.slice (some a) z e])),L,H,[rb]⟩):=by
 have h1:small (k+1)=true:=by unfold small;simp;omega
 have hbl:St.blk ⟨hp,L,H,d⟩ ⟨rb,0,some gg⟩=some (false,cs):=by unfold St.blk;rw[hh,hb];simp[hg,hc]
 have hnl:¬ rb < L:=om
 rcases hd with rfl | rfl<;>simp[St.append,h1,hbl,hnl,hc,gm,AM.sc,fY,hg]
theorem Fb(hr0:h[r0]?=some (.cells (ww.length*2) true (thL (row ww 0))))(n1:r0≠rb)(hrb:rb < h.length)(f1:H.contains r0=false)(f2:H.contains rb=false)(hL:L<=rb)(h2:2<=ww.length)(hww:ww.length<=258)(hB:∀ x∈ww,x<=100000)(hlv:∀ r∈refs lpv,r < h.length)(hov:∀ r∈refs ov,r < h.length)(hF:Fit h.length L H) :
  ∀ (m j gg:Nat) (dd:List Nat),j+1+m=15->gg<=j+1->(dd=[]\/dd=[rb])->(m=0->gg=15/\dd=[rb])->∃ fr,
  fW env GB [7,8,4,6,1] h.length [(7,.slice (some ⟨rb,0,some gg⟩) (j+1) 1),(8,.int .i64 ((j:Int)+1)),(4,lpv),(6,ov),(1,.int .i64 15)] ⟨h.set rb (.cells gg false (rcs ww h.length r0 (j+1)))++rbl ww j,L,H,dd⟩
   = some (.exit 0,fr,⟨h.set rb (.cells 15 false (rcs ww h.length r0 15))++rbl ww 14,L,H,[rb]⟩)
   /\ fr.get 7=some (.slice (some ⟨rb,0,some 15⟩) 15 1)/\fr.get 4=some lpv/\fr.get 6=some ov/\fr.get 1=some (.int .i64 15)
 | 0,j,gg,dd,e,hg,hd,hm=>by
  obtain rfl:j=14:=om
  obtain⟨rfl,rfl⟩:=hm rfl;rw[fC GB.eq_1];have g0:¬ ((14:Nat):Int)+1 < 15:=om
  simp(disch:=first|exact dis|fail) only[sy,simprocAttr,-List.reduceReplicate,hF.all,g0];exact⟨_,rfl,rfl,rfl,rfl,rfl⟩
 | m+1,j,gg,dd,e,hg,hd,hm=>by
  obtain⟨fr,ih,ih2⟩:=Fb hr0 n1 hrb f1 f2 hL h2 hww hB hlv hov hF m (j+1) (j+1+1) [rb] om om (.inr rfl) (fun e=>⟨om,rfl⟩);refine⟨fr,?_,ih2⟩;have adL:=(af.1 hr0).1;have agC:(row ww 0).length=ww.length:=by simp[row]
  have hgr:∀ A nw,(h.set rb A++nw)[rb]?=some A:=fun A nw=>by rw[aA (by simpa using hrb)];simp[hrb]
  have hg0:∀ A nw,(h.set rb A++nw)[r0]?=some (.cells (ww.length*2) true (thL (row ww 0))):=fun A nw=>by rw[aA (by simpa using adL),aZ (Ne.symm n1)];exact hr0
  have hlj:=CT h2 j;have hrj:∀ A,(h.set rb A++rbl ww j)[rix h.length r0 j]?=some (.cells ((row ww j).length*2) true (thL (row ww j))):=fun A=>by
   cases j with
   | zero=>rw[rix,hg0,agC]
   | succ j=>
    rw[rix,aM (by simp),aG,cx];exact N6 om
  have hfj:H.contains (rix h.length r0 j)=false:=by
   cases j with
   | zero=>exact f1
   | succ j=>exact hF.nv j
  have hFj:Fit (h.set rb (.cells gg false (rcs ww h.length r0 (j+1)))++rbl ww j).length L H:=hF.mono (by simp);have k1:=fun d=>qF (d:=d) (hg0 (.cells gg false (rcs ww h.length r0 (j+1))) (rbl ww j)) (hrj _) f1 hfj hww (fun x hx=>by
   have:=XO hB j x hx;have h3:100000*2 ^ j<=100000*2 ^ 14:=Nat.mul_le_mul_left _ (Nat.pow_le_pow_right om om);have h4:100000*2 ^ 14<=2 ^ 60:=by decide
   omega) hlj.1 om hFj (show(mg ww (pairs (ws (row ww j)))).length=(row ww (j+1)).length from rfl)
  have hmg:mg ww (pairs (ws (row ww j)))=row ww (j+1):=rfl;simp only[hmg] at k1;have agD:(h.set rb (.cells gg false (rcs ww h.length r0 (j+1)))++rbl ww j).length=h.length+j:=by simp[pM]
  have hap:=fun X lit=>adK (d:=dd) (L:=L) (H:=H) (rb:=rb) (hp:=h.set rb (.cells gg false (rcs ww h.length r0 (j+1)))++(rbl ww j++[X,lit])) (a:=⟨h.length+j,0,some ((row ww (j+1)).length*2)⟩) (z:=(row ww (j+1)).length) (e:=2) (hgr _ _) (Hz _ _ _ _) om hg hL f2 hd;have hst:∀ A B nw,(h.set rb A++nw).set rb B=h.set rb B++nw:=fun A B nw=>by rw[dA _ _ (by simpa using hrb),bG]
  have hsn:rcs ww h.length r0 (j+1)++[.slice (some ⟨h.length+j,0,some ((row ww (j+1)).length*2)⟩) (row ww (j+1)).length 2]=rcs ww h.length r0 (j+1+1):=(Lk ww h.length r0 (j+1)).symm;simp only[hst,hsn] at hap;have hG:=fun lit=>aaB (h:=h.set rb (.cells (j+1+1) false (rcs ww h.length r0 (j+1+1)))) (nw:=rbl ww j++[.cells ((row ww (j+1)).length*2) true (thL (row ww (j+1))),lit]) (L:=L) (H:=H) (rb:=rb) (m:=j+1) (vs:=[.slice (some ⟨rb,0,some (j+1+1)⟩) (j+1+1) 1,.int .i64 ((j:Int)+1+1),lpv,ov,.int .i64 15]) (aD hrb) (by
   intro v hv r hr;rw[aG];simp only[aJ,bJ,or_false] at hv;rcases hv with rfl | rfl | rfl | rfl | rfl
   ·simp[refs,fU,fJ] at hr;omega
   ·simp[refs,fU,fJ] at hr
   ·exact hlv r hr
   ·exact hov r hr
   ·simp[refs,fU,fJ] at hr) (by rw[aG];exact adI adL) (by rw[aG];exact Ll adL (j+1)) om om (fun i hi=>by
   by_cases hij:i < j
   ·exact⟨_,_,by rw[aA (by rw[pM];exact hij)];exact N6 hij⟩
   ·obtain rfl:i=j:=om
    exact⟨_,_,by rw[aM (by rw[pM];omega),pM,cL];rfl⟩)
  have htk:∀ lit:Blk,(rbl ww j++[.cells ((row ww (j+1)).length*2) true (thL (row ww (j+1))),lit]).take (j+1)=rbl ww (j+1):=fun lit=>by rw[XN,List.take_append,pM,bt (by rw[pM];omega),cx];rfl
  simp only[htk,aG] at hG;have hg2:∀ lit,kS h.length [(7,.slice (some ⟨rb,0,some (j+1+1)⟩) (j+1+1) 1),(8,.int .i64 ((j:Int)+1+1)),(4,lpv),(6,ov),(1,.int .i64 15)] ⟨h.set rb (.cells (j+1+1) false (rcs ww h.length r0 (j+1+1)))++(rbl ww j++[.cells ((row ww (j+1)).length*2) true (thL (row ww (j+1))),lit]),L,H,[rb]⟩=some ([(7,.slice (some ⟨rb,0,some (j+1+1)⟩) (j+1+1) 1),(8,.int .i64 ((j:Int)+1+1)),(4,lpv),(6,ov),(1,.int .i64 15)],⟨h.set rb (.cells (j+1+1) false (rcs ww h.length r0 (j+1+1)))++rbl ww (j+1),L,H,[rb]⟩):=fun lit=>by unfold kS;simp only[aK,br];rw[hG lit];rfl
  have hc0:(rcs ww h.length r0 (j+1))[0]?=some (.slice (some ⟨r0,0,some (ww.length*2)⟩) ww.length 2):=by rw[N5 om,TwO.rsl,rix,agC]
  have hcj:(rcs ww h.length r0 (j+1))[j]?=some (.slice (some ⟨rix h.length r0 j,0,some ((row ww j).length*2)⟩) (row ww j).length 2):=TwO.N5 om;have hcl:=Hz ww h.length r0 (j+1);have g0:(j:Int)+1 < 15:=om
  have e1:(j:Int)+1 - 1=j:=om
  have b0:0<=(j:Int)/\(j:Int) < ((j+1:Nat):Int):=om
  have b1:(0:Int) < ((j+1:Nat):Int):=om
  have hbl:=pM ww j;have sm1:small 1=true:=by decide
  have hgl:∀ A X lit:Blk,(h.set rb A++(rbl ww j++[X,lit]))[h.length+(j+1)]?=some lit:=fun A X lit=>by rw[aM (by simp),aG,cx,aM (by rw[hbl];omega),hbl,cx];rfl
  simp only[agD,aR,aS,aV,aC,aI] at k1 ih;rw[fC GB.eq_1];generalize thL (row ww (j+1))=tl at *;generalize (row ww (j+1)).length=N at *;generalize rix h.length r0 j=rx at *;simp(disch:=first|exact dis|fail) only[sy,simprocAttr,-List.reduceReplicate,hF.all,g0,e1,b0,b1,hbl,sm1,hgl,hgr,f2,hcl,hc0,hcj,k1,hap,hg2];exact ih
end
end TwQ
namespace TwT
open Go Go.RowKit Go.Sort AM fO LtA SyP TmM TsA TsB TsC TsE TsI TsJ TtC TuF TwA TwS TwB TwC TwH TwI TwJ TwK TwL TwM TwN TwO TwP TwQ Bt
def lens(od:List Nat)(c:Nat->Nat):List Nat:=(List.range 258).map fun s=>if s∈od then c (od.idxOf s) else 0
theorem mR(od:List Nat)(c:Nat->Nat):(lens od c).length=258:=by simp[lens]
theorem HB{od:List Nat}{c:Nat->Nat}(hn:od.Nodup){j:Nat}(hj:j < od.length)(h:od[j] < 258):(lens od c)[od[j]]?=some (c j):=by simp[lens,h,hn.idxOf_getElem _ hj]
def up(c:Nat->Nat)(a i:Nat):Nat:=c i+if i < a then 1 else 0
theorem Lm{od:List Nat}{c:Nat->Nat}(hn:od.Nodup){a:Nat}(ha:a < od.length):(lens od (up c a)).set od[a] (c a+1)=lens od (up c (a+1)):=by
 apply bK;intro s;rw[cr];by_cases hs:s < 258
 ·by_cases e:od[a]=s
  ·subst e;simp[lens,hs,hn.idxOf_getElem _ ha,up]
  ·rw[if_neg e];simp only[lens,bW,List.getElem?_range hs,bq];by_cases hm:s∈od
   ·rw[if_pos hm,if_pos hm];have h1:od.idxOf s≠a:=fun h=>e (by subst h;exact cO (bP hm));have h2:od.idxOf s < a↔od.idxOf s < a+1:=om
    simp only[up,h2]
   ·rw[if_neg hm,if_neg hm]
 ·have h1:∀ c,(lens od c)[s]?=none:=fun c=>aQ (by rw[mR];omega);rw[h1,h1];split
  ·simp[mR];omega
  ·rfl
theorem Qg{R:List Th}{i:Nat}(h:i < R.length):lf R (i+1)=lf R i+if R[i].2 then 1 else 0:=by unfold lf;rw[b9 h,List.countP_append];simp[cE]
theorem AH(R:List Th):lf R 0=0:=by simp[lf]
section
variable{h:List Blk}{L:Nat}{H d:List Nat}{lp ob rb rx g e:Nat}{od:List Nat}
def XP(w i m:Nat)(vR:Value)(k mm:Int)(rx g e:Nat)(ob n lp:Nat):Fr:=[(11,.int .i64 w),(86,.int .i64 i),(85,.int .i64 m),(7,vR),(10,.int .i64 k),(9,.int .i64 mm),(84,.slice (some ⟨rx,0,some g⟩) m e),(6,.slice (some ⟨ob,0,some n⟩) n 1),(4,.pointer (some ⟨lp,0,some 0⟩))]
theorem Fc{R:List Th}{many:Nat}{vR:Value}{k mm:Int}{c:Nat->Nat}(hrx:h[rx]?=some (.cells g true (thL R)))(hob:h[ob]?=some (.cells od.length true (is od)))(hlp:lp < h.length)(n1:rx≠lp)(n2:ob≠lp)(f1:H.contains rx=false)(f2:H.contains ob=false)(f3:H.contains lp=false)(hL:L<=lp)(he:e=0\/e=2)
  (hn:od.Nodup) (hod:∀ s∈od,s < 258) (hle:od.length<=258) (agE:many<=R.length) (hRl:R.length<=600) (hlf:∀ m,m<=R.length->lf R m<=od.length) (hc:∀ i,c i<=100) (dd:List Nat)
  (hgc:∀ (w i:Int) (X B:Blk),kS h.length [(11,.int .i64 w),(86,.int .i64 i),(85,.int .i64 many),(7,vR),(10,.int .i64 k),(9,.int .i64 mm),(84,.slice (some ⟨rx,0,some g⟩) many e),(6,.slice (some ⟨ob,0,some od.length⟩) od.length 1),(4,.pointer (some ⟨lp,0,some 0⟩))] ⟨h.set lp X++[B],L,H,dd⟩=some ([(11,.int .i64 w),(86,.int .i64 i),(85,.int .i64 many),(7,vR),(10,.int .i64 k),(9,.int .i64 mm),(84,.slice (some ⟨rx,0,some g⟩) many e),(6,.slice (some ⟨ob,0,some od.length⟩) od.length 1),(4,.pointer (some ⟨lp,0,some 0⟩))],⟨h.set lp X,L,H,dd⟩))
  (hF:Fit h.length L H):∀ (r i:Nat),i+r=many->∃ fr,
  fW env GA [11,86,85,7,10,9,84,6,4] h.length (XP (lf R i) i many vR k mm rx g e ob od.length lp) ⟨h.set lp (.cells 0 true (u8s (lens od (up c (lf R i))))),L,H,dd⟩
   = some (.exit 4,fr,⟨h.set lp (.cells 0 true (u8s (lens od (up c (lf R many))))),L,H,dd⟩)
   /\ fr.get 11=some (.int .i64 (lf R many:Nat))/\fr.get 7=some vR/\fr.get 10=some (.int .i64 k)/\fr.get 9=some (.int .i64 mm)/\fr.get 6=some (.slice (some ⟨ob,0,some od.length⟩) od.length 1)/\fr.get 4=some (.pointer (some ⟨lp,0,some 0⟩))
 | 0,i,hi=>by
  obtain rfl:i=many:=om
  have g0:¬ (i:Int) < (i:Int):=om
  rw[fC GA.eq_1];simp only[XP];simp(disch:=first|exact dis|fail) only[sy,simprocAttr,-List.reduceReplicate,hF.all,g0];exact⟨_,rfl,rfl,rfl,rfl,rfl,rfl,rfl⟩
 | r+1,i,hi=>by
  obtain⟨fr,ih,ih2⟩:=Fc hrx hob hlp n1 n2 f1 f2 f3 hL he hn hod hle agE hRl hlf hc dd hgc hF r (i+1) om;refine⟨fr,?_,ih2⟩;have hrl:=(af.1 hrx).1;have hol:=(af.1 hob).1;have hir:i < R.length:=om
  have g0:(i:Int) < (many:Int):=om
  have b0:0<=(i:Int)/\(i:Int) < (many:Int):=om
  have c1:=Hw R i hir;have hlen:=mh R;have s2:i*2+2<=R.length*2:=om
  have hg1:∀ A nw,(h.set lp A++nw)[rx]?=some (.cells g true (thL R)):=fun A nw=>by rw[aA (by simpa using hrl),aZ (Ne.symm n1)];exact hrx
  have agF:∀ A,(h.set lp A)[rx]?=some (.cells g true (thL R)):=fun A=>by rw[aZ (Ne.symm n1)];exact hrx
  have hg2:∀ A nw,(h.set lp A++nw)[ob]?=some (.cells od.length true (is od)):=fun A nw=>by rw[aA (by simpa using hol),aZ (Ne.symm n2)];exact hob
  have hg3:∀ A nw,(h.set lp A++nw)[lp]?=some A:=fun A nw=>by rw[aA (by simpa using hlp)];exact aD hlp
  have hg4:∀ A B,(h.set lp A++[B])[h.length]?=some B:=fun A B=>by simpa using gA (h:=h.set lp A) (nw:=[]) B
  have hs4:∀ A B C,(h.set lp A++[B]).set h.length C=h.set lp A++[C]:=fun A B C=>by simpa using gZ (h:=h.set lp A) (nw:=[]) C B
  have hs3:∀ A B C,(h.set lp A++[B]).set lp C=h.set lp C++[B]:=fun A B C=>by rw[dA _ _ (by simpa using hlp),bG]
  have hnl:¬ lp < L:=om
  have hlw:=hlf (i+1) om;rw[Qg hir] at ih hlw;rw[fC GA.eq_1];have hfi:=Qg hir;generalize lf R i=a at *;generalize R[i]=x at *;obtain⟨xw,xf⟩:=x;cases xf with
  | false=>
   simp only[aO,if_false,bY,XP,aC,aI] at ih ⊢;simp(disch:=first|exact dis|fail) only[sy,simprocAttr,-List.reduceReplicate,hF.all,g0,b0,hg1,agF,f1,c1,hlen,s2,hg4,hs4,hgc];exact ih
  | true=>
   simp only[if_true] at hlw;have ha:a < od.length:=om
   have hoa:=hod _ (bN ha);have c2:(is od)[a]?=some (.int .i64 (od[a]:Nat)):=KX ha;have c3:=HB (c:=up c a) hn ha hoa;have ah3:up c a a=c a:=by simp[up]
   rw[ah3] at c3;have c3':(u8s (lens od (up c a)))[od[a]]?=some (.int .u8 (c a:Int)):=by rw[j0,c3];rfl
   have c4:(u8s (lens od (up c a))).set od[a] (.int .u8 ((c a:Int)+1))=u8s (lens od (up c (a+1))):=by have:=Lm (c:=c) hn ha;rw[PC om,<- this];congr 2
   have hl8:(u8s (lens od (up c a))).length=258:=by rw[fH,mR]
   have ah4:=mE od;have b1:0<=(a:Int)/\(a:Int) < (od.length:Int):=om
   have b2:0<=((od[a]:Nat):Int)/\((od[a]:Nat):Int) < 258:=om
   have s3:od[a]+1<=258:=om
   have hca:=hc a;simp only[if_true,XP,aC,aI] at ih ⊢;generalize u8s (lens od (up c (a+1)))=u1 at *;generalize u8s (lens od (up c a))=u0 at *;generalize od[a]=s at *;simp(disch:=first|exact dis|fail) only[sy,simprocAttr,-List.reduceReplicate,hF.all,g0,b0,b1,b2,hg1,agF,hg2,hg3,f1,f2,f3,c1,c2,c3',c4,hlen,hl8,ah4,s2,s3,hnl,hg4,hs4,hs3,hgc];exact ih
end
end TwT
namespace TwU
open Go Go.RowKit Go.Sort AM fO LtA SyP TmM TsA TsB TsC TsE TsI TsJ TtC TuF TwA TwS TwB TwC TwH TwI TwJ TwK TwL TwM TwN TwO TwP TwQ TwT Bt
theorem Qh(w:List Nat)(i:Nat):∀ k,len (lv w k 0) i=0
 | 0=>by simp[lv,len,AH]
 | k+1=>by have ih:=Qh w i k;simp only[lv,AH,cL,Nat.mul_zero];simpa[len] using ih
theorem agG{w:List Nat} : ∀ k m,m<=(row w k).length->lf (row w k) m<=w.length
 | 0,m,h=>by
  have h':m<=w.length:=by simpa[row] using h
  rw[Hu h'];exact h'
 | k+1,m,h=>by obtain⟨b,-,-,h3,-⟩:=Hr w (pairs (ws (row w k))) m (by rw[row,Hq] at h;exact h);exact h3
theorem Qi{w:List Nat}{k m:Nat}(h:m<=(row w (k+1)).length):lf (row w (k+1)) m<=m/\2*(m - lf (row w (k+1)) m)<=(row w k).length:=by
 obtain⟨b,h1,h2,-,-⟩:=Hr w (pairs (ws (row w k))) m (by rw[row,Hq] at h;exact h);rw[jk] at h2;have h3:(ws (row w k)).length=(row w k).length:=by simp[ws]
 have e:lf (mg w (pairs (ws (row w k)))) m=lf (row w (k+1)) m:=rfl;omega
theorem aaC(c:Nat->Nat)(R:List Th):up c (lf R 0)=c:=by funext i;simp[up,AH]
section
variable{h:List Blk}{L:Nat}{H d:List Nat}{lp ob rb n0 r0:Nat}{od ww:List Nat}
def N7(rb:Nat)(k m:Int)(ob n lp:Nat):Fr:=[(7,.slice (some ⟨rb,0,some 15⟩) 15 1),(10,.int .i64 k),(9,.int .i64 m),(6,.slice (some ⟨ob,0,some n⟩) n 1),(4,.pointer (some ⟨lp,0,some 0⟩))]
theorem aaD{k m:Int}{n:Nat}{σ:List Blk}(hk:k < 0)(hF:Fit h.length L H):∃ fr,
  fW env vh [7,10,9,6,4] h.length (N7 rb k m ob n lp) ⟨σ,L,H,[]⟩=some (.exit 2,fr,⟨σ,L,H,[]⟩)/\fr.get 4=some (.pointer (some ⟨lp,0,some 0⟩)):=by
 have g0:¬ k>=0:=om
 rw[fC vh.eq_1];simp only[N7];simp(disch:=first|exact dis|fail) only[sy,simprocAttr,-List.reduceReplicate,hF.all,g0];exact⟨_,rfl,rfl⟩
theorem Ln(hrb:h[rb]?=some (.cells 15 false (rcs ww n0 r0 15)))(hrn:rb≠lp)(f0:H.contains rb=false)
  (hrx:∀ k,k < 15->h[rix n0 r0 k]?=some (.cells ((row ww k).length*2) true (thL (row ww k)))/\rix n0 r0 k≠lp/\H.contains (rix n0 r0 k)=false)
  (hob:h[ob]?=some (.cells od.length true (is od))) (hlp:lp < h.length) (n2:ob≠lp) (f2:H.contains ob=false) (f3:H.contains lp=false) (hL:L<=lp)
  (hn:od.Nodup) (hod:∀ s∈od,s < 258) (hle:od.length<=258) (hwl:ww.length=od.length) (h2:2<=ww.length) (hF:Fit h.length L H):∀ (k m:Nat) (c:Nat->Nat),k < 15->m<=(row ww k).length->(∀ i,c i+k<=50)->∃ fr c',
  fW env vh [7,10,9,6,4] h.length (N7 rb k m ob od.length lp) ⟨h.set lp (.cells 0 true (u8s (lens od c))),L,H,[]⟩
   = some (.exit 2,fr,⟨h.set lp (.cells 0 true (u8s (lens od c'))),L,H,[]⟩)/\fr.get 4=some (.pointer (some ⟨lp,0,some 0⟩))/\∀ i,c' i=c i+len (lv ww k m) i
 | k,m,c,hk,hm,hc=>by
  have hrl:=(af.1 hrb).1;have hol:=(af.1 hob).1;by_cases hm0:m=0
  ·subst hm0;rw[fC vh.eq_1];have g0:(k:Int)>=0:=om
   simp only[N7,aN];simp(disch:=first|exact dis|fail) only[sy,simprocAttr,-List.reduceReplicate,hF.all,g0];exact⟨_,c,rfl,rfl,fun i=>by rw[Qh,bY]⟩
  ·obtain⟨x1,x2,x3⟩:=hrx k hk;have hxl:=(af.1 x1).1;have air:=CT h2 k;have hck:∀ i,c i<=100:=fun i=>by have:=hc i;omega
   have hpk:=fun e he=>Fc (lp:=lp) (L:=L) (H:=H) (e:=e) (many:=m) (vR:=.slice (some ⟨rb,0,some 15⟩) 15 1) (k:=(k:Int)) (mm:=(m:Int)) (c:=c) x1 hob hlp x2 n2 x3 f2 f3 hL he hn hod hle hm om (fun m h=>by rw[<- hwl];exact agG k m h) hck [] (fun w i X B=>EE aG (by intro p hp r hr;simp only[aJ,bJ,or_false] at hp;rcases hp with rfl | rfl | rfl | rfl | rfl | rfl | rfl | rfl | rfl<;>simp[refs,fU,fJ] at hr<;>omega)) hF m 0 om
   obtain⟨fr0,p0⟩:=hpk 0 (.inl rfl);obtain⟨fr2,p2⟩:=hpk 2 (.inr rfl);rw[aaC,AH] at p0 p2;obtain⟨p1,p3,p4,p5,p6,p7,p8⟩:=p2;obtain⟨q1,q3,q4,q5,q6,q7,q8⟩:=p0;have ha:lf (row ww k) m<=m:=by
    cases k with
    | zero=>rw[Hu (by simpa[row] using hm)];exact av _
    | succ k=>exact(Qi hm).1
   have e1:(2:Int)*((m:Int) - (lf (row ww k) m:Nat))=((2*(m - lf (row ww k) m):Nat):Int):=om
   have g0:(k:Int)>=0:=om
   have g1:(m:Int) > 0:=om
   have b0:0<=(k:Int)/\(k:Int) < 15:=om
   have b1:(0:Int)<=(m:Int)/\(m:Int)<=((row ww k).length:Int):=om
   have hg1:∀ A,(h.set lp A)[rb]?=some (.cells 15 false (rcs ww n0 r0 15)):=fun A=>by rw[aZ (Ne.symm hrn)];exact hrb
   have hcl:=Hz ww n0 r0 15;have ah5:(rcs ww n0 r0 15)[k]?=some (.slice (some ⟨rix n0 r0 k,0,some ((row ww k).length*2)⟩) (row ww k).length 2):=TwO.N5 hk;have hll:∀ A,(h.set lp A).length=h.length:=fun A=>aG;have hend:∃ fr c',fW env vh [7,10,9,6,4] h.length (N7 rb ((k:Int) - 1) ((2*(m - lf (row ww k) m):Nat):Int) ob od.length lp) ⟨h.set lp (.cells 0 true (u8s (lens od (up c (lf (row ww k) m))))),L,H,[]⟩
     = some (.exit 2,fr,⟨h.set lp (.cells 0 true (u8s (lens od c'))),L,H,[]⟩)/\fr.get 4=some (.pointer (some ⟨lp,0,some 0⟩))/\∀ i,c' i=c i+len (lv ww k m) i:=by
    cases k with
    | zero=>
     obtain⟨fr,z1,z2⟩:=aaD (h:=h) (L:=L) (H:=H) (rb:=rb) (ob:=ob) (lp:=lp) (n:=od.length) (k:=((0:Nat):Int) - 1) (m:=((2*(m - lf (row ww 0) m):Nat):Int)) (σ:=h.set lp (.cells 0 true (u8s (lens od (up c (lf (row ww 0) m)))))) om hF;exact⟨fr,_,z1,z2,fun i=>by simp[up,lv,len,cE]⟩
    | succ k=>
     obtain⟨fr,c',z1,z2,z3⟩:=Ln hrb hrn f0 hrx hob hlp n2 f2 f3 hL hn hod hle hwl h2 hF k (2*(m - lf (row ww (k+1)) m)) (up c (lf (row ww (k+1)) m)) om (Qi hm).2 (fun i=>by have:=hc i;simp only[up];split<;>omega);refine⟨fr,c',?_,z2,fun i=>?_⟩
     ·rw[show((k+1:Nat):Int) - 1=(k:Int) by omega];exact z1
     ·rw[z3];simp only[up,lv,len,cE,decide_eq_true_eq];omega
   obtain⟨fr,c',z1,z2,z3⟩:=hend;refine⟨fr,c',?_,z2,z3⟩;have hsz:lf (row ww k) m<=600:=om
   rw[fC vh.eq_1];generalize lf (row ww k) m=a at *;simp only[N7,XP,aN] at p1 q1 z1 ⊢;generalize rcs ww n0 r0 15=rc at *;generalize rix n0 r0 k=rx at *;generalize (row ww k).length=N at *;simp(disch:=first|exact dis|fail) only[sy,simprocAttr,-List.reduceReplicate,hF.all,g0,g1,b0,b1,hm,hg1,f0,hcl,ah5,hll,p1,p3,p4,p5,p6,p7,p8,e1];exact z1
end
end TwU
namespace TwV
open Go Go.RowKit Go.Sort AM fO LtA SyP TmM TsA TsB TsC TsE TsI TsJ TtC TuF TwA TwS TwB TwC TwH TwI TwJ TwK TwL TwM TwN TwO TwP TwQ TwT TwU Bt
theorem CU{od:List Nat}{c c':Nat->Nat}(h:∀ i,i < od.length->c i=c' i):lens od c=lens od c':=by
 unfold lens;refine bQ fun s _=>?_;by_cases hm:s∈od
 ·rw[if_pos hm,if_pos hm,h _ (bP hm)]
 ·rw[if_neg hm,if_neg hm]
theorem Fe(od:List Nat):u8s (lens od fun _=>0)=List.replicate 258 (.int .u8 0):=by unfold lens u8s;rw[List.eq_replicate_iff];simp
theorem XQ(t:List Nat)(i:Nat):(us t i).Nodup:=(List.nodup_range).filter _
theorem CV{t od:List Nat}(h:Od t od):od.Nodup:=h.perm.nodup_iff.2 (XQ t 258)
section
variable{hp:List Blk}{L:Nat}{H d t:List Nat}
theorem XR{od:List Nat}(h:Ta t 100000)(hod:Od t od)(h1:od.length=1)(hF:Fit hp.length L H)
  (ko:∀ d,fS env (.func 62) [.agg (is t).toArray] ⟨hp++[.cells 0 true (is t),.cells 0 true (List.replicate 258 (.int .u8 0))],L,H,d⟩=some (.slice (some ⟨hp.length+2,0,some od.length⟩) od.length 1,⟨hp++[.cells 0 true (is t),.cells 0 true (List.replicate 258 (.int .u8 0)),.cells od.length true (is od)],L,H,d⟩)) :
  fS env (.func 20) [.agg (is t).toArray,.int .i64 15] ⟨hp,L,H,d⟩=some (.tuple #[.agg (u8s (lens od (ls (wts t od)))).toArray,.int .i64 0],⟨hp,L,H,d⟩):=by
 rw[fF 20 _ _ afa];have hv:=fun hp L H d hF=>tu (hp:=hp) (L:=L) (H:=H) (d:=d) h om hF;have hlen:=mZ h.len;obtain⟨s,rfl⟩:=List.length_eq_one_iff.1 h1;have hs:=hod.lt s (by simp);have e0:lens [s] (ls (wts t [s]))=lens [s] (up (fun _=>0) 1):=CU fun i hi=>by
  obtain rfl:i=0:=by simpa using hi
  simp[ls,wts,up]
 have e2:(lens [s] (up (fun _=>0) 0)).set s 1=lens [s] (up (fun _=>0) 1):=Lm (od:=[s]) (c:=fun _=>0) (by simp) (a:=0) (by simp);have e3:lens [s] (up (fun _=>0) 0)=lens [s] fun _=>0:=rfl;rw[e0,<- e2,e3];have e1:(List.replicate 258 (Value.int .u8 0)).set s (.int .u8 1)=u8s ((lens [s] fun _=>0).set s 1):=by rw[<- Fe [s]];exact PC (by decide)
 have b1:0<=(s:Int)/\(s:Int) < 258:=om
 have s3:s+1<=258:=om
 have hr:(List.replicate 258 (Value.int .u8 0)).length=258:=by simp
 have hl8:(u8s ((lens [s] fun _=>0).set s 1)).length=258:=by rw[fH,aG,mR]
 have hput:=gH (cs:=u8s ((lens [s] fun _=>0).set s 1)) (vs:=u8s ((lens [s] fun _=>0).set s 1)) rfl;have his:is [s]=[.int .i64 (s:Nat)]:=rfl;have hcv:=ju ((lens [s] fun _=>0).set s 1);have hsc:=gQ ((lens [s] fun _=>0).set s 1);have CW:(List.flatMap fJ (u8s ((lens [s] fun _=>0).set s 1))).isEmpty=true:=by rw[qY (gQ _)];rfl
 generalize u8s ((lens [s] fun _=>0).set s 1)=u1 at *;generalize hz:List.replicate 258 (Value.int .u8 0)=z at *;simp(disch:=first|exact dis|fail) only[sy,simprocAttr,-List.reduceReplicate,hF.all,V4,hz,jR,oS,hlen,fR hlen,hv,ko,az,aT,his,b1,s3,hr,e1,hl8,fR hl8,hput,hcv,hsc,CW]
theorem agH{n0 r0:Nat}{ww:List Nat}{A:List Blk}{bl:List Blk}(hA:A.length=n0)(h0:A[r0]?=some (.cells ((row ww 0).length*2) true (thL (row ww 0)))):∀ k,k < 15->(A++rbl ww 14)[rix n0 r0 k]?=some (.cells ((row ww k).length*2) true (thL (row ww k)))
 | 0,_=>by rw[rix,aA (af.1 h0).1];exact h0
 | k+1,hk=>by rw[rix,<- hA,aM om,cx];exact N6 om
theorem Tu{od:List Nat}(h:Ta t 100000)(hod:Od t od)(h2:2<=od.length)(hF:Fit hp.length L H)
  (ko:∀ d,fS env (.func 62) [.agg (is t).toArray] ⟨hp++[.cells 0 true (is t),.cells 0 true (List.replicate 258 (.int .u8 0))],L,H,d⟩=some (.slice (some ⟨hp.length+2,0,some od.length⟩) od.length 1,⟨hp++[.cells 0 true (is t),.cells 0 true (List.replicate 258 (.int .u8 0)),.cells od.length true (is od)],L,H,d⟩)) :
  fS env (.func 20) [.agg (is t).toArray,.int .i64 15] ⟨hp,L,H,d⟩=some (.tuple #[.agg (u8s (lens od (ls (wts t od)))).toArray,.int .i64 0],⟨hp,L,H,d⟩):=by
 have hol:=hod.len;have hwl:(wts t od).length=od.length:=by simp[wts]
 have hB:∀ x∈wts t od,x<=100000:=fun x hx=>by obtain⟨s,hs,rfl⟩:=bw.1 hx;obtain⟨n,hn,hn2,-⟩:=h.at (hod.lt s hs);rw[hn];exact hn2
 obtain⟨z,hz⟩:∃ z,List.replicate 258 (Value.int .u8 0)=z:=⟨_,rfl⟩;obtain⟨ww,hww⟩:∃ ww,wts t od=ww:=⟨_,rfl⟩;have kl:=fun d=>Lg (hp:=hp++[.cells 0 true (is t),.cells 0 true z,.cells od.length true (is od)]) (L:=L) (H:=H) (d:=d) (v:=.slice (some ⟨hp.length+2,0,some od.length⟩) od.length 1) h ⟨hp.length+2,0,od.length,1,true,is od,rfl,hF.nv 2,by rw[iE];rfl,fun i h=>by rw[aX];exact KX h⟩ hod.lt hol om (hF.mono (by simp));rw[hww] at kl hwl hB;have hr0:(row ww 0).length=od.length:=by simp[row,hwl]
 obtain⟨A,hA⟩:∃ A:List Blk,A=hp++[.cells 0 true (is t),.cells 0 true z,.cells od.length true (is od),.cells (od.length*2) true (thL (row ww 0)),.cells 0 false (rcs ww (hp.length+5) (hp.length+3) 1)]:=⟨_,rfl⟩;have hAl:A.length=hp.length+5:=by rw[hA];simp
 have hFA:Fit A.length L H:=hF.mono (by rw[hAl];omega);obtain⟨fr,x1,x2,x3,x4,x5⟩:=Fb (h:=A) (L:=L) (H:=H) (rb:=hp.length+4) (r0:=hp.length+3) (ww:=ww) (lpv:=.pointer (some ⟨hp.length+1,0,some 0⟩)) (ov:=.slice (some ⟨hp.length+2,0,some od.length⟩) od.length 1)
  (by rw[hA,iE,hwl];rfl) om om (hF.nv 3) (hF.nv 4) (by have:=hF.1;omega) om om hB (by intro r hr;simp[refs,fU,fJ] at hr;omega) (by intro r hr;simp[refs,fU,fJ] at hr;omega) hFA 14 0 0 [] om om (.inl rfl) (fun e=>by omega)
 have iK:∀ X,A.set (hp.length+4) X=hp++[.cells 0 true (is t),.cells 0 true z,.cells od.length true (is od),.cells (od.length*2) true (thL (row ww 0)),X]:=fun X=>by rw[hA,wj];rfl
 have hb0:rbl ww 0=[]:=rfl;rw[iK,iK,hb0,hAl] at x1;obtain⟨bl,hbl⟩:∃ bl,rbl ww 14=bl:=⟨_,rfl⟩;have agI:bl.length=14:=by rw[<- hbl,pM]
 obtain⟨h2',hh2⟩:∃ h2':List Blk,h2'=hp++([.cells 0 true (is t),.cells 0 true z,.cells od.length true (is od),.cells (od.length*2) true (thL (row ww 0)),.cells 15 false (rcs ww (hp.length+5) (hp.length+3) 15)]++bl):=⟨_,rfl⟩;have h2l:h2'.length=hp.length+19:=by rw[hh2];simp[agI]
 have hrx:∀ k,k < 15->h2'[rix (hp.length+5) (hp.length+3) k]?=some (.cells ((row ww k).length*2) true (thL (row ww k))):=fun k hk=>by rw[hh2,<- aR,<- hbl];exact agH (bl:=bl) (by simp) (by rw[iE,hr0];rfl) k hk
 obtain⟨fr2,c',y1,y2,y3⟩:=Ln (h:=h2') (L:=L) (H:=H) (lp:=hp.length+1) (ob:=hp.length+2) (rb:=hp.length+4) (n0:=hp.length+5) (r0:=hp.length+3) (od:=od) (ww:=ww) (by rw[hh2,iE];rfl) om (hF.nv 4)
  (fun k hk=>⟨hrx k hk,by cases k<;>simp[rix]<;>omega,by cases k with | zero=>exact hF.nv 3 | succ k=>(have:=hF.nv (5+k);rw[<- cA] at this;exact this)⟩) (by rw[hh2,iE];rfl) om om (hF.nv 2) (hF.nv 1) (by have:=hF.1;omega) (CV hod) hod.lt hol hwl om (hF.mono om) 14 (2*od.length - 2) (fun _=>0) om (by have:=XF (w:=ww) om;omega) (fun i=>by omega)
 have hc':lens od c'=lens od (ls ww):=CU fun i hi=>by rw[y3,ls,if_neg om,hwl];simp
 have XS:∀ X,h2'.set (hp.length+1) X=hp++([.cells 0 true (is t),X,.cells od.length true (is od),.cells (od.length*2) true (thL (row ww 0)),.cells 15 false (rcs ww (hp.length+5) (hp.length+3) 15)]++bl):=fun X=>by rw[hh2,wj];rfl
 rw[XS,XS,Fe,hz,hc',h2l] at y1;rw[hbl] at x1;rw[hz] at ko;have hr:(List.replicate 258 (Value.int .u8 0)).length=258:=by simp
 rw[hz] at hr;have hlen:=mZ h.len;have hv:=fun d=>tu (hp:=hp++[.cells 0 true (is t),.cells 0 true z,.cells od.length true (is od)]) (L:=L) (H:=H) (d:=d) h om (hF.mono (by simp));have hl8:(u8s (lens od (ls ww))).length=258:=by rw[fH,mR]
 have hput:=gH (cs:=u8s (lens od (ls ww))) (vs:=u8s (lens od (ls ww))) rfl;have hcv:=ju (lens od (ls ww));have hsc:=gQ (lens od (ls ww));have CW:(List.flatMap fJ (u8s (lens od (ls ww))))=[]:=qY (gQ _);have hr1:rcs ww (hp.length+5) (hp.length+3) 1=[.slice (some ⟨hp.length+3,0,some (od.length*2)⟩) od.length 2]:=by simp[rcs,TwO.rsl,rix,hr0]
 rw[hww];have sm1:small 1=true:=by decide
 have hjd:∀ x,fX [] [x]=[x]:=fun x=>rfl;have g1:¬ (od.length:Int) > 32768:=om
 have g2:¬ (od.length:Int)=1:=om
 have e1:(2:Int)*(od.length:Int) - 2=((2*od.length - 2:Nat):Int):=om
 have hgc:∀ (u:List Value) (c:Blk) (nw:List Blk),u.flatMap fJ=[]->gc hp.length [.tuple #[.agg u.toArray,.int .i64 0]] ⟨hp++c::nw,L,H,[hp.length+4]⟩=some ([.tuple #[.agg u.toArray,.int .i64 0]],⟨hp,L,H,[]⟩):=fun u c nw hu=>by
  have e1:[hp.length+4].filter (· < hp.length)=[]:=by simp
  have e2:refs (.tuple #[.agg u.toArray,.int .i64 0])=[]:=by simp[refs,fU,fJ,hu]
  unfold gc;rw[if_neg (by simp)];simp only[e1,dV,dK,e2,bB,List.filter_nil,List.take_left']
 generalize u8s (lens od (ls ww))=u1 at *;clear hrx y3 hA hh2 iK XS;rw[hr1] at x1;generalize rcs ww (hp.length+5) (hp.length+3) 15=rc at *;generalize row ww 0=rw0 at *;simp only[N7,bB,aS,aV,aN,Int.zero_add,cu] at x1 y1;simp only[aB,az,aT,aX,aR,aS,aV] at kl;rw[fF 20 _ _ afa];simp(disch:=first|exact dis|fail) only[sy,simprocAttr,-List.reduceReplicate,hF.all,V4,hz,jR,oS,hlen,fR hlen,hv,ko,kl,sm1,hjd,g1,g2,hr,agI,x1,x2,x3,x4,x5,y1,y2,e1,hl8,fR hl8,hput,hcv,hsc,CW,hgc]
theorem wH(h:Ta t 100000)(hne:us t 258≠[])(hF:Fit hp.length L H):∃ od,Od t od/\∀ d,fS env (.func 20) [.agg (is t).toArray,.int .i64 15] ⟨hp,L,H,d⟩=some (.tuple #[.agg (u8s (lens od (ls (wts t od)))).toArray,.int .i64 0],⟨hp,L,H,d⟩):=by
 obtain⟨od,hod,ko⟩:=vo (hp:=hp++[.cells 0 true (is t),.cells 0 true (List.replicate 258 (.int .u8 0))]) (L:=L) (H:=H) h hne (hF.mono (by simp));have h0:od.length≠0:=fun e=>hne (bp (by rw[<- hod.perm.length_eq];exact e));simp only[aB,az,aT,aX,aR,aS,aV] at ko;refine⟨od,hod,fun d=>?_⟩;by_cases h1:od.length=1
 ·exact XR h hod h1 hF ko
 ·exact Tu h hod om hF ko
end
end TwV
namespace TwW
open TwA TwI TwJ TwK TwP TwT TwV
def tv(t:List Nat)(s:Nat):Nat:=(t[s]?).getD 0
theorem Lp(t l:List Nat):∀ i,cost t l i=((List.range i).map fun s=>tv t s*tv l s).sum
 | 0=>rfl
 | i+1=>by rw[cost,Lp t l i,cN,dh,List.sum_append];simp[tv]
theorem CX{p:Nat->Bool}{f:Nat->Nat} : ∀ {l:List Nat},(∀ x∈l,p x=false->f x=0)->(l.map f).sum=((l.filter p).map f).sum
 | [],_=>rfl
 | x::l,h=>by
  have ih:=CX (p:=p) (f:=f) (l:=l) fun y hy=>h y (by simp[hy]);cases c:p x with
  | true=>simp[c,ih]
  | false=>simp[c,ih,h x (by simp) c]
theorem Lq{p q:Nat->Bool}{f:Nat->Nat}(h:∀ x,p x=true->q x=true):∀ l:List Nat,((l.filter p).map f).sum<=((l.filter q).map f).sum
 | []=>av _
 | x::l=>by
  have ih:=Lq (f:=f) h l;cases c:p x with
  | true=>simp[c,h x c];omega
  | false=>cases d:q x<;>simp[c,d]<;>omega
theorem Qj{t od:List Nat}(h:Od t od)(l:List Nat):cost t l 258=(od.map fun s=>tv t s*tv l s).sum:=by
 rw[Lp,CX (p:=fun s=>decide (0 < tv t s)) fun x _ hx=>by
  have:tv t x=0:=by simpa using hx
  rw[this,Nat.zero_mul]]
 exact((h.perm.map _).sum_nat).symm
theorem Qk{od:List Nat}{c:Nat->Nat}(hn:od.Nodup)(hl:∀ s∈od,s < 258)(F:Nat->Nat->Nat):od.map (fun s=>F s (tv (lens od c) s))=od.zipIdx.map fun x=>F x.1 (c x.2):=by
 apply cY
 ·simp
 ·intro i h1 h2;have hi:i < od.length:=by simpa using h1
  simp[tv,HB (c:=c) hn hi (hl _ (bN hi))]
theorem adM(c:Nat->Nat):∀ (od:List Nat),(od.zipIdx.map fun x=>c x.2).sum=sm od.length c:=by
 have h:∀ (n:Nat),((List.range n).map c).sum=sm n c:=fun n=>by
  induction n with
  | zero=>rfl
  | succ n ih=>rw[cN,dh,List.sum_append,ih];simp[sm]
 intro od;rw[<- h];congr 1;apply cY<;>simp
theorem short{t o od oo:List Nat}(ht:Od t od)(ho:Od o oo)(hto:∀ s,0 < tv t s->0 < tv o s):cost t (lens od (ls (wts t od))) 258<=cost t (lens oo (ls (wts o oo))) 258:=by
 rw[Qj ht,Qj ht];have hn:=CV ht;have hno:=CV ho;have hsub:∀ s∈od,s∈oo:=fun s hs=>by have h1:=ht.perm.mem_iff.1 hs;refine ho.perm.mem_iff.2 ?_;rw[us,cT] at h1 ⊢;exact⟨h1.1,decide_eq_true (hto s (of_decide_eq_true h1.2))⟩
 have hwo:(wts o oo).length=oo.length:=by simp[wts]
 have hol:=ho.len;have h15:(2:Nat) ^ 15=32768:=by decide
 have hin:∀ s∈oo,1<=tv (lens oo (ls (wts o oo))) s/\tv (lens oo (ls (wts o oo))) s<=15:=fun s hs=>by obtain⟨j,hj,rfl⟩:=List.getElem_of_mem hs;have:=HB (c:=ls (wts o oo)) hno hj (ho.lt _ hs);rw[tv,this];exact ab6 om om
 have hk:(od.map fun s=>2 ^ (15 - tv (lens oo (ls (wts o oo))) s)).sum<=2 ^ 15:=by have e1:(od.map fun s=>2 ^ (15 - tv (lens oo (ls (wts o oo))) s)).sum=(((List.range 258).filter fun s=>decide (0 < tv t s)).map fun s=>2 ^ (15 - tv (lens oo (ls (wts o oo))) s)).sum:=(ht.perm.map _).sum_nat;have e2:(oo.map fun s=>2 ^ (15 - tv (lens oo (ls (wts o oo))) s)).sum=(((List.range 258).filter fun s=>decide (0 < tv o s)).map fun s=>2 ^ (15 - tv (lens oo (ls (wts o oo))) s)).sum:=(ho.perm.map _).sum_nat;have e3:=Lq (p:=fun s=>decide (0 < tv t s)) (q:=fun s=>decide (0 < tv o s)) (f:=fun s=>2 ^ (15 - tv (lens oo (ls (wts o oo))) s)) (fun x hx=>by simpa using hto x (by simpa using hx)) (List.range 258);rw[e1];refine bh e3 ?_;rw[<- e2,Qk hno ho.lt fun _ v=>2 ^ (15 - v)];have:=adM (fun i=>2 ^ (15 - ls (wts o oo) i)) oo;rw[this,<- hwo];exact Lc om
 have hb:=best (l:=od.map fun s=>(tv t s,tv (lens oo (ls (wts o oo))) s)) (by rw[fo];exact ht.so) (by have:=ht.len;simp;omega) (fun x hx=>by obtain⟨s,hs,rfl⟩:=bw.1 hx;exact hin s (hsub s hs)) (by rw[fo];exact hk)
 have hw:(od.map fun s=>(tv t s,tv (lens oo (ls (wts o oo))) s)).map (·.1)=wts t od:=by rw[fo];rfl
 rw[hw,fo] at hb;rw[Qk hn ht.lt fun s v=>tv t s*v];refine bh (Nat.le_of_eq ?_) hb;congr 1;apply cY
 ·simp[wts]
 ·intro i h1 h2;simp[wts,tv]
end TwW
namespace TwX
open Go Go.RowKit Go.Sort AM fO LtA SyP TmM TsA TsB TsC TsE TsI TsJ TtC TuF TuG TwA TwS TwB TwC TwH TwI TwJ TwK TwL TwM TwN TwO TwP TwQ TwT TwU TwV TwW Bt
theorem aaE(t:List Nat)(y x:Nat):tv t x<=tv (sr t y) x:=by
 unfold tv sr;rw[cr];split
 ·rename_i h;subst h;split
  ·simp
  ·rename_i h;rw[aQ om];exact av _
 ·exact av _
theorem Ql:∀ (S t:List Nat) (x:Nat),tv t x<=tv (S.foldl sr t) x
 | [],t,x=>av _
 | s::S,t,x=>bh (aaE t s x) (Ql S _ x)
theorem ab8{t:List Nat}{s:Nat}(hs:s < 258)(h:0 < tv t s):us t 258≠[]:=fun e=>by
 have:s∈us t 258:=by rw[us,cT];exact⟨cj.2 hs,decide_eq_true h⟩
 rw[e] at this;cases this
theorem Ff{S:List Nat}(h0:S≠[])(hs:∀ s∈S,s < 258):∃ s,s < 258/\0 < tv (gM S) s:=by
 match S,h0 with
 | s::S,_=>
  have h1:=hs s (by simp);refine⟨s,h1,bg ?_ (Ql S (sr (List.replicate 258 0) s) s)⟩;simp[tv,sr,h1]
theorem Ta.mono{t:List Nat}{B C:Nat}(h:Ta t B)(hB:B<=C):Ta t C:=⟨h.len,fun n hn=>bh (h.le n hn) hB⟩
section
variable{hp:List Blk}{L:Nat}{H d:List Nat}
theorem XT{b n e:Nat}{g:Nat}{pl:Bool}{l:List Nat}(hb:hp[b]?=some (.cells g pl (is l)))(hh:H.contains b=false)(hn:l.length=n):Si hp H (.slice (some ⟨b,0,some g⟩) n e) l:=by subst hn;exact⟨b,0,g,e,pl,is l,rfl,hh,hb,fun i h=>by simp[is,h]⟩
theorem DP{S:List Nat}{v:Value}(hS:Si hp H v S)(hs:∀ s∈S,s < 258)(h0:S≠[])(hl:S.length<=90000)(hF:Fit hp.length L H):∃ od,Od (gM S) od/\∀ d,fS env (.func 67) [v] ⟨hp,L,H,d⟩=some (.agg (u8s (lens od (ls (wts (gM S) od)))).toArray,⟨hp,L,H,d⟩):=by
 obtain⟨z,hz⟩:∃ z,List.replicate 258 (Value.int .u8 0)=z:=⟨_,rfl⟩;obtain⟨s,hs1,hs2⟩:=Ff h0 hs;have ht:Ta (gM S) 100000:=Ta.mono (Ta.gM S) om;obtain⟨od,hod,k2⟩:=wH (hp:=hp++[.cells 0 true z,.cells 0 true (is (gM S))]) (L:=L) (H:=H) ht (ab8 hs1 hs2) (hF.mono (by simp));have k1:=fun d=>P6 (hp:=hp++[.cells 0 true z]) (L:=L) (d:=d) (NX hS [.cells 0 true z]) hs om (hF.mono (by simp));refine⟨od,hod,fun d=>?_⟩;rw[fF 67 _ _ ahQ];have hr:(List.replicate 258 (Value.int .u8 0)).length=258:=by simp
 have hq:(List.replicate 258 (Value.int .i64 0)).length=258:=by simp
 rw[hz] at hr;have hlen:=mZ ht.len;have hl8:(u8s (lens od (ls (wts (gM S) od)))).length=258:=by rw[fH,mR]
 have Lr:putAt (List.replicate 258 (Value.int .i64 0)) 0 (is (gM S))=is (gM S):=gH (by rw[hlen,hq]);have Ls:putAt z 0 (u8s (lens od (ls (wts (gM S) od))))=u8s (lens od (ls (wts (gM S) od))):=gH (by rw[hl8,hr]);have hcv:=ju (lens od (ls (wts (gM S) od)));have hsc:=gQ (lens od (ls (wts (gM S) od)));have CW:(List.flatMap fJ (u8s (lens od (ls (wts (gM S) od))))).isEmpty=true:=by rw[qY (gQ _)];rfl
 generalize u8s (lens od (ls (wts (gM S) od)))=u1 at *;generalize gM S=t at *;generalize hzq:List.replicate 258 (Value.int .i64 0)=zq at *;simp(disch:=first|exact dis|fail) only[sy,simprocAttr,-List.reduceReplicate,hF.all,ac4,hz,hzq,jR,oS,hlen,fR hlen,k1,k2,hr,hq,hl8,fR hl8,Lr,Ls,hcv,hsc,CW]
theorem DQ{x:List Nat}{v:Value}(hR:Rd ⟨hp,L,H,[]⟩ v x)(h1:1<=x.length)(hxs:x.length<=254)(hs:∀ s∈enc (col x),s < 258)(h0:enc (col x)≠[])(hl:(enc (col x)).length<=90000)(hF:Fit hp.length L H):∃ od,Od (gM (enc (col x))) od/\∀ d,fS env (.func 22) [v] ⟨hp,L,H,d⟩=some (.agg (u8s (lens od (ls (wts (gM (enc (col x))) od)))).toArray,⟨hp,L,H,d⟩):=by
 obtain⟨z,hz⟩:∃ z,List.replicate 258 (Value.int .u8 0)=z:=⟨_,rfl⟩;obtain⟨N,hN⟩:∃ N,(enc (col x)).length=N:=⟨_,rfl⟩;have hN0:N≠0:=fun e=>h0 (bp om);have k1:=fun d=>wE (hp:=hp++[.cells 0 true z]) (d:=d) hR.app h1 hxs hN hN0 (hF.mono (by simp));obtain⟨od,hod,k2⟩:=DP (hp:=hp++[.cells 0 true z,.cells N true (is (enc (col x)))]) (L:=L) (H:=H) (v:=.slice (some ⟨hp.length+1,0,some N⟩) N 1) (XT (by rw[iE];rfl) (hF.nv 1) hN) hs h0 hl (hF.mono (by simp));refine⟨od,hod,fun d=>?_⟩;rw[fF 22 _ _ ahG];have hr:(List.replicate 258 (Value.int .u8 0)).length=258:=by simp
 rw[hz] at hr;obtain⟨u1,hu1⟩:∃ u1,u8s (lens od (ls (wts (gM (enc (col x))) od)))=u1:=⟨_,rfl⟩;have hl8:u1.length=258:=by rw[<- hu1,fH,mR]
 have Ls:putAt z 0 u1=u1:=gH (by rw[hl8,hr]);have hcv:u1.all fY=true:=by rw[<- hu1];exact ju _
 have hsc:u1.all AM.sc=true:=by rw[<- hu1];exact gQ _
 have CW:(List.flatMap fJ u1).isEmpty=true:=by rw[qY hsc];rfl
 rw[hu1] at k2 ⊢;simp only[aB,az,aT,aX,aR,aS,aV] at k1;generalize enc (col x)=S at *;simp(disch:=first|exact dis|fail) only[sy,simprocAttr,-List.reduceReplicate,hF.all,acY,hz,k1,k2,hr,hl8,fR hl8,Ls,hcv,hsc,CW]
end
end TwX
namespace TsP
open SyP
theorem HC:∀ (k n:Nat),n<=k->∀ s∈jV n,s<=257
 | k,0,_,s,h=>by rw[tZ] at h;cases h
 | 0,n+1,h,_,_=>by omega
 | k+1,n+1,h,s,hs=>by
  rw[uc] at hs;rcases aJ.1 hs with rfl | hs
  ·omega
  ·exact HC k (n / 2) om s hs
theorem HD:∀ (x L:List Nat) (r:Nat),Bl L->(∀ c∈x,c < 256)->∀ s∈(lG L r x).1,s<=257
 | [],L,r,_,_,s,h=>by cases h
 | c::x,L,r,hL,hx,s,h=>by
  have hc:=hL.idx (hx c (by simp));have hx':∀ c∈x,c < 256:=fun b hb=>hx b (by simp[hb]);unfold lG at h;split at h
  ·exact HD x _ _ (hL.take hc) hx' s h
  ·simp only[aP,aJ] at h;rcases h with h | rfl | h
   ·exact HC r r (av _) s h
   ·omega
   ·exact HD x _ _ (hL.take hc) hx' s h
theorem adN{x:List Nat}(hx:∀ c∈x,c < 256):∀ s∈enc x,s<=257:=fun s h=>by
 unfold enc GX at h;simp only[aP,aJ,bJ,or_false] at h;rcases h with h | h | rfl
 ·exact HD x _ _ Bl.zero hx s h
 ·exact HC _ _ (av _) s h
 ·omega
theorem aaF(x:List Nat):1<=(enc x).length:=by unfold enc GX;simp;omega
end TsP
namespace TsN
open Go Go.RowKit AM fO LtA SyP TmM TsA TsB TsC TsD TsE TsF TsG TsH TsI TsJ TsK TsM Bt
end TsN
namespace AM
open Go
noncomputable section
variable{ρ:Type}
def ob{α:Type}(x:Option α)(f:α->Option ρ):Option ρ:=@Option.rec α (fun _=>Option ρ) none f x
theorem oU{α:Type}(x:Option α)(f:α->Option ρ):ob x f=x.bind f:=by cases x<;>rfl
def HE(t:Nat)(fr:Fr)(k:Value->Option ρ):Option ρ:=@List.rec (Nat×Value) (fun _=>Option ρ) none (fun p _ ih=>@Bool.rec (fun _=>Option ρ) ih (k p.2) (Nat.beq p.1 t)) fr
theorem wI(t:Nat)(k:Value->Option ρ):∀ fr:Fr,HE t fr k=(fr.get t).bind k
 | []=>rfl
 | (a,v)::l=>by
  show @Bool.rec (fun _=>Option ρ) (HE t l k) (k v) (Nat.beq a t)=_;simp only[Fr.get];by_cases h:a=t
  ·subst h;simp[dJ]
  ·have:Nat.beq a t=false:=by rw[bL];intro hb;exact h (aU hb)
   rw[if_neg h,this];exact wI t k l
def evK:Operand->Fr->(Value->Option ρ)->Option ρ:=@Operand.rec (fun _=>Fr->(Value->Option ρ)->Option ρ) (fun t fr k=>HE t fr k) (fun v _ k=>k v) (fun _ _ _=>none) (fun f _ k=>k (.func (.func f) #[] #[]))
theorem iU(x:Operand)(fr:Fr)(k:Value->Option ρ):evK x fr k=(ev fr x).bind k:=by
 cases x<;>first
  | rfl
  | exact wI _ _ _
def XU:List Operand->Fr->(List Value->Option ρ)->Option ρ:=@List.rec Operand (fun _=>Fr->(List Value->Option ρ)->Option ρ) (fun _ k=>k []) (fun x _ ih fr k=>evK x fr fun v=>ih fr fun l=>k (v::l))
theorem HF:∀ (xs:List Operand) (fr:Fr) (k:List Value->Option ρ),XU xs fr k=(evs fr xs).bind k
 | [],fr,k=>rfl
 | x::l,fr,k=>by
  show evK x fr (fun v=>XU l fr fun l=>k (v::l))=_;rw[iU];simp only[evs];cases ev fr x with
  | none=>rfl
  | some v=>
   simp only[ak,HF l];cases evs fr l<;>rfl
def su:Value->(IntKind->Int->Option ρ)->Option ρ->Option ρ:=
 @Value.rec (fun _=>(IntKind->Int->Option ρ)->Option ρ->Option ρ) (fun _=>PUnit) (fun _=>PUnit)
  (fun _ _ e=>e) (fun k n f _=>f k n) (fun _ _ _ e=>e) (fun _ _ _ _ e=>e) (fun _ _ e=>e) (fun _ _ e=>e) (fun _ _ _ _ e=>e) (fun _ _ e=>e) (fun _ _ e=>e) (fun _ _ _ _ _ _ e=>e) (fun _ e=>e) (fun _ _ _ _ e=>e) (fun _ e=>e) (fun _ _ _ e=>e) (fun _ _ _ e=>e) (fun _ _=>⟨⟩) ⟨⟩ (fun _ _ _ _=>⟨⟩)
def r7:Value->(Bool->Option ρ)->Option ρ->Option ρ:=
 @Value.rec (fun _=>(Bool->Option ρ)->Option ρ->Option ρ) (fun _=>PUnit) (fun _=>PUnit)
  (fun b f _=>f b) (fun _ _ _ e=>e) (fun _ _ _ e=>e) (fun _ _ _ _ e=>e) (fun _ _ e=>e) (fun _ _ e=>e) (fun _ _ _ _ e=>e) (fun _ _ e=>e) (fun _ _ e=>e) (fun _ _ _ _ _ _ e=>e) (fun _ e=>e) (fun _ _ _ _ e=>e) (fun _ e=>e) (fun _ _ _ e=>e) (fun _ _ _ e=>e) (fun _ _=>⟨⟩) ⟨⟩ (fun _ _ _ _=>⟨⟩)
def xZ:Value->(Addr->Option ρ)->Option ρ->Option ρ:=
 @Value.rec (fun _=>(Addr->Option ρ)->Option ρ->Option ρ) (fun _=>PUnit) (fun _=>PUnit)
  (fun _ _ e=>e) (fun _ _ _ e=>e) (fun _ _ _ e=>e) (fun _ _ _ _ e=>e) (fun _ _ e=>e) (fun a f e=>@Option.rec Addr (fun _=>Option ρ) e f a) (fun _ _ _ _ e=>e) (fun _ _ e=>e) (fun _ _ e=>e) (fun _ _ _ _ _ _ e=>e) (fun _ e=>e) (fun _ _ _ _ e=>e) (fun _ e=>e) (fun _ _ _ e=>e) (fun _ _ _ e=>e) (fun _ _=>⟨⟩) ⟨⟩ (fun _ _ _ _=>⟨⟩)
theorem oV(k:IntKind)(n:Int)(f:IntKind->Int->Option ρ)(e:Option ρ):su (.int k n) f e=f k n:=rfl
theorem Lt(v:Value)(x y e:Option ρ):r7 v (fun b=>@Bool.rec (fun _=>Option ρ) y x b) e=match some v with | some (.bool true)=>x | some (.bool false)=>y | _=>e:=by
 cases v<;>first
  | rfl
  | (rename_i b;cases b<;>rfl)
def oW:IntKind->Nat:=@IntKind.rec (fun _=>Nat) 0 1 2 3 4 5 6 7
theorem qI{a b:IntKind}(h:Nat.beq (oW a) (oW b)=true):a=b:=by have:=aU h;cases a<;>cases b<;>first | rfl | (simp[oW] at this)
def frc(m:Nat)(k:Nat->Option ρ):Option ρ:=@Nat.rec (fun _=>Option ρ) (k 0) (fun p _=>k (Nat.succ p)) m
theorem iV(m:Nat)(k:Nat->Option ρ):frc m k=k m:=by cases m<;>rfl
def lW{σ:Type}(f:Nat->σ)(g:Nat->σ)(i:Int):σ:=@Int.rec (fun _=>σ) f g i
def Qm(m max:Nat)(x:Nat->Int)(k:Int->Option ρ)(nA:Option ρ):Option ρ:=@Bool.rec (fun _=>Option ρ) nA (frc m fun m=>k (x m)) (Nat.ble m max)
def Fg(w:Nat)(i:Int)(k:Int->Option ρ)(nA:Option ρ):Option ρ:=lW (fun m=>frc (Nat.mod m w) fun m=>k (Int.ofNat m)) (fun _=>nA) i
def Fh(max:Nat)(i:Int)(k:Int->Option ρ)(nA:Option ρ):Option ρ:=lW (fun m=>Qm m max Int.ofNat k nA) (fun m=>Qm m max Int.negSucc k nA) i
def agJ:IntKind->Int->(Int->Option ρ)->Option ρ->Option ρ:=
 @IntKind.rec (fun _=>Int->(Int->Option ρ)->Option ρ->Option ρ) (Fh 127) (Fh 32767) (Fh 2147483647) (Fh 9223372036854775807) (Fg 256) (Fg 65536) (Fg 4294967296) (Fg 18446744073709551616)
def pO(d:IntKind)(i:Int)(k:Int->Option ρ):Option ρ:=agJ d i k (k (d.wrap i))
theorem Lu{m max:Nat}{x:Nat->Int}{k:Int->Option ρ}{nA:Option ρ}(h:m<=max->k (x m)=nA):Qm m max x k nA=nA:=by
 unfold Qm;cases hb:Nat.ble m max with
 | false=>rfl
 | true=>simp only[iV];exact h (bM hb)
theorem nR(d:IntKind)(i:Int)(k:Int->Option ρ):pO d i k=k (d.wrap i):=by
 unfold pO;have hS:∀ (max:Nat) (b:Int),b=((max+1:Nat):Int)->(∀ j:Int,d.wrap j=let m:=j%(b*2);if m>=b then m - b*2 else m)->Fh max i k (k (d.wrap i))=k (d.wrap i):=fun max b hb hw=>by
  unfold Fh lW;cases i with
  | ofNat m=>
   refine Lu fun h=>?_;congr 1;rw[hw];simp only[cF];have e:((m:Nat):Int)%(b*2)=m:=Int.emod_eq_of_lt om om;rw[e,if_neg om]
  | negSucc m=>
   refine Lu fun h=>?_;congr 1;rw[hw];have e:Int.negSucc m%(b*2)=Int.negSucc m+b*2:=by rw[<- Int.add_emod_right];exact Int.emod_eq_of_lt om om
   simp only[e];rw[if_pos om];omega
 have hU:∀ (w:Nat),0 < w->(∀ j:Int,d.wrap j=j%(w:Int))->Fg w i k (k (d.wrap i))=k (d.wrap i):=fun w h0 hw=>by
  unfold Fg lW;cases i with
  | ofNat m=>
   simp only[iV];rw[hw];rfl
  | negSucc m=>rfl
 cases d with
 | i8=>exact hS 127 128 rfl fun j=>by simp[IntKind.wrap,IntKind.signed,IntKind.bits]
 | i16=>exact hS 32767 32768 rfl fun j=>by simp[IntKind.wrap,IntKind.signed,IntKind.bits]
 | i32=>exact hS 2147483647 2147483648 rfl fun j=>by simp[IntKind.wrap,IntKind.signed,IntKind.bits]
 | i64=>exact hS 9223372036854775807 9223372036854775808 rfl fun j=>by simp[IntKind.wrap,IntKind.signed,IntKind.bits]
 | u8=>exact hU 256 om fun j=>by simp[IntKind.wrap,IntKind.signed,IntKind.bits]
 | u16=>exact hU 65536 om fun j=>by simp[IntKind.wrap,IntKind.signed,IntKind.bits]
 | u32=>exact hU 4294967296 om fun j=>by simp[IntKind.wrap,IntKind.signed,IntKind.bits]
 | u64=>exact hU 18446744073709551616 om fun j=>by simp[IntKind.wrap,IntKind.signed,IntKind.bits]
def N8(f:Nat->Nat->Option ρ)(e:Option ρ)(a b:Int):Option ρ:=lW (fun m=>lW (fun n=>f m n) (fun _=>e) b) (fun _=>e) a
theorem rQ{f:Nat->Nat->Option ρ}{e:Option ρ}{a b:Int}(h:∀ m n:Nat,a=m->b=n->f m n=e):N8 f e a b=e:=by
 unfold N8 lW;cases a with
 | ofNat m=>cases b with
  | ofNat n=>exact h m n rfl rfl
  | negSucc n=>rfl
 | negSucc m=>rfl
def ltB(a b:Int):Bool:=lW (fun m=>lW (fun n=>Nat.ble (Nat.succ m) n) (fun _=>false) b) (fun m=>lW (fun _=>true) (fun n=>Nat.ble (Nat.succ n) m) b) a
theorem XV(a b:Int):ltB a b=decide (a < b):=by unfold ltB lW;rw[cy,decide_eq_true_eq];cases a<;>cases b<;>simp only[Nat.ble_eq,aO,false_iff,true_iff,cF]<;>omega
def leB(a b:Int):Bool:=lW (fun m=>lW (fun n=>Nat.ble m n) (fun _=>false) b) (fun m=>lW (fun _=>true) (fun n=>Nat.ble n m) b) a
theorem ya(a b:Int):leB a b=decide (a<=b):=by unfold leB lW;rw[cy,decide_eq_true_eq];cases a<;>cases b<;>simp only[Nat.ble_eq,aO,false_iff,true_iff,cF]<;>omega
def eqB(a b:Int):Bool:=lW (fun m=>lW (fun n=>Nat.beq m n) (fun _=>false) b) (fun m=>lW (fun _=>false) (fun n=>Nat.beq m n) b) a
theorem CY(a b:Int):eqB a b=(a==b):=by unfold eqB lW;rw[cy,beq_iff_eq];cases a<;>cases b<;>simp only[Nat.beq_eq,aO,false_iff,cF]<;>omega
abbrev qJ(ρ:Type):=IntKind->Int->Int->(Value->Option ρ)->Option ρ->Option ρ
def agK:qJ ρ:=fun d a b k _=>pO d (Int.add a b) fun i=>k (.int d i)
def agL:qJ ρ:=fun d a b k _=>pO d (Int.sub a b) fun i=>k (.int d i)
def agM:qJ ρ:=fun d a b k _=>pO d (Int.mul a b) fun i=>k (.int d i)
def agN:qJ ρ:=fun d a b k e=>N8 (fun m n=>@Nat.rec (fun _=>Option ρ) e (fun p _=>pO d (Int.ofNat (Nat.div m (Nat.succ p))) fun i=>k (.int d i)) n) e a b
def agO:qJ ρ:=fun d a b k e=>N8 (fun m n=>@Nat.rec (fun _=>Option ρ) e (fun p _=>frc (Nat.mod m (Nat.succ p)) fun r=>k (.int d (Int.ofNat r))) n) e a b
def Qn:IntKind->Nat:=@IntKind.rec (fun _=>Nat) 256 65536 4294967296 18446744073709551616 256 65536 4294967296 18446744073709551616
def N9(f:Nat->Nat->Nat):qJ ρ:=fun d a b k e=>N8 (fun m n=>pO d (Int.ofNat (f (Nat.mod m (Qn d)) (Nat.mod n (Qn d)))) fun i=>k (.int d i)) e a b
def XW:IntKind->Nat:=@IntKind.rec (fun _=>Nat) 8 16 32 64 8 16 32 64
def aaG(m n:Nat):Nat:=@Bool.rec (fun _=>Nat) n m (Nat.ble m n)
def agP:qJ ρ:=fun d a b k e=>N8 (fun m n=>pO d (Int.ofNat (Nat.mul m (Nat.pow 2 (aaG n (XW d))))) fun i=>k (.int d i)) e a b
def agQ:qJ ρ:=fun d a b k e=>N8 (fun m n=>frc (Nat.div m (Nat.pow 2 (aaG n (XW d)))) fun r=>k (.int d (Int.ofNat r))) e a b
def ab9:qJ ρ:=fun _ _ _ _ e=>e
def zH(f:Int->Int->Bool):qJ ρ:=fun _ a b k _=>k (.bool (f a b))
def adO:BinOp->qJ ρ:=@BinOp.rec (fun _=>qJ ρ) agK agL agM agN agO (N9 Nat.land) (N9 Nat.lor) (N9 Nat.xor) agP agQ ab9 (zH eqB) (zH fun a b=>!(eqB a b)) (zH ltB) (zH leB) (zH fun a b=>ltB b a) (zH fun a b=>leB b a)
def HG:BinOp->Bool:=@BinOp.rec (fun _=>Bool) false false false false false false false false true true false false false false false false false
def XX(op:BinOp)(v w:Value)(k:Value->Option ρ):Option ρ:=
 su v (fun d a=>su w (fun d' b=>@Bool.rec (fun _=>Option ρ) (ob (gT op v w) k) (adO op d a b k (ob (gT op v w) k)) (or (Nat.beq (oW d) (oW d')) (HG op))) (ob (gT op v w) k)) (ob (gT op v w) k)
theorem XY(d:IntKind):Qn d=2 ^ d.bits:=by cases d<;>rfl
theorem wJ(d:IntKind):XW d=d.bits:=by cases d<;>rfl
theorem AI(m n:Nat):aaG m n=min m n:=by
 unfold aaG;cases h:Nat.ble m n with
 | false=>
  have:¬ m<=n:=fun hl=>by rw[bV hl] at h;cases h
  simp only[];omega
 | true=>have:=bM h;simp only[];omega
theorem HH{op:BinOp}{f:Nat->Nat->Nat}{d:IntKind}(g:BitVec d.bits->BitVec d.bits->BitVec d.bits)(hg:∀ x y,(g x y).toNat=f x.toNat y.toNat)
  (h:∀ a b,gT op (.int d a) (.int d b)=some (.int d (d.wrap ((g (BitVec.ofInt d.bits a) (BitVec.ofInt d.bits b)).toNat)))) (a b:Int) (k:Value->Option ρ) :
  N9 f d a b k ((gT op (.int d a) (.int d b)).bind k)=(gT op (.int d a) (.int d b)).bind k:=by
 refine rQ fun m n hm hn=>?_;subst hm;subst hn;simp only[nR];rw[h,ak,hg];have e:∀ m:Nat,(BitVec.ofInt d.bits (m:Int)).toNat=Nat.mod m (Qn d):=fun m=>by rw[XY,BitVec.toNat_ofInt];rfl
 rw[e,e];rfl
theorem aaH(op:BinOp)(d:IntKind)(a b:Int)(k:Value->Option ρ):adO op d a b k ((gT op (.int d a) (.int d b)).bind k)=(gT op (.int d a) (.int d b)).bind k:=by
 cases op with
 | add=>show pO d (Int.add a b) _=_;rw[nR,Ja];rfl
 | sub=>show pO d (Int.sub a b) _=_;rw[nR,Jb];rfl
 | mul=>show pO d (Int.mul a b) _=_;rw[nR,Jc];rfl
 | quo=>
  refine rQ fun m n hm hn=>?_;subst hm;subst hn;cases n with
  | zero=>rfl
  | succ p=>
   show pO d _ _=_;rw[nR,Jj,if_neg om];rfl
 | rem=>
  refine rQ fun m n hm hn=>?_;subst hm;subst hn;cases n with
  | zero=>rfl
  | succ p=>
   show frc _ _=_;rw[iV,Jk,if_neg om];rfl
 | and=>exact HH (·&&&·) (fun x y=>rfl) (fun a b=>Jl) a b k
 | or=>exact HH (·|||·) (fun x y=>rfl) (fun a b=>OY) a b k
 | xor=>exact HH (· ^^^ ·) (fun x y=>rfl) (fun a b=>Jm) a b k
 | shl=>
  refine rQ fun m n hm hn=>?_;subst hm;subst hn;simp only[nR];rw[BY,if_neg om,AI,wJ];simp
 | shr=>
  refine rQ fun m n hm hn=>?_;subst hm;subst hn;simp only[iV];rw[BZ,if_neg om,AI,wJ];have:Int.fdiv (m:Int) (2 ^ min n d.bits)=((m / 2 ^ min n d.bits:Nat):Int):=by rw[cZ _ (Int.le_of_lt (Int.pow_pos om))];simp
  simp only[dD,ak,this];rfl
 | andNot=>rfl
 | eql=>show k (.bool (eqB a b))=_;rw[Jd,CY];rfl
 | neq=>show k (.bool (!(eqB a b)))=_;rw[Je,CY];rfl
 | lss=>show k (.bool (ltB a b))=_;rw[Jf,XV];rfl
 | leq=>show k (.bool (leB a b))=_;rw[Jg,ya];rfl
 | gtr=>show k (.bool (ltB b a))=_;rw[Jh,XV];rfl
 | geq=>show k (.bool (leB b a))=_;rw[Ji,ya];rfl
theorem aaI(op:BinOp)(v w:Value)(k:Value->Option ρ):XX op v w k=(gT op v w).bind k:=by
 unfold XX;simp only[oU];cases v<;>try rfl
 cases w<;>try rfl
 rename_i d a d' b;simp only[oV];cases hs:HG op with
 | true=>
  rw[Bool.or_true];simp only[];cases op<;>first | (simp[HG] at hs;done) | skip
  ·refine rQ fun m n hm hn=>?_;subst hm;subst hn;simp only[nR];rw[BY,if_neg om,AI,wJ];simp
  ·refine rQ fun m n hm hn=>?_;subst hm;subst hn;simp only[iV];rw[BZ,if_neg om,AI,wJ];have:Int.fdiv (m:Int) (2 ^ min n d.bits)=((m / 2 ^ min n d.bits:Nat):Int):=by rw[cZ _ (Int.le_of_lt (Int.pow_pos om))];simp
   simp only[dD,ak,this];rfl
 | false=>
  rw[Bool.or_false];cases hb:Nat.beq (oW d) (oW d') with
  | false=>rfl
  | true=>
   have:=qI hb;subst this;exact aaH op d a b k
end
end AM
namespace AM
open Go
noncomputable section
variable{ρ:Type}
def wK{α:Type} : List α->Nat->(α->Option ρ)->Option ρ:=@List.rec α (fun _=>Nat->(α->Option ρ)->Option ρ) (fun _ _=>none) (fun a _ ih i k=>@Nat.rec (fun _=>Option ρ) (k a) (fun p _=>ih p k) i)
theorem oq{α:Type} : ∀ (l:List α) (i:Nat) (k:α->Option ρ),wK l i k=(l[i]?).bind k
 | [],i,k=>by simp[wK]
 | a::l,0,k=>rfl
 | a::l,i+1,k=>by show wK l i k=_;rw[oq l,cJ]
def Oa{α:Type}(v:α):List α->Nat->(List α->Option ρ)->Option ρ->Option ρ:=@List.rec α (fun _=>Nat->(List α->Option ρ)->Option ρ->Option ρ) (fun _ _ e=>e) (fun a l ih i k e=>@Nat.rec (fun _=>Option ρ) (k (v::l)) (fun p _=>ih p (fun l'=>k (a::l')) e) i)
theorem wL{α:Type}(v:α):∀ (l:List α) (i:Nat) (k:List α->Option ρ) (e:Option ρ),Oa v l i k e=if i < l.length then k (l.set i v) else e
 | [],i,k,e=>by simp[Oa]
 | a::l,0,k,e=>by show k (v::l)=_;simp
 | a::l,i+1,k,e=>by show Oa v l i (fun l'=>k (a::l')) e=_;rw[wL v l];simp only[az,cV,Nat.add_lt_add_iff_right]
def zI(b:Nat):List Nat->Bool:=@List.rec Nat (fun _=>Bool) false (fun a _ ih=>@Bool.rec (fun _=>Bool) ih true (Nat.beq b a))
theorem mS(b:Nat):∀ l:List Nat,zI b l=l.contains b
 | []=>rfl
 | a::l=>by
  show @Bool.rec (fun _=>Bool) (zI b l) true (Nat.beq b a)=_;rw[List.contains_cons];cases h:Nat.beq b a with
  | true=>have:=aU h;subst this;simp
  | false=>
   have:(b==a)=false:=by rw[bL];intro hb;have:=eq_of_beq hb;subst this;rw[dJ] at h;cases h
   rw[this,fy];exact mS b l
def CZ{α:Type} : List α->Nat->Bool:=@List.rec α (fun _=>Nat->Bool) (fun _=>true) (fun _ _ ih n=>@Nat.rec (fun _=>Bool) false (fun p _=>ih p) n)
theorem yc{α:Type} : ∀ (l:List α) (n:Nat),CZ l n=decide (l.length<=n)
 | [],n=>by simp[CZ]
 | a::l,0=>by show false=_;simp
 | a::l,n+1=>by show CZ l n=_;rw[yc l];simp
def jI{α:Type} : List α->Nat:=@List.rec α (fun _=>Nat) 0 (fun _ _ ih=>Nat.succ ih)
theorem iz{α:Type} : ∀ l:List α,jI l=l.length
 | []=>rfl
 | a::l=>by show Nat.succ (jI l)=_;rw[iz l];rfl
def Lv{α:Type} : List α->Nat->(List α->Option ρ)->Option ρ:=@List.rec α (fun _=>Nat->(List α->Option ρ)->Option ρ) (fun off k=>@Nat.rec (fun _=>Option ρ) (k []) (fun _ _=>none) off) (fun a l ih off k=>@Nat.rec (fun _=>Option ρ) (k (a::l)) (fun p _=>ih p k) off)
theorem C0{α:Type} : ∀ (l:List α) (n:Nat) (k:List α->Option ρ),Lv l n k=if n<=l.length then k (l.drop n) else none
 | [],0,k=>rfl
 | [],n+1,k=>by show none=_;simp
 | a::l,0,k=>by show k (a::l)=_;simp
 | a::l,n+1,k=>by show Lv l n k=_;rw[C0 l];simp only[az,Nat.add_le_add_iff_right,cC]
def C1{α:Type} : List α->Nat->(List α->Option ρ)->Option ρ:=@List.rec α (fun _=>Nat->(List α->Option ρ)->Option ρ) (fun off k=>@Nat.rec (fun _=>Option ρ) (k []) (fun _ _=>none) off) (fun a l ih off k=>@Nat.rec (fun _=>Option ρ) (k []) (fun p _=>ih p fun l'=>k (a::l')) off)
theorem tE{α:Type} : ∀ (l:List α) (n:Nat) (k:List α->Option ρ),C1 l n k=if n<=l.length then k (l.take n) else none
 | [],0,k=>rfl
 | [],n+1,k=>by show none=_;simp
 | a::l,0,k=>by show k []=_;simp
 | a::l,n+1,k=>by show C1 l n (fun l'=>k (a::l'))=_;rw[tE l];simp only[az,Nat.add_le_add_iff_right,cQ]
theorem rR:∀ (vs cs:List Value) (a:Value) (off:Nat),putAt (a::cs) (off+1) vs=a::putAt cs off vs
 | [],cs,a,off=>rfl
 | v::vs,cs,a,off=>by simp only[putAt,cV];exact rR vs _ a (off+1)
def Tv:List Value->List Value->(List Value->Option ρ)->Option ρ:=@List.rec Value (fun _=>List Value->(List Value->Option ρ)->Option ρ) (fun cs k=>k cs) (fun v _ ih cs k=>@List.rec Value (fun _=>Option ρ) none (fun _ cs' _=>ih cs' fun l=>k (v::l)) cs)
theorem HI:∀ (vs cs:List Value) (k:List Value->Option ρ),Tv vs cs k=if vs.length<=cs.length then k (putAt cs 0 vs) else none
 | [],cs,k=>by show k cs=_;simp[putAt]
 | v::vs,[],k=>by show none=_;simp
 | v::vs,c::cs,k=>by show Tv vs cs (fun l=>k (v::l))=_;rw[HI vs cs];simp only[az,Nat.add_le_add_iff_right,putAt,dP,rR]
def pmK(vs:List Value):List Value->Nat->(List Value->Option ρ)->Option ρ:=@List.rec Value (fun _=>Nat->(List Value->Option ρ)->Option ρ) (fun off k=>@Nat.rec (fun _=>Option ρ) (Tv vs [] k) (fun _ _=>none) off) (fun a l ih off k=>@Nat.rec (fun _=>Option ρ) (Tv vs (a::l) k) (fun p _=>ih p fun l'=>k (a::l')) off)
theorem XZ(vs:List Value):∀ (cs:List Value) (off:Nat) (k:List Value->Option ρ),pmK vs cs off k=if off+vs.length<=cs.length then k (putAt cs off vs) else none
 | [],0,k=>by show Tv vs [] k=_;rw[HI];simp
 | [],off+1,k=>by show none=_;rw[if_neg (by simp)]
 | a::l,0,k=>by show Tv vs (a::l) k=_;rw[HI];simp
 | a::l,off+1,k=>by
  show pmK vs l off (fun l'=>k (a::l'))=_;rw[XZ vs l];have:(off+1+vs.length<=(a::l).length)↔(off+vs.length<=l.length):=by simp only[az];omega
  simp only[this,rR]
theorem zu:∀ (vs cs:List Value),vs.length=cs.length->putAt cs 0 vs=vs
 | [],[],_=>rfl
 | [],c::cs,h=>by simp at h
 | v::vs,[],h=>by simp at h
 | v::vs,c::cs,h=>by show putAt ((c::cs).set 0 v) 1 vs=_;rw[dP,rR,zu vs cs (by simpa using h)]
def adP(vs cs:List Value)(off:Nat)(k:List Value->Option ρ):Option ρ:=@Bool.rec (fun _=>Option ρ) (pmK vs cs off k) (k vs) (and (Nat.beq off 0) (Nat.beq (jI vs) (jI cs)))
theorem aaJ(vs cs:List Value)(off:Nat)(k:List Value->Option ρ):adP vs cs off k=if off+vs.length<=cs.length then k (putAt cs off vs) else none:=by
 unfold adP;cases h:and (Nat.beq off 0) (Nat.beq (jI vs) (jI cs)) with
 | false=>exact XZ vs cs off k
 | true=>
  rw[au] at h;have h1:=aU h.1;have h2:=aU h.2;rw[iz,iz] at h2;subst h1;rw[if_pos om,zu vs cs h2]
def Qo{α:Type}(b:α):List α->(List α->Option ρ)->Option ρ:=@List.rec α (fun _=>(List α->Option ρ)->Option ρ) (fun k=>k [b]) (fun a _ ih k=>ih fun l=>k (a::l))
theorem C2{α:Type}(b:α):∀ (l:List α) (k:List α->Option ρ),Qo b l k=k (l++[b])
 | [],k=>rfl
 | a::l,k=>by show Qo b l (fun l=>k (a::l))=_;rw[C2 b l];rfl
def stE(σ:St)(f:List Blk->Nat->List Nat->List Nat->Option ρ):Option ρ:=@St.rec (fun _=>Option ρ) f σ
theorem jU(σ:St)(f:List Blk->Nat->List Nat->List Nat->Option ρ):stE σ f=f σ.heap σ.lock σ.hid σ.fA:=by cases σ;rfl
def HJ:Blk->(Nat->Bool->List Value->Option ρ)->Option ρ:=@Blk.rec (fun _=>(Nat->Bool->List Value->Option ρ)->Option ρ) (fun g pl cs k=>k g pl cs) (fun _ _=>none) (fun _=>none)
def Lw(s:Option Nat)(g:Nat):Bool:=@Option.rec Nat (fun _=>Bool) false (fun s=>Nat.beq s g) s
theorem wM(s:Option Nat)(g:Nat):Lw s g=decide (s=some g):=by
 cases s with
 | none=>simp[Lw]
 | some s=>
  show Nat.beq s g=_;rw[cy];simp
def DR(hp:List Blk)(H:List Nat)(a:Addr)(k:Nat->Bool->List Value->Option ρ):Option ρ:=
 @Bool.rec (fun _=>Option ρ) (wK hp a.block fun b=>HJ b fun g pl cs=>@Bool.rec (fun _=>Option ρ) none (k g pl cs) (Lw a.spot g)) none (zI a.block H)
theorem Qp(σ:St)(a:Addr)(k:Bool->List Value->Option ρ):DR σ.heap σ.hid a (fun _=>k)=(σ.blk a).bind fun r=>k r.1 r.2:=by
 unfold DR St.blk;rw[mS];cases σ.hid.contains a.block with
 | true=>rfl
 | false=>
  simp only[aO,if_false,oq];cases σ.heap[a.block]? with
  | none=>rfl
  | some b=>
   cases b with
   | cells g pl cs=>
    simp only[ak,wM];show @Bool.rec (fun _=>Option ρ) none (k pl cs) (decide (a.spot=some g))=_;by_cases h:a.spot=some g
    ·simp[h]
    ·simp[h]
   | _=>rfl
def rdK(cs:List Value)(off:Nat)(n:Option Nat)(k:Value->Option ρ):Option ρ:=
 @Option.rec Nat (fun _=>Option ρ) (wK cs off k) (fun n=>@Bool.rec (fun _=>Option ρ) (Lv cs off fun l=>C1 l n fun l=>k (.agg (Array.mk l))) (k (.agg (Array.mk cs))) (and (Nat.beq off 0) (Nat.beq (jI cs) n))) n
theorem HK(cs:List Value)(off:Nat)(n:Option Nat)(k:Value->Option ρ):rdK cs off n k=(gI cs off n).bind k:=by
 cases n with
 | none=>show wK cs off k=_;rw[oq];rfl
 | some n=>
  show @Bool.rec (fun _=>Option ρ) _ _ (and (Nat.beq off 0) (Nat.beq (jI cs) n))=_;cases h:and (Nat.beq off 0) (Nat.beq (jI cs) n) with
  | false=>
   show(Lv cs off fun l=>C1 l n fun l=>k (.agg (Array.mk l)))=_;simp only[C0,tE,gI,dL];by_cases h1:off+n<=cs.length
   ·rw[if_pos om,if_pos om,if_pos h1];rfl
   ·rw[if_neg h1];by_cases h2:off<=cs.length
    ·rw[if_pos h2,if_neg om];rfl
    ·rw[if_neg h2];rfl
  | true=>
   rw[au] at h;have h1:=aU h.1;have h2:=aU h.2;rw[iz] at h2;subst h1;subst h2;simp only[gI,aX,av,if_true,ak,cz,List.take_length]
def Qq(n:Option Nat)(v:Value)(σ:St)(k:Value->St->Option ρ):Option ρ:=
 stE σ fun hp L H d=>xZ v (fun a=>DR hp H a fun _ _ cs=>rdK cs a.off n fun u=>k u (St.mk hp L H d)) none
theorem ot(v:Value)(f:Addr->Option ρ):xZ v f none=match v with | .pointer (some a)=>f a | _=>none:=by
 cases v<;>first
  | rfl
  | (rename_i a;cases a<;>rfl)
theorem X7(fz:fD)(n:Option Nat)(x:Operand)(fr:Fr)(σ:St)(k:Value->St->Option ρ):evK x fr (fun v=>Qq n v σ k)=(aop fz (.load n x) fr σ).bind fun r=>k r.1 r.2:=by
 rw[iU,Jv];cases ev fr x with
 | none=>rfl
 | some v=>
  simp only[ak,Qq,jU,ot];cases v<;>try rfl
  rename_i a;cases a with
  | none=>rfl
  | some a=>
   simp only[Cb];rw[Qp σ a (fun _ cs=>rdK cs a.off n fun u=>k u ⟨σ.heap,σ.lock,σ.hid,σ.fA⟩)];cases σ.blk a with
   | none=>rfl
   | some r=>
    obtain⟨pl,cs⟩:=r;simp only[ak,yR,HK];cases gI cs a.off n<;>rfl
def scB:Value->Bool:=
 @Value.rec (fun _=>Bool) (fun _=>PUnit) (fun _=>PUnit)
  (fun _=>true) (fun _ _=>true) (fun _ _=>false) (fun _ _ _=>false) (fun _=>true) (fun a=>@Option.rec Addr (fun _=>Bool) true (fun _=>false) a) (fun a l c=>sc (.slice a l c)) (fun r=>sc (.map r)) (fun _=>false) (fun f fi ca _ _=>sc (.func f fi ca)) true (fun t v _=>sc (.iface t v)) true (fun _ _=>false) (fun _ _=>false) (fun _ _=>⟨⟩) ⟨⟩ (fun _ _ _ _=>⟨⟩)
theorem X9(v:Value):scB v=sc v:=by
 cases v<;>first
  | rfl
  | (rename_i a;cases a<;>rfl)
def vr:Value->Bool:=
 @Value.rec (fun _=>Bool) (fun _=>PUnit) (fun _=>PUnit)
  (fun _=>true) (fun _ _=>true) (fun _ _=>false) (fun _ _ _=>false) (fun _=>true) (fun _=>true) (fun a l c=>@Option.rec Addr (fun _=>Bool) (fY (.slice none l c)) (fun _=>true) a) (fun r=>fY (.map r)) (fun r=>fY (.chan r)) (fun f fi ca _ _=>fY (.func f fi ca)) true (fun t v _=>fY (.iface t v)) true (fun _ _=>false) (fun _ _=>false) (fun _ _=>⟨⟩) ⟨⟩ (fun _ _ _ _=>⟨⟩)
theorem Fi(v:Value):vr v=fY v:=by
 cases v<;>first
  | rfl
  | (rename_i a;cases a<;>rfl)
  | (rename_i a l c;cases a<;>rfl)
def Tw:Value->Bool:=
 @Value.rec (fun _=>Bool) (fun _=>PUnit) (fun _=>PUnit)
  (fun _=>false) (fun _ _=>false) (fun _ _=>false) (fun _ _ _=>false) (fun _=>false) (fun _=>false) (fun _ _ _=>false) (fun _=>false) (fun _=>false) (fun _ _ _ _ _=>false) false (fun _ _ _=>false) false (fun _ _=>true) (fun _ _=>false) (fun _ _=>⟨⟩) ⟨⟩ (fun _ _ _ _=>⟨⟩)
theorem Ob{v:Value}(h:Tw v=false):cellsOf v=[v]:=by
 cases v<;>first
  | rfl
  | (simp[Tw] at h)
def fP{α:Type}(c:Bool)(x y:α):α:=@Bool.rec (fun _=>α) y x c
def HL(hp:List Blk)(L:Nat)(H d:List Nat)(a:Addr)(v:Value)(k:St->Option ρ):Option ρ:=
 fP (Nat.ble L a.block) (DR hp H a fun g pl cs=>
  fP (and (vr v) (or (not pl) (scB v)))
   (Oa v cs a.off (fun cs'=>Oa (.cells g pl cs') hp a.block (fun hp'=>k (St.mk hp' L H (fP (or (scB v) (zI a.block d)) d (a.block::d)))) none) none) none) none
theorem Oc(σ:St)(a:Addr)(v:Value)(k:St->Option ρ):HL σ.heap σ.lock σ.hid σ.fA a v k=(σ.write a [v]).bind k:=by
 unfold HL St.write fP;by_cases hL:a.block < σ.lock
 ·rw[if_pos hL];have:Nat.ble σ.lock a.block=false:=by rw[bL];intro h;have:=bM h;omega
  rw[this];rfl
 ·rw[if_neg hL];have:Nat.ble σ.lock a.block=true:=bV om;rw[this];simp only[];unfold DR St.blk;rw[mS a.block σ.hid];cases σ.hid.contains a.block with
  | true=>rfl
  | false=>
   simp only[aO,if_false,oq];cases hb:σ.heap[a.block]? with
   | none=>rfl
   | some b=>
    have hlt:a.block < σ.heap.length:=(af.1 hb).1;cases b with
    | cells g pl cs=>
     simp only[ak,wM];show @Bool.rec (fun _=>Option ρ) none _ (decide (a.spot=some g))=_;by_cases h:a.spot=some g
     ·simp only[h,decide_true,if_true,ak,List.length_singleton,ct,dS,dx];rw[Fi,X9,wL];by_cases hoff:a.off < cs.length
      ·rw[if_pos hoff];have h1:decide (a.off+1<=cs.length)=true:=decide_eq_true om;rw[h1,dX];cases hc:(fY v&&(!pl||sc v)) with
       | false=>rfl
       | true=>
        simp only[if_true,hb,wL,if_pos hlt,ak,putAt,gm,ct,dS,dx,mS];cases(sc v||σ.fA.contains a.block)<;>rfl
      ·rw[if_neg hoff];have h1:decide (a.off+1<=cs.length)=false:=decide_eq_false om;rw[h1];cases(fY v&&(!pl||sc v))<;>rfl
     ·simp[h]
    | _=>rfl
def qK{α:Type}(f:α->Bool):List α->Bool:=@List.rec α (fun _=>Bool) true (fun a _ ih=>@Bool.rec (fun _=>Bool) false ih (f a))
theorem pP{α:Type}(f:α->Bool):∀ l:List α,qK f l=l.all f
 | []=>rfl
 | a::l=>by show @Bool.rec (fun _=>Bool) false (qK f l) (f a)=_;rw[ct,pP f l];cases f a<;>rfl
theorem rS:vr=fY:=funext Fi
theorem AJ:scB=sc:=funext X9
def Oe(hp:List Blk)(L:Nat)(H d:List Nat)(a:Addr)(vs:List Value)(k:St->Option ρ):Option ρ:=
 fP (Nat.ble L a.block) (DR hp H a fun g pl cs=>
  fP (and (qK vr vs) (or (not pl) (qK scB vs)))
   (adP vs cs a.off (fun cs'=>Oa (.cells g pl cs') hp a.block (fun hp'=>k (St.mk hp' L H (fP (or (qK scB vs) (zI a.block d)) d (a.block::d)))) none)) none) none
theorem Tx(σ:St)(a:Addr)(vs:List Value)(k:St->Option ρ):Oe σ.heap σ.lock σ.hid σ.fA a vs k=(σ.write a vs).bind k:=by
 unfold Oe St.write fP;by_cases hL:a.block < σ.lock
 ·rw[if_pos hL];have:Nat.ble σ.lock a.block=false:=by rw[bL];intro h;have:=bM h;omega
  rw[this];rfl
 ·rw[if_neg hL];have:Nat.ble σ.lock a.block=true:=bV om;rw[this];simp only[];unfold DR St.blk;rw[mS a.block σ.hid];cases σ.hid.contains a.block with
  | true=>rfl
  | false=>
   simp only[aO,if_false,oq];cases hb:σ.heap[a.block]? with
   | none=>rfl
   | some b=>
    have hlt:a.block < σ.heap.length:=(af.1 hb).1;cases b with
    | cells g pl cs=>
     simp only[ak,wM];show @Bool.rec (fun _=>Option ρ) none _ (decide (a.spot=some g))=_;by_cases h:a.spot=some g
     ·simp only[h,decide_true,if_true,ak];rw[rS,AJ,pP,pP,aaJ];by_cases hoff:a.off+vs.length<=cs.length
      ·rw[if_pos hoff];have h1:decide (a.off+vs.length<=cs.length)=true:=decide_eq_true hoff;rw[h1,dX];cases hc:(vs.all fY&&(!pl||vs.all sc)) with
       | false=>rfl
       | true=>
        simp only[if_true,hb,wL,if_pos hlt,ak,gm,mS];cases(vs.all sc||σ.fA.contains a.block)<;>rfl
      ·rw[if_neg hoff];have h1:decide (a.off+vs.length<=cs.length)=false:=decide_eq_false hoff;rw[h1];cases(vs.all fY&&(!pl||vs.all sc))<;>rfl
     ·simp[h]
    | _=>rfl
def yd(n:Nat)(p v:Value)(σ:St)(k:Value->St->Option ρ):Option ρ:=
 fP (or (Tw v) (not (Nat.beq n 1)))
  (stE σ fun hp L H d=>xZ p (fun a=>fP (Nat.beq (jI (cellsOf v)) n) (Oe hp L H d a (cellsOf v) fun σ'=>k (.tuple #[]) σ') none) none)
  (stE σ fun hp L H d=>xZ p (fun a=>HL hp L H d a v fun σ'=>k (.tuple #[]) σ') none)
theorem Ty(fz:fD)(n:Nat)(x y:Operand)(fr:Fr)(σ:St)(k:Value->St->Option ρ):evK y fr (fun v=>evK x fr fun p=>yd n p v σ k)=(aop fz (.store n x y) fr σ).bind fun r=>k r.1 r.2:=by
 rw[iU,Er];cases ev fr y with
 | none=>cases ev fr x<;>(try rename_i v;cases v<;>(try rename_i a;cases a<;>rfl)<;>rfl)<;>rfl
 | some v=>
  simp only[ak,iU];cases ev fr x with
  | none=>rfl
  | some p=>
   simp only[ak];cases p<;>try (simp only[yd,jU,ot,fP,xO];cases(or (Tw v) (not (Nat.beq n 1)))<;>rfl)
   rename_i a;cases a with
   | none=>simp only[yd,jU,ot,fP,xO];cases(or (Tw v) (not (Nat.beq n 1)))<;>rfl
   | some a=>
    rw[yS];unfold yd;cases hc:or (Tw v) (not (Nat.beq n 1)) with
    | true=>
     simp only[fP,ot,jU,Tx];cases hn:Nat.beq (jI (cellsOf v)) n with
     | true=>
      have:=aU hn;rw[iz] at this;rw[if_pos this];cases σ.write a (cellsOf v)<;>rfl
     | false=>
      have:¬ (cellsOf v).length=n:=fun e=>by rw[iz,e,dJ] at hn;cases hn
      rw[if_neg this];rfl
    | false=>
     rw[Bool.or_eq_false_iff] at hc;obtain⟨h1,h2⟩:=hc;have hn:n=1:=by
      have:Nat.beq n 1=true:=by cases hq:Nat.beq n 1<;>simp[hq] at h2 ⊢
      exact aU this
     subst hn;simp only[fP,jU,ot,Oc,Ob h1,List.length_singleton,if_true];cases σ.write a [v]<;>rfl
abbrev OpF(ρ:Type):=fD->Fr->St->(Value->St->Option ρ)->Option ρ
def jg(o:AOp):OpF ρ:=fun fz fr σ k=>ob (aop fz o fr σ) fun r=>k r.1 r.2
def Ya(f:Value->Option Value)(x:Operand):OpF ρ:=fun _ fr σ k=>evK x fr fun v=>ob (f v) fun u=>k u σ
def aaK(f:Value->Value->Option Value)(x y:Operand):OpF ρ:=fun _ fr σ k=>evK x fr fun v=>evK y fr fun w=>ob (f v w) fun u=>k u σ
def Yb(d:IntKind)(x:Operand):OpF ρ:=fun _ fr σ k=>evK x fr fun v=>su v (fun _ n=>pO d n fun i=>k (.int d i) σ) none
def DS(n:Nat)(i:Value)(k:Nat->Option ρ):Option ρ:=su i (fun _ i=>lW (fun m=>fP (Nat.ble (Nat.succ m) n) (frc m k) none) (fun _=>none) i) none
theorem HM(n:Nat)(i:Value)(k:Nat->Option ρ):DS n i k=(uR n i).bind k:=by
 unfold DS;cases i<;>try rfl
 rename_i d i;simp only[oV,uR,fP,iV,lW];cases i with
 | ofNat m=>
  show @Bool.rec (fun _=>Option ρ) none (k m) (Nat.ble (Nat.succ m) n)=_;cases h:Nat.ble (Nat.succ m) n with
  | true=>have:=bM h;rw[if_pos ⟨by simp only[cF];omega,by simp only[cF];omega⟩];rfl
  | false=>
   have:¬ Nat.succ m<=n:=fun hl=>by rw[bV hl] at h;cases h
   rw[if_neg (by simp only[cF];omega)];rfl
 | negSucc m=>rw[if_neg om];rfl
def C3:Value->(Array Value->Option ρ)->Option ρ:=
 @Value.rec (fun _=>(Array Value->Option ρ)->Option ρ) (fun _=>PUnit) (fun _=>PUnit)
  (fun _ _=>none) (fun _ _ _=>none) (fun _ _ _=>none) (fun _ _ _ _=>none) (fun _ _=>none) (fun _ _=>none) (fun _ _ _ _=>none) (fun _ _=>none) (fun _ _=>none) (fun _ _ _ _ _ _=>none) (fun _=>none) (fun _ _ _ _=>none) (fun _=>none) (fun cs _ f=>f cs) (fun _ _ _=>none) (fun _ _=>⟨⟩) ⟨⟩ (fun _ _ _ _=>⟨⟩)
def Tz:Value->(Array Value->Option ρ)->Option ρ:=
 @Value.rec (fun _=>(Array Value->Option ρ)->Option ρ) (fun _=>PUnit) (fun _=>PUnit)
  (fun _ _=>none) (fun _ _ _=>none) (fun _ _ _=>none) (fun _ _ _ _=>none) (fun _ _=>none) (fun _ _=>none) (fun _ _ _ _=>none) (fun _ _=>none) (fun _ _=>none) (fun _ _ _ _ _ _=>none) (fun _=>none) (fun _ _ _ _=>none) (fun _=>none) (fun _ _ _=>none) (fun vs _ f=>f vs) (fun _ _=>⟨⟩) ⟨⟩ (fun _ _ _ _=>⟨⟩)
def slE:Value->(Option Addr->Nat->Nat->Option ρ)->Option ρ:=
 @Value.rec (fun _=>(Option Addr->Nat->Nat->Option ρ)->Option ρ) (fun _=>PUnit) (fun _=>PUnit)
  (fun _ _=>none) (fun _ _ _=>none) (fun _ _ _=>none) (fun _ _ _ _=>none) (fun _ _=>none) (fun _ _=>none) (fun a l c f=>f a l c) (fun _ _=>none) (fun _ _=>none) (fun _ _ _ _ _ _=>none) (fun _=>none) (fun _ _ _ _=>none) (fun _=>none) (fun _ _ _=>none) (fun _ _ _=>none) (fun _ _=>⟨⟩) ⟨⟩ (fun _ _ _ _=>⟨⟩)
def adE(a:Addr)(f:Nat->Nat->Option Nat->Option ρ):Option ρ:=@Addr.rec (fun _=>Option ρ) f a
def adQ(esz n:Nat)(m:Option Nat)(x i:Operand):OpF ρ:=fun _ fr σ k=>evK x fr fun v=>evK i fr fun w=>C3 v fun cs=>DS n w fun j=>rdK cs.toList (Nat.mul j esz) m fun u=>k u σ
def Of(off:Nat)(n:Option Nat)(x:Operand):OpF ρ:=fun _ fr σ k=>evK x fr fun v=>C3 v fun cs=>rdK cs.toList off n fun u=>k u σ
def adR(x:Operand)(i:Nat):OpF ρ:=fun _ fr σ k=>evK x fr fun v=>Tz v fun vs=>wK vs.toList i fun u=>k u σ
def adS(x:Operand):OpF ρ:=fun _ fr σ k=>evK x fr fun v=>slE v fun _ n _=>k (.int .i64 (Int.ofNat n)) σ
def Og(off:Nat)(x:Operand):OpF ρ:=fun _ fr σ k=>evK x fr fun v=>xZ v (fun a=>adE a fun b o s=>frc (Nat.add o off) fun o'=>k (.pointer (some (Addr.mk b o' s))) σ) none
def Oh(esz:Nat)(x i:Operand):OpF ρ:=fun _ fr σ k=>evK x fr fun v=>evK i fr fun w=>slE v fun a n _=>@Option.rec Addr (fun _=>Option ρ) none (fun a=>DS n w fun j=>adE a fun b o s=>frc (Nat.add o (Nat.mul j esz)) fun o'=>k (.pointer (some (Addr.mk b o' s))) σ) a
def HN(esz n:Nat)(x i:Operand):OpF ρ:=fun _ fr σ k=>evK x fr fun v=>evK i fr fun w=>xZ v (fun a=>DS n w fun j=>adE a fun b o s=>frc (Nat.add o (Nat.mul j esz)) fun o'=>k (.pointer (some (Addr.mk b o' s))) σ) none
def Yc(f:FuncId)(args:List Operand):OpF ρ:=fun fz fr σ k=>XU args fr fun vs=>ob (fz (.func f) vs σ) fun r=>@Prod.rec Value St (fun _=>Option ρ) k r
def Yd(c a b:Operand):OpF ρ:=fun _ fr σ k=>evK c fr fun v=>r7 v (fun q=>@Bool.rec (fun _=>Option ρ) (evK b fr fun u=>k u σ) (evK a fr fun u=>k u σ) q) none
def aaL(pl:Bool)(v:Value)(σ:St)(k:Value->St->Option ρ):Option ρ:=
 fP (and (qK vr (cellsOf v)) (or (not pl) (qK scB (cellsOf v)))) (stE σ fun hp L H d=>frc (jI hp) fun n=>Qo (.cells 0 pl (cellsOf v)) hp fun hp'=>k (.pointer (some (Addr.mk n 0 (some 0)))) (St.mk hp' L H d)) none
theorem aaM(fz:fD)(pl:Bool)(x:Operand)(fr:Fr)(σ:St)(k:Value->St->Option ρ):evK x fr (fun v=>aaL pl v σ k)=(aop fz (.box pl x) fr σ).bind fun r=>k r.1 r.2:=by
 rw[iU];simp only[aop];cases ev fr x with
 | none=>rfl
 | some v=>
  simp only[ak,aaL,rS,AJ,pP,jU,iV,iz,C2,fP];cases((cellsOf v).all fY&&(!pl||(cellsOf v).all sc))<;>rfl
def opK:AOp->OpF ρ:=@AOp.rec (fun _=>OpF ρ)
 (fun x _ fr σ k=>evK x fr fun v=>k v σ) Yd (fun pl zs=>jg (.alloc pl zs)) (fun pl x _ fr σ k=>evK x fr fun v=>aaL pl v σ k) (fun zs ps=>jg (.build zs ps)) (fun pl e n zs ps=>jg (.gV pl e n zs ps))
 (fun n x _ fr σ k=>evK x fr fun v=>Qq n v σ k) (fun n x y _ fr σ k=>evK y fr fun v=>evK x fr fun p=>yd n p v σ k) (Ya Cc) (fun op x y _ fr σ k=>evK x fr fun v=>evK y fr fun w=>XX op v w fun u=>k u σ)
 (fun g s=>aaK (eqF g s)) (fun op=>Ya (aun op)) Yb (fun x=>jg (.Dw x)) (fun x=>jg (.AP x)) (fun x=>jg (.mark x)) (fun f a b=>jg (.AQ f a b)) (fun p e z l c=>jg (.l7 p e z l c))
 (fun e x l h m=>jg (.slice e x l h m)) (fun e n x l h m=>jg (.m8 e n x l h m)) (fun x l h=>jg (.pV x l h)) Og Of Oh HN adQ (aaK Jx) adR Yc (fun x a=>jg (.iP x a)) (fun p e x y=>jg (.append p e x y))
 adS (Ya O4) (fun n _ _ σ k=>k (.int .i64 n) σ) (fun x=>jg (.cap x)) (fun e x y=>jg (.copy e x y)) (fun e z x=>jg (.clear e z x)) (fun b xs=>jg (.mm b xs)) (fun f=>jg (.native f)) (fun x y=>jg (.n6 x y)) (jg .nI) (fun a s m k x=>jg (.jN a s m k x)) (fun a s z o m k=>jg (.AR a s z o m k)) (fun m=>jg (.AS m)) (fun t x=>jg (.LZ t x)) (fun t x a=>jg (.Dx t x a)) (fun x c=>jg (.Dy x c)) (fun n=>jg (.Ij n))
theorem tF(o:AOp)(fz:fD)(fr:Fr)(σ:St)(k:Value->St->Option ρ):jg o fz fr σ k=(aop fz o fr σ).bind fun r=>k r.1 r.2:=oU _ _
theorem HO{f:Value->Option Value}{x:Operand}{fz:fD}{fr:Fr}{σ:St}{o:AOp}(h:aop fz o fr σ=sM σ f (ev fr x))(k:Value->St->Option ρ):Ya f x fz fr σ k=(aop fz o fr σ).bind fun r=>k r.1 r.2:=by
 rw[h];unfold Ya;rw[iU];cases ev fr x with
 | none=>rfl
 | some v=>
  simp only[ak,mw,oU];cases f v<;>rfl
theorem Qr{f:Value->Value->Option Value}{x y:Operand}{fz:fD}{fr:Fr}{σ:St}{o:AOp}(h:aop fz o fr σ=sO σ f (ev fr x) (ev fr y))(k:Value->St->Option ρ):aaK f x y fz fr σ k=(aop fz o fr σ).bind fun r=>k r.1 r.2:=by
 rw[h];unfold aaK;simp only[iU];cases ev fr x with
 | none=>rfl
 | some v=>
  cases ev fr y with
  | none=>rfl
  | some w=>
   simp only[ak,nN,oU];cases f v w<;>rfl
theorem C4(o:AOp)(fz:fD)(fr:Fr)(σ:St)(k:Value->St->Option ρ):opK o fz fr σ k=(aop fz o fr σ).bind fun r=>k r.1 r.2:=by
 cases o<;>try exact tF _ _ _ _ _
 case mv x=>
  show evK x fr _=_;rw[iU,UX];cases ev fr x<;>rfl
 case pick c a b=>
  show Yd c a b fz fr σ k=_;unfold Yd;rw[iU,Ju];cases ev fr c with
  | none=>rfl
  | some v=>
   simp only[ak,Lt,iU];cases v<;>try rfl
   rename_i q;rw[MS];cases q with
   | true=>simp only[if_true];cases ev fr a<;>rfl
   | false=>simp only[aO,if_false];cases ev fr b<;>rfl
 case box pl x=>exact aaM fz pl x fr σ k
 case load n x=>exact X7 fz n x fr σ k
 case store n x y=>exact Ty fz n x y fr σ k
 case kK x=>exact HO (Eu fr σ x) k
 case bin op x y=>
  show evK x fr _=_;rw[O3];simp only[iU];cases ev fr x with
  | none=>rfl
  | some v=>cases ev fr y with
   | none=>rfl
   | some w=>
    simp only[ak,Ep,aaI];cases gT op v w<;>rfl
 case eqs g s x y=>exact Qr (O5 fr σ g s x y) k
 case un op x=>exact HO (U4 fr σ op x) k
 case conv d x=>
  show Yb d x fz fr σ k=_;unfold Yb;rw[iU,Jz];cases ev fr x with
  | none=>rfl
  | some v=>
   simp only[ak,mw];cases v<;>try rfl
   simp only[oV,nR];rfl
 case fQ off x=>
  show Og off x fz fr σ k=_;unfold Og;rw[iU,Ev];cases ev fr x with
  | none=>rfl
  | some v=>
   simp only[ak,mw,ot];cases v<;>try rfl
   rename_i a;cases a with
   | none=>rfl
   | some a=>cases a;simp only[adE,iV];rfl
 case field off n x=>
  show Of off n x fz fr σ k=_;unfold Of;rw[iU,Ew];cases ev fr x with
  | none=>rfl
  | some v=>
   simp only[ak,mw];cases v<;>try rfl
   rename_i cs;show rdK cs.toList off n _=_;rw[HK,Cd];cases gI cs.toList off n<;>rfl
 case fK e x i=>
  show Oh e x i fz fr σ k=_;unfold Oh;rw[Ey];simp only[iU];cases ev fr x with
  | none=>rfl
  | some v=>cases ev fr i with
   | none=>rfl
   | some w=>
    simp only[ak,nN];cases v<;>try rfl
    rename_i a l c;cases a with
    | none=>rfl
    | some a=>
     show DS l w _=_;rw[HM];cases w<;>try rfl
     rename_i d j;obtain⟨b,o,s⟩:=a;rw[yT];simp only[uR];split
     ·simp only[ak,adE,iV];rfl
     ·rfl
 case gO e n x i=>
  show HN e n x i fz fr σ k=_;unfold HN;rw[Cf];simp only[iU];cases ev fr x with
  | none=>rfl
  | some v=>cases ev fr i with
   | none=>rfl
   | some w=>
    simp only[ak,nN,ot];cases v<;>try rfl
    rename_i a;cases a with
    | none=>rfl
    | some a=>
     simp only[HM];cases w<;>try rfl
     rename_i d j;obtain⟨b,o,s⟩:=a;rw[wh];simp only[uR];split
     ·simp only[ak,adE,iV];rfl
     ·rfl
 case idx e n m x i=>
  show adQ e n m x i fz fr σ k=_;unfold adQ;rw[O8];simp only[iU];cases ev fr x with
  | none=>rfl
  | some v=>cases ev fr i with
   | none=>rfl
   | some w=>
    simp only[ak,nN];cases v<;>try rfl
    rename_i cs;show DS n w _=_;rw[HM];cases w<;>try rfl
    rename_i d j;rw[Et];simp only[uR];split
    ·simp only[ak,HK];show(gI cs.toList (j.toNat*e) m).bind _=_;cases gI cs.toList (j.toNat*e) m<;>rfl
    ·rfl
 case idxs x i=>exact Qr (JB fr σ x i) k
 case ext x i=>
  show adR x i fz fr σ k=_;unfold adR;rw[iU,O7];cases ev fr x with
  | none=>rfl
  | some v=>
   simp only[ak,mw];cases v<;>try rfl
   rename_i vs;show wK vs.toList i _=_;rw[oq,Ce];cases vs.toList[i]?<;>rfl
 case call f args=>
  show Yc f args fz fr σ k=_;unfold Yc;rw[HF];simp only[aop,oU];cases evs fr args with
  | none=>rfl
  | some vs=>rfl
 case len x=>
  show adS x fz fr σ k=_;unfold adS;rw[iU,O6];cases ev fr x with
  | none=>rfl
  | some v=>
   simp only[ak,mw];cases v<;>rfl
 case lens x=>exact HO (JA fr σ x) k
 case FF n=>rfl
def ou(d:Option Nat)(v:Value)(fr:Fr):Fr:=@Option.rec Nat (fun _=>Fr) fr (fun d=>(d,v)::fr) d
theorem rT(d:Option Nat)(v:Value)(fr:Fr):ou d v fr=fr.put d v:=by cases d<;>rfl
def r8(g:Option (Nat×Bool))(fr:Fr)(y n:Option ρ):Option ρ:=
 @Option.rec (Nat×Bool) (fun _=>Option ρ) y (fun q=>@Prod.rec Nat Bool (fun _=>Option ρ) (fun t b=>HE t fr fun v=>r7 v (fun c=>@Bool.rec (fun _=>Option ρ) (fP b n y) (fP b y n) c) (Tz v fun _=>n)) q) g
theorem C5(o:fB)(fr:Fr)(y n:Option ρ):r8 o.guard fr y n=(want o fr).bind fun b=>if b then y else n:=by
 unfold r8 want;cases o.guard with
 | none=>rfl
 | some q=>
  obtain⟨t,b⟩:=q;simp only[wI];cases fr.get t with
  | none=>rfl
  | some v=>
   simp only[ak,fP];cases v<;>try rfl
   rename_i c;cases c<;>cases b<;>rfl
def HP:List fB->fD->Fr->St->(Fr->St->Option ρ)->Option ρ:=@List.rec fB (fun _=>fD->Fr->St->(Fr->St->Option ρ)->Option ρ) (fun _ fr σ k=>k fr σ)
 (fun o _ ih fz fr σ k=>r8 o.guard fr (opK o.op fz fr σ fun v σ'=>ih fz (ou o.dst v fr) σ' k) (ih fz (ou o.dst gB fr) σ k))
theorem HQ:∀ (l:List fB) (fz:fD) (fr:Fr) (σ:St) (k:Fr->St->Option ρ),HP l fz fr σ k=(lI fz l fr σ).bind fun r=>k r.1 r.2
 | [],fz,fr,σ,k=>rfl
 | o::l,fz,fr,σ,k=>by
  show r8 o.guard fr (opK o.op fz fr σ fun v σ'=>HP l fz (ou o.dst v fr) σ' k) (HP l fz (ou o.dst gB fr) σ k)=_;rw[C5];simp only[lI];cases want o fr with
  | none=>rfl
  | some b=>
   simp only[ak];cases b with
   | true=>
    simp only[if_true,C4,rT,HQ l];cases aop fz o.op fr σ<;>rfl
   | false=>simp only[aO,if_false,rT,HQ l]
end
end AM
namespace AM
open Go
noncomputable section
variable{ρ:Type}
def zv:List fB->fD->List (Nat×Nat×Nat)->Nat->Fr->St->(Fr->St->Option ρ)->Option ρ:=@List.rec fB (fun _=>fD->List (Nat×Nat×Nat)->Nat->Fr->St->(Fr->St->Option ρ)->Option ρ) (fun _ _ _ fr σ k=>k fr σ)
 (fun o _ ih fz born j fr σ k=>r8 o.guard fr
  (stE σ fun hp L H d=>frc (jI hp) fun n=>opK o.op fz fr (St.mk hp (jW o.wr (mF o) born L n) (gj o.bef born++H) d) fun v σ'=>
   stE σ' fun hp' _ _ d'=>frc (jI hp') fun n'=>ih fz (fP (Nat.ble n' n) born ((j,n,n')::born)) (Nat.succ j) (ou o.dst v fr) (St.mk hp' L H d') k)
  (ih fz born (Nat.succ j) (ou o.dst gB fr) σ k))
theorem C6:∀ (l:List fB) (fz:fD) (born:List (Nat×Nat×Nat)) (j:Nat) (fr:Fr) (σ:St) (k:Fr->St->Option ρ),zv l fz born j fr σ k=(lK fz born j l fr σ).bind fun r=>k r.1 r.2
 | [],fz,born,j,fr,σ,k=>rfl
 | o::l,fz,born,j,fr,σ,k=>by
  show r8 o.guard fr
   (stE σ fun hp L H d=>frc (jI hp) fun n=>opK o.op fz fr (St.mk hp (jW o.wr (mF o) born L n) (gj o.bef born++H) d) fun v σ'=>
    stE σ' fun hp' _ _ d'=>frc (jI hp') fun n'=>zv l fz (fP (Nat.ble n' n) born ((j,n,n')::born)) (j+1) (ou o.dst v fr) (St.mk hp' L H d') k)
   (zv l fz born (j+1) (ou o.dst gB fr) σ k)=_
  rw[C5];simp only[lK];cases want o fr with
  | none=>rfl
  | some b=>
   simp only[ak];cases b with
   | true=>
    simp only[if_true,jU,iV,iz,C4,rT,C6 l];cases aop fz o.op fr { σ with lock:=jW o.wr (mF o) born σ.lock σ.heap.length,hid:=gj o.bef born++σ.hid } with
    | none=>rfl
    | some r=>
     simp only[ak];have:fP (Nat.ble r.2.heap.length σ.heap.length) born ((j,σ.heap.length,r.2.heap.length)::born)=if σ.heap.length < r.2.heap.length then (j,σ.heap.length,r.2.heap.length)::born else born:=by
      unfold fP;by_cases h:r.2.heap.length<=σ.heap.length
      ·rw[bV h,if_neg om]
      ·have hb:Nat.ble r.2.heap.length σ.heap.length=false:=by rw[bL];intro hq;exact h (bM hq)
       rw[hb,if_pos om]
     rw[this]
   | false=>simp only[aO,if_false,rT,C6 l]
def tG(m:Bool)(B:List Nat):List fB->fD->List (Bool×Nat)->Fr->St->(Fr->St->Option ρ)->Option ρ:=@List.rec fB (fun _=>fD->List (Bool×Nat)->Fr->St->(Fr->St->Option ρ)->Option ρ) (fun _ _ fr σ k=>k fr σ)
 (fun o _ ih fz seen fr σ k=>r8 o.guard fr
  (fP o.wr
   (fP m (stE σ fun hp L H d=>opK o.op fz fr (St.mk hp L (B++H) d) fun v σ'=>stE σ' fun hp' L' _ d'=>ih fz seen (ou o.dst v fr) (St.mk hp' L' H d') k) none)
   (ob (tgt fr o.op) fun tg=>fP (apart tg seen&&(!m||tg.all fun p=>B.contains p.2)) (opK o.op iQ fr σ fun v σ'=>ih fz (tg++seen) (ou o.dst v fr) σ' k) none))
  (ih fz seen (ou o.dst gB fr) σ k))
theorem wN(m:Bool)(B:List Nat):∀ (l:List fB) (fz:fD) (seen:List (Bool×Nat)) (fr:Fr) (σ:St) (k:Fr->St->Option ρ),tG m B l fz seen fr σ k=(j3 fz m B seen l fr σ).bind fun r=>k r.1 r.2
 | [],fz,seen,fr,σ,k=>rfl
 | o::l,fz,seen,fr,σ,k=>by
  show r8 o.guard fr
   (fP o.wr
    (fP m (stE σ fun hp L H d=>opK o.op fz fr (St.mk hp L (B++H) d) fun v σ'=>stE σ' fun hp' L' _ d'=>tG m B l fz seen (ou o.dst v fr) (St.mk hp' L' H d') k) none)
    (ob (tgt fr o.op) fun tg=>fP (apart tg seen&&(!m||tg.all fun p=>B.contains p.2)) (opK o.op iQ fr σ fun v σ'=>tG m B l fz (tg++seen) (ou o.dst v fr) σ' k) none))
   (tG m B l fz seen (ou o.dst gB fr) σ k)=_
  rw[C5];simp only[j3];cases want o fr with
  | none=>rfl
  | some b=>
   simp only[ak];cases b with
   | true=>
    simp only[if_true];cases hw:o.wr with
    | true=>
     cases m with
     | true=>
      simp only[fP,if_true,jU,C4,rT,wN true B l];cases aop fz o.op fr { σ with hid:=B++σ.hid }<;>rfl
     | false=>rfl
    | false=>
     simp only[fP,aO,if_false,oU,C4,rT,wN m B l];cases tgt fr o.op with
     | none=>rfl
     | some tg=>
      simp only[ak];cases(apart tg seen&&(!m||tg.all fun p=>B.contains p.2)) with
      | true=>
       simp only[if_true];cases aop iQ o.op fr σ<;>rfl
      | false=>rfl
   | false=>simp only[aO,if_false,rT,wN m B l]
def Oi(t:Nat)(fr:Fr)(k:Value->Option ρ)(e:Option ρ):Option ρ:=@List.rec (Nat×Value) (fun _=>Option ρ) e (fun p _ ih=>@Bool.rec (fun _=>Option ρ) ih (k p.2) (Nat.beq p.1 t)) fr
theorem Qs(t:Nat)(k:Value->Option ρ)(e:Option ρ):∀ fr:Fr,Oi t fr k e=match fr.get t with | some v=>k v | none=>e
 | []=>rfl
 | (a,v)::l=>by
  show @Bool.rec (fun _=>Option ρ) (Oi t l k e) (k v) (Nat.beq a t)=_;simp only[Fr.get];by_cases h:a=t
  ·subst h;simp[dJ]
  ·have:Nat.beq a t=false:=by rw[bL];intro hb;exact h (aU hb)
   rw[if_neg h,this];exact Qs t k e l
def r9:List Nat->Fr->(Fr->Option ρ)->Option ρ:=@List.rec Nat (fun _=>Fr->(Fr->Option ρ)->Option ρ) (fun _ k=>k []) (fun t _ ih fr k=>Oi t fr (fun v=>ih fr fun l=>k ((t,v)::l)) (ih fr k))
theorem tH:∀ (l:List Nat) (fr:Fr) (k:Fr->Option ρ),r9 l fr k=k (fr.keep l)
 | [],fr,k=>rfl
 | t::l,fr,k=>by show Oi t fr (fun v=>r9 l fr fun l=>k ((t,v)::l)) (r9 l fr k)=_;rw[Qs];simp only[Fr.keep,tH l];cases fr.get t<;>rfl
theorem tI{α β:Type} : ∀ l:List (α×β),(l.map (·.1)).zip (l.map (·.2))=l
 | []=>rfl
 | (a,b)::l=>by simp[tI l]
def tJ(base:Nat)(fr:Fr)(σ:St)(k:Fr->St->Option ρ):Option ρ:=fP (CZ σ.heap base) (k fr σ) (ob (kS base fr σ) fun r=>k r.1 r.2)
theorem wO(base:Nat)(fr:Fr)(σ:St)(k:Fr->St->Option ρ):tJ base fr σ k=(kS base fr σ).bind fun r=>k r.1 r.2:=by
 unfold tJ fP;rw[yc];by_cases h:σ.heap.length<=base
 ·rw[decide_eq_true h];simp only[kS,gc,if_pos h,bq,ak,tI]
 ·rw[decide_eq_false h];exact oU _ _
def kC:Value->Bool:=
 @Value.rec (fun _=>Bool) (fun _=>Bool) (fun _=>Bool)
  (fun _=>true) (fun _ _=>true) (fun _ _=>true) (fun _ _ _=>true) (fun _=>true) (fun a=>@Option.rec Addr (fun _=>Bool) true (fun _=>false) a) (fun a _ _=>@Option.rec Addr (fun _=>Bool) true (fun _=>false) a) (fun a=>@Option.rec Nat (fun _=>Bool) true (fun _=>false) a) (fun _=>true) (fun _ _ _ i j=>@Bool.rec (fun _=>Bool) false j i) true (fun _ _ i=>i) true (fun _ i=>i) (fun _ i=>i) (fun _ i=>i) true (fun _ _ i j=>@Bool.rec (fun _=>Bool) false j i)
theorem wP{v:Value}(h:kC v=true):fJ v=[]:=by
 cases v<;>try rfl
 ·rename_i a;cases a<;>first | rfl | (simp[kC] at h)
 ·rename_i a l c;cases a<;>first | rfl | (simp[kC] at h)
 ·rename_i a;cases a<;>first | rfl | (simp[kC] at h)
 ·rename_i t v;cases v<;>try rfl
  rename_i a;cases a<;>first | rfl | (simp[kC] at h)
theorem oX:∀ {l:List Value},@Value.rec_2 (fun _=>Bool) (fun _=>Bool) (fun _=>Bool)
  (fun _=>true) (fun _ _=>true) (fun _ _=>true) (fun _ _ _=>true) (fun _=>true) (fun a=>@Option.rec Addr (fun _=>Bool) true (fun _=>false) a) (fun a _ _=>@Option.rec Addr (fun _=>Bool) true (fun _=>false) a) (fun a=>@Option.rec Nat (fun _=>Bool) true (fun _=>false) a) (fun _=>true) (fun _ _ _ i j=>@Bool.rec (fun _=>Bool) false j i) true (fun _ _ i=>i) true (fun _ i=>i) (fun _ i=>i) (fun _ i=>i) true (fun _ _ i j=>@Bool.rec (fun _=>Bool) false j i) l=true->∀ v∈l,kC v=true
 | [],h,v,hv=>by cases hv
 | a::l,h,v,hv=>by
  have h':@Bool.rec (fun _=>Bool) false _ (kC a)=true:=h;cases ha:kC a with
  | false=>rw[ha] at h';cases h'
  | true=>
   rw[ha] at h';rcases aJ.1 hv with rfl | hv
   ·exact ha
   ·exact oX h' v hv
theorem wQ{l:List Value}{f:Value->List Nat}(h:∀ v∈l,f v=[]):l.flatMap f=[]:=by rw[cW];exact h
theorem Qt{v:Value}(h:kC v=true):fU v=[]:=by
 cases v<;>try exact wP h
 ·rename_i f fi ca;obtain⟨fi⟩:=fi;obtain⟨ca⟩:=ca;have h':@Bool.rec (fun _=>Bool) false (kC (.agg ⟨ca⟩)) (kC (.agg ⟨fi⟩))=true:=h;cases h1:kC (.agg ⟨fi⟩) with
  | false=>rw[h1] at h';cases h'
  | true=>
   rw[h1] at h';have h2:kC (.agg ⟨ca⟩)=true:=h';show fi.flatMap fJ++ca.flatMap fJ=[];rw[wQ fun v hv=>wP (oX h1 v hv),wQ fun v hv=>wP (oX h2 v hv)];rfl
 ·rename_i cs;obtain⟨cs⟩:=cs;exact wQ fun v hv=>wP (oX h v hv)
theorem HR{v:Value}(h:kC v=true):refs v=[]:=by
 cases v<;>try exact Qt h
 rename_i cs;obtain⟨cs⟩:=cs;exact wQ fun v hv=>Qt (oX h v hv)
def Ye(v:Value):List Nat:=@Bool.rec (fun _=>List Nat) (refs v) [] (kC v)
theorem Lx:Ye=refs:=by
 funext v;unfold Ye;cases h:kC v with
 | true=>exact(HR h).symm
 | false=>rfl
def AK(base:Nat):List Nat->List Nat:=@List.rec Nat (fun _=>List Nat) [] (fun a _ ih=>@Bool.rec (fun _=>List Nat) (a::ih) ih (Nat.ble base a))
theorem C7(base:Nat):∀ l:List Nat,AK base l=l.filter (· < base)
 | []=>rfl
 | a::l=>by
  show @Bool.rec (fun _=>List Nat) (a::AK base l) (AK base l) (Nat.ble base a)=_;rw[C7 base l,dM];by_cases h:a < base
  ·have:Nat.ble base a=false:=by rw[bL];intro hb;have:=bM hb;omega
   rw[this];simp[h]
  ·have:Nat.ble base a=true:=bV om;rw[this];simp[h]
def uj(base:Nat)(l t:List Nat):List Nat:=@List.rec Nat (fun _=>List Nat) t (fun a _ ih=>@Bool.rec (fun _=>List Nat) ih (a::ih) (Nat.ble base a)) l
theorem vu(base:Nat)(t:List Nat):∀ l:List Nat,uj base l t=l.filter (base<=·)++t
 | []=>rfl
 | a::l=>by
  show @Bool.rec (fun _=>List Nat) (uj base l t) (a::uj base l t) (Nat.ble base a)=_;rw[vu base t l,dM];by_cases h:base<=a
  ·rw[bV h];simp[h]
  ·have:Nat.ble base a=false:=by rw[bL];intro hb;exact h (bM hb)
   rw[this];simp[h]
def HS(base:Nat)(t:List Nat):List Value->List Nat:=@List.rec Value (fun _=>List Nat) t (fun v _ ih=>@Bool.rec (fun _=>List Nat) (uj base (refs v) ih) ih (kC v))
theorem Fj(base:Nat)(t:List Nat):∀ vs:List Value,HS base t vs=(vs.flatMap refs).filter (base<=·)++t
 | []=>rfl
 | v::l=>by
  show @Bool.rec (fun _=>List Nat) (uj base (refs v) (HS base t l)) (HS base t l) (kC v)=_;rw[Fj base t l,dV,cG];cases h:kC v with
  | true=>rw[HR h];rfl
  | false=>simp only[vu,aR]
def HT:List Value->List Nat:=@List.rec Value (fun _=>List Nat) [] (fun v _ ih=>@Bool.rec (fun _=>List Nat) (fJ v++ih) ih (kC v))
theorem Fk:∀ l:List Value,HT l=l.flatMap fJ
 | []=>rfl
 | v::l=>by
  show @Bool.rec (fun _=>List Nat) (fJ v++HT l) (HT l) (kC v)=_;rw[Fk l,dV];cases h:kC v with
  | true=>rw[wP h];rfl
  | false=>rfl
def Yf:Blk->List Nat:=@Blk.rec (fun _=>List Nat) (fun _ pl cs=>@Bool.rec (fun _=>List Nat) (HT cs) [] pl) (fun es=>es.flatMap fun p=>fU p.2) []
theorem TA(b:Blk):Yf b=iN b:=by
 cases b with
 | cells g pl cs=>cases pl<;>first | rfl | exact Fk cs
 | _=>rfl
def pQ(h:List Blk)(r:Nat):List Nat:=@Option.rec Blk (fun _=>List Nat) [] (fun b=>Yf b) (wK h r some)
theorem vv:pQ=fV:=by
 funext h r;unfold pQ fV;rw[oq];cases h[r]? with
 | none=>rfl
 | some b=>exact TA b
def HU(h:List Blk)(base:Nat):Nat->List Nat->List Nat->List Nat:=@Nat.rec (fun _=>List Nat->List Nat->List Nat) (fun _ acc=>acc)
 (fun _ ih ws acc=>@List.rec Nat (fun _=>List Nat) acc (fun r ws' _=>@Bool.rec (fun _=>List Nat) (ih (pQ h r++ws') (acc++[r])) (ih ws' acc) (or (Nat.ble (Nat.succ r) base) (zI r acc))) ws)
theorem yf(h:List Blk)(base:Nat):∀ (f:Nat) (ws acc:List Nat),HU h base f ws acc=reach h base f ws acc
 | 0,ws,acc=>rfl
 | f+1,[],acc=>rfl
 | f+1,r::ws,acc=>by
  show @Bool.rec (fun _=>List Nat) (HU h base f (pQ h r++ws) (acc++[r])) (HU h base f ws acc) (or (Nat.ble (Nat.succ r) base) (zI r acc))=_;rw[yf h base f,yf h base f,mS,reach,vv];have:Nat.ble (Nat.succ r) base=decide (r < base):=by
   by_cases h:r < base
   ·rw[bV h];simp[h]
   ·have h1:Nat.ble (Nat.succ r) base=false:=by rw[bL];intro hb;exact h (bM hb)
    rw[h1];simp[h]
  rw[this];cases(decide (r < base)||acc.contains r)<;>rfl
def Ly:List Nat->Nat->Bool:=@List.rec Nat (fun _=>Nat->Bool) (fun _=>true) (fun a _ ih n=>@Bool.rec (fun _=>Bool) false (ih (Nat.succ n)) (Nat.beq a n))
theorem C8:∀ (l:List Nat) (n:Nat),Ly l n=true->l=List.range' n l.length
 | [],n,_=>rfl
 | a::l,n,h=>by
  have h':@Bool.rec (fun _=>Bool) false (Ly l (n+1)) (Nat.beq a n)=true:=h;cases ha:Nat.beq a n with
  | false=>rw[ha] at h';cases h'
  | true=>
   rw[ha] at h';have:=aU ha;subst this;rw[az,List.range'_succ,<- C8 l _ h']
def chk(base:Nat)(vs:List Value)(σ:St)(olds keep:List Nat):Bool:=
 jP keep&&jP olds&&(vs.all fun v=>(Ye v).all fun r=>r < base||keep.contains r)&&(olds.all fun t=>(fV σ.heap t).all fun r=>r < base||keep.contains r)&&(keep.all fun r=>base<=r&&r < σ.heap.length&&(fV σ.heap r).all fun r=>r < base||keep.contains r)
def Oj(base:Nat)(keep:List Nat)(r:Nat):Bool:=@Bool.rec (fun _=>Bool) (zI r keep) true (Nat.ble (Nat.succ r) base)
theorem Qu(base:Nat)(keep:List Nat):Oj base keep=fun r=>decide (r < base)||keep.contains r:=by
 funext r;unfold Oj;rw[mS];by_cases h:r < base
 ·rw[bV h];simp[h]
 ·have h1:Nat.ble (Nat.succ r) base=false:=by rw[bL];intro hb;exact h (bM hb)
  rw[h1];simp[h]
def adT(base:Nat)(vs:List Value)(hp:List Blk)(olds keep:List Nat):Bool:=
 and (jP keep) (and (jP olds) (and (qK (fun v=>@Bool.rec (fun _=>Bool) (qK (Oj base keep) (refs v)) true (kC v)) vs) (and (qK (fun t=>qK (Oj base keep) (pQ hp t)) olds)
  (qK (fun r=>and (Nat.ble base r) (and (Nat.ble (Nat.succ r) (jI hp)) (qK (Oj base keep) (pQ hp r)))) keep))))
theorem aaN(base:Nat)(vs:List Value)(σ:St)(olds keep:List Nat):adT base vs σ.heap olds keep=chk base vs σ olds keep:=by
 unfold adT chk;rw[vv,Lx];have h1:(fun v=>@Bool.rec (fun _=>Bool) (qK (Oj base keep) (refs v)) true (kC v))=fun v=>(refs v).all fun r=>decide (r < base)||keep.contains r:=by
  funext v;cases h:kC v with
  | true=>rw[HR h];rfl
  | false=>show qK (Oj base keep) (refs v)=_;rw[pP,Qu]
 have h2:∀ a b:Nat,Nat.ble a b=decide (a<=b):=fun a b=>by
  by_cases h:a<=b
  ·rw[bV h];simp[h]
  ·have:Nat.ble a b=false:=by rw[bL];intro hb;exact h (bM hb)
   rw[this];simp[h]
 rw[h1];simp only[pP,Qu,h2,iz,Nat.succ_le_iff,Bool.and_assoc]
theorem Lz{f:Nat->Nat}{b:Blk}(h:∀ r∈iN b,f r=r):kR f b=b:=by
 cases b with
 | cells g pl cs=>
  cases pl with
  | true=>rfl
  | false=>simp only[kR];rw[map_id' fun a ha=>ud fun r hr=>h r (aY.2 ⟨a,ha,hr⟩)]
 | map es=>
  simp only[kR];congr 1;refine map_id' fun p hp=>?_;rw[GZ fun r hr=>h r (aY.2 ⟨p,hp,hr⟩)]
 | void=>rfl
theorem Fl{f:Nat->Nat} : ∀ (l:List Nat) (h:List Blk),(∀ t∈l,∀ b,h[t]?=some b->kR f b=b)->jq f l h=h
 | [],h,_=>rfl
 | t::l,h,hh=>by
  have e:h.modify t (kR f)=h:=by
   refine bK fun i=>?_;rw[dz];cases hb:h[i]? with
   | none=>rfl
   | some b=>
    show some (if t=i then kR f b else b)=some b;split
    ·rename_i e;subst e;rw[hh t (by simp) b hb]
    ·rfl
  rw[jq,e];exact Fl l h fun t ht=>hh t (by simp[ht])
theorem Yg{base:Nat}{vs:List Value}{σ:St}{keep:List Nat}(hs:Ly keep base=true)(hc:chk base vs σ (σ.fA.filter (· < base)) keep=true)(hb:base<=σ.heap.length) :
  qN base vs σ keep=some (vs,⟨σ.heap.take (base+keep.length),σ.lock,σ.hid,σ.fA.filter (· < base)⟩):=by
 have hk:=C8 _ _ hs;unfold chk at hc;rw[Lx] at hc;unfold qN;simp only[];rw[if_pos hc];simp only[au,aF,bF,decide_eq_true_eq] at hc;obtain⟨⟨⟨⟨_,_⟩,h1⟩,h2⟩,h3⟩:=hc;have hf:∀ r,(r < base\/keep.contains r=true)->(if r < base then r else base+keep.idxOf r)=r:=fun r hr=>by
  by_cases c:r < base
  ·rw[if_pos c]
  ·rw[if_neg c];have hm:r∈keep:=by
    rcases hr with hr | hr
    ·exact absurd hr c
    ·simpa using hr
   rw[hk,eB] at hm;have hi:keep[r - base]?=some r:=by
    rw[hk,List.getElem?_range']
    ·congr 1;omega
    ·omega
   have hlt:r - base < keep.length:=(af.1 hi).1;have hnd:keep.Nodup:=by rw[hk];exact List.nodup_range'
   have:keep.idxOf r=r - base:=by have e:=(af.1 hi).2;have:=hnd.idxOf_getElem (r - base) hlt;rw[e] at this;exact this
   omega
 congr 1;refine Prod.ext ?_ ?_
 ·exact map_id' fun v hv=>xQ fun r hr=>hf r (h1 v hv r hr)
 ·simp only[St.mk.injEq,and_true];rw[Fl]
  ·have e:keep.map (fun r=>kR (fun id=>if id < base then id else base+keep.idxOf id) (σ.heap.getD r default))=keep.map fun r=>σ.heap.getD r default:=by refine bQ fun r hr=>?_;have h4:=h3 r hr;have hlt:r < σ.heap.length:=h4.1.2;refine Lz fun q hq=>hf q (h4.2 q ?_);unfold fV;rw[aq hlt];rwa [aE,aq hlt] at hq
   rw[e];have hlen:base+keep.length<=σ.heap.length:=by
    by_cases h0:keep.length=0
    ·omega
    ·have hl:base+(keep.length - 1)∈keep:=by
      have:base+(keep.length - 1)∈List.range' base keep.length:=by rw[eB];omega
      rwa [<- hk] at this
     have:=(h3 _ hl).1.2;omega
   refine bK fun i=>?_;by_cases c:i < base
   ·rw[aA (by simp;omega),bX c,bX om]
   ·rw[aM (by simp;omega)];have hl:(List.take base σ.heap).length=base:=by simp;omega
    rw[hl,bW];by_cases c2:i < base+keep.length
    ·have hi:keep[i - base]?=some i:=by
      rw[hk,List.getElem?_range']
      ·congr 1;omega
      ·omega
     rw[hi,bX c2,bq,aE,aq om];rfl
    ·rw[aQ (l:=keep) om,aQ (by simp;omega)];rfl
  ·intro t ht b hb';have htl:t < base:=by simpa using (cT.1 ht).2
   rw[bX htl] at hb';refine Lz fun q hq=>hf q (h2 t ht q ?_);unfold fV;rw[hb'];exact hq
def adU(hp:List Blk):List Nat->List Nat:=@List.rec Nat (fun _=>List Nat) [] (fun t _ ih=>pQ hp t++ih)
theorem Qv(hp:List Blk):∀ l:List Nat,adU hp l=l.flatMap (fV hp)
 | []=>rfl
 | t::l=>by show pQ hp t++adU hp l=_;rw[Qv hp l,vv];rfl
def gcN(base:Nat)(vs:List Value)(σ:St)(ks:St->Option ρ)(kn:List Value->St->Option ρ):Option ρ:=
 fP (CZ σ.heap base) (ks σ)
 (stE σ fun hp L H d=>
  (fun olds=>(fun roots=>@List.rec Nat (fun _=>Option ρ) (C1 hp base fun hp'=>ks (St.mk hp' L H olds))
   (fun _ _ _=>(fun keep=>fP (and (Ly keep base) (adT base vs hp olds keep)) (C1 hp (base+jI keep) fun hp'=>ks (St.mk hp' L H olds)) (ob (gc base vs σ) fun r=>kn r.1 r.2)) (HU hp base 4096 roots [])) roots)
   (HS base (uj base (adU hp olds) []) vs)) (AK base d))
theorem Ol(base:Nat)(vs:List Value)(σ:St)(ks:St->Option ρ)(kn:List Value->St->Option ρ)(hk:∀ τ,ks τ=kn vs τ):gcN base vs σ ks kn=(gc base vs σ).bind fun r=>kn r.1 r.2:=by
 unfold gcN fP;rw[yc,jU];by_cases h:σ.heap.length<=base
 ·rw[decide_eq_true h];simp only[gc,if_pos h,ak,hk]
 ·rw[decide_eq_false h];simp only[C7,Fj,vu,Qv,aaN,bB,<- cG];have hg:gc base vs σ=match (vs.flatMap refs++(σ.fA.filter (· < base)).flatMap (fV σ.heap)).filter (base<=·) with
   | []=>some (vs,{ σ with heap:=σ.heap.take base,fA:=σ.fA.filter (· < base) })
   | r::rs=>qN base vs σ (reach σ.heap base 4096 (r::rs) []):=by unfold gc;rw[if_neg h];rfl
  cases hr:(vs.flatMap refs++(σ.fA.filter (· < base)).flatMap (fV σ.heap)).filter (base<=·) with
  | nil=>
   rw[hg,hr];simp only[tE,ak];rw[if_pos om,hk]
  | cons r rs=>
   simp only[yf];cases hc:and (Ly (reach σ.heap base 4096 (r::rs) []) base) (chk base vs σ (σ.fA.filter (· < base)) (reach σ.heap base 4096 (r::rs) [])) with
   | false=>exact oU _ _
   | true=>
    rw[au] at hc;have hs:=Yg hc.1 hc.2 om;rw[hg,hr];simp only[hs,ak,tE,iz];have hlen:base+(reach σ.heap base 4096 (r::rs) []).length<=σ.heap.length:=by
     have hcc:=hc.2;unfold chk at hcc;simp only[au,aF,bF,decide_eq_true_eq] at hcc;have hk':=C8 _ _ hc.1;by_cases h0:(reach σ.heap base 4096 (r::rs) []).length=0
     ·omega
     ·have hl:base+((reach σ.heap base 4096 (r::rs) []).length - 1)∈reach σ.heap base 4096 (r::rs) []:=by
       have:base+((reach σ.heap base 4096 (r::rs) []).length - 1)∈List.range' base (reach σ.heap base 4096 (r::rs) []).length:=by rw[eB];omega
       rwa [<- hk'] at this
      have:=(hcc.2 _ hl).1.2;omega
    rw[if_pos hlen,hk]
def gcK(base:Nat)(u:Value)(σ:St)(k:List Value->St->Option ρ):Option ρ:=gcN base [u] σ (fun τ=>k [u] τ) k
theorem adV(base:Nat)(u:Value)(σ:St)(k:List Value->St->Option ρ):gcK base u σ k=(gc base [u] σ).bind fun r=>k r.1 r.2:=Ol base [u] σ _ k fun _=>rfl
def n5:List Nat->List Nat->(List Nat->Option ρ)->Option ρ:=@List.rec Nat (fun _=>List Nat->(List Nat->Option ρ)->Option ρ) (fun a k=>k a) (fun d _ ih a k=>fP (zI d a) (ih a k) (ih (d::a) k))
theorem wR:∀ (l a:List Nat) (k:List Nat->Option ρ),n5 l a k=k (fX a l)
 | [],a,k=>rfl
 | d::l,a,k=>by show fP (zI d a) (n5 l a k) (n5 l (d::a) k)=_;unfold fP;rw[mS];simp only[fX,wR l];cases a.contains d<;>rfl
abbrev agR(ρ:Type):=fD->Nat->(Fr->St->Option ρ)->(Ex->Fr->St->Option ρ)->Fr->St->Option ρ
abbrev pR:=∀ ρ:Type,agR ρ
def tK(e:Ex)(f:Nat->Option ρ)(o:Option ρ):Option ρ:=@Ex.rec (fun _=>Option ρ) o f o e
def Om(e:Ex)(x y:Option ρ):Option ρ:=@Ex.rec (fun _=>Option ρ) x (fun _=>y) y e
def ah6(ia ib:pR):pR:=fun ρ cf n kn kx fr σ=>ia ρ cf n (fun fr σ=>ib ρ cf n kn kx fr σ) kx fr σ
def agS(c:Operand)(ia ib:pR):pR:=fun ρ cf n kn kx fr σ=>evK c fr fun v=>r7 v (fun b=>@Bool.rec (fun _=>Option ρ) (ib ρ cf n kn kx fr σ) (ia ρ cf n kn kx fr σ) b) none
def adW(id:Nat)(ib:pR):pR:=fun ρ cf n kn kx fr σ=>ib ρ cf n kn (fun e fr σ=>tK e (fun i=>fP (Nat.beq i id) (kn fr σ) (kx e fr σ)) (kx e fr σ)) fr σ
def zw(step:(Fr->St->Option ρ)->Fr->St->Option ρ):Nat->Fr->St->Option ρ:=@Nat.rec (fun _=>Fr->St->Option ρ) (fun _ _=>none) (fun _ ih=>step ih)
theorem C9(step:(Fr->St->Option ρ)->Fr->St->Option ρ)(m:Nat):zw step (m+1)=step (zw step m):=rfl
def agT(live:List Nat)(ib:pR):pR:=fun ρ cf n kn kx fr σ=>stE σ fun hp L H d=>frc (jI hp) fun base=>r9 live fr fun fr=>
 zw (fun ih fr σ=>ib ρ cf n (fun fr' σ'=>r9 live fr' fun fr'=>tJ base fr' σ' ih) (fun e fr' σ'=>stE σ' fun hp' L' H' d'=>n5 d' d fun d''=>kx e fr' (St.mk hp' L' H' d'')) fr σ) n fr (St.mk hp L H [])
def agU(c:fG):pR:=fun ρ cf n kn kx fr σ=>ob (exec cf n c fr σ) fun r=>Om r.1 (kn r.2.1 r.2.2) (kx r.1 r.2.1 r.2.2)
abbrev acd:=fD->Nat->Fr->St->Option (Ex×Fr×St)
def LA(f:pR):acd:=fun cf n fr σ=>f (Ex×Fr×St) cf n (fun fr σ=>some (.normal,fr,σ)) (fun e fr σ=>some (e,fr,σ)) fr σ
def Yh(gx ax bx:acd)(x:Operand)(g:Nat)(ps:List Nat):pR:=fun ρ cf n kn kx fr σ=>ob (match ev fr x with
  | some (.func (.func h) fi ca)=>
   if h==g&&fi.isEmpty then
    (gx (jh cf (jJ (ax cf n) (bx cf n) ps fr)) n (gS 0 (qP::ca.toList)) { σ with fA:=[] }).bind (nC fr σ)
   else none
  | _=>none) fun r=>Om r.1 (kn r.2.1 r.2.2) (kx r.1 r.2.1 r.2.2)
def jZ:fG->pR:=@fG.rec (fun _=>pR)
 (fun _ _ _ kn _ fr σ=>kn fr σ) (fun _ _ _ _ kx fr σ=>kx .ret fr σ)
 (fun ops _ cf _ kn _ fr σ=>HP ops cf fr σ kn)
 (fun ops _ cf _ kn _ fr σ=>zv ops (gE cf) [] 0 fr σ kn)
 (fun xs m ops _ cf _ kn _ fr σ=>ob (boxes fr xs) fun B=>tG m B ops (gE cf) [] fr σ kn)
 (fun ops=>agU (.lits ops))
 (fun _ _ ia ib=>ah6 ia ib) (fun c _ _ ia ib=>agS c ia ib) (fun id _ ib=>adW id ib) (fun live _ ib=>agT live ib)
 (fun id _ _ _ _ kx fr σ=>kx (.exit id) fr σ)
 (fun x g _ ps _ _ ig ia ib=>Yh (LA ig) (LA ia) (LA ib) x g ps)
def lX(r:Option (Ex×Fr×St))(kn:Fr->St->Option ρ)(kx:Ex->Fr->St->Option ρ):Option ρ:=r.bind fun r=>match r.1 with
 | .normal=>kn r.2.1 r.2.2
 | e=>kx e r.2.1 r.2.2
theorem Fm(r:Option (Ex×Fr×St))(kn:Fr->St->Option ρ)(kx:Ex->Fr->St->Option ρ):(ob r fun r=>Om r.1 (kn r.2.1 r.2.2) (kx r.1 r.2.1 r.2.2))=lX r kn kx:=by
 cases r with
 | none=>rfl
 | some r=>
  obtain⟨e,fr,σ⟩:=r;cases e<;>rfl
def ace(c:fG):Prop:=∀ (ρ:Type) (cf:fD) (n:Nat) (kn:Fr->St->Option ρ) (kx:Ex->Fr->St->Option ρ) (fr:Fr) (σ:St),jZ c ρ cf n kn kx fr σ=lX (exec cf n c fr σ) kn kx
theorem HV{c:fG}(h:ace c):LA (jZ c)=fun cf n=>exec cf n c:=by
 funext cf n fr σ;unfold LA;rw[h];unfold lX;cases exec cf n c fr σ with
 | none=>rfl
 | some r=>
  obtain⟨e,fr,σ⟩:=r;cases e<;>rfl
theorem pS:∀ c:fG,ace c
 | .skip=>fun ρ cf n kn kx fr σ=>rfl
 | .ret=>fun ρ cf n kn kx fr σ=>rfl
 | .region ops=>fun ρ cf n kn kx fr σ=>by
  show HP ops cf fr σ kn=_;rw[HQ];simp only[exec,lX];cases lI cf ops fr σ<;>rfl
 | .drawn ops=>fun ρ cf n kn kx fr σ=>by
  show zv ops (gE cf) [] 0 fr σ kn=_;rw[C6];simp only[exec,lX];cases lK (gE cf) [] 0 ops fr σ<;>rfl
 | .sv xs m ops=>fun ρ cf n kn kx fr σ=>by
  show(ob (boxes fr xs) fun B=>tG m B ops (gE cf) [] fr σ kn)=_;rw[oU];simp only[exec,lX,wN];cases boxes fr xs with
  | none=>rfl
  | some B=>
   simp only[ak];cases j3 (gE cf) m B [] ops fr σ<;>rfl
 | .lits ops=>fun ρ cf n kn kx fr σ=>Fm _ kn kx
 | .seq a b=>fun ρ cf n kn kx fr σ=>by
  show jZ a ρ cf n (fun fr σ=>jZ b ρ cf n kn kx fr σ) kx fr σ=_;rw[pS a];simp only[exec,lX];cases exec cf n a fr σ with
  | none=>rfl
  | some r=>
   obtain⟨e,fr',σ'⟩:=r;cases e with
   | normal=>simp only[ak];rw[pS b];rfl
   | _=>rfl
 | .cond c a b=>fun ρ cf n kn kx fr σ=>by
  show(evK c fr fun v=>r7 v (fun q=>@Bool.rec (fun _=>Option ρ) (jZ b ρ cf n kn kx fr σ) (jZ a ρ cf n kn kx fr σ) q) none)=_;rw[iU];simp only[exec,Lt];cases ev fr c with
  | none=>rfl
  | some v=>
   cases v<;>try rfl
   rename_i q;cases q
   ·exact pS b ρ cf n kn kx fr σ
   ·exact pS a ρ cf n kn kx fr σ
 | .block id b=>fun ρ cf n kn kx fr σ=>by
  show jZ b ρ cf n kn (fun e fr σ=>tK e (fun i=>fP (Nat.beq i id) (kn fr σ) (kx e fr σ)) (kx e fr σ)) fr σ=_;rw[pS b];simp only[exec,lX];cases exec cf n b fr σ with
  | none=>rfl
  | some r=>
   obtain⟨e,fr',σ'⟩:=r;cases e with
   | exit i=>
    simp only[ak,bq];show fP (Nat.beq i id) (kn fr' σ') (kx (.exit i) fr' σ')=_;unfold fP;by_cases h:i=id
    ·subst h;rw[dJ,if_pos rfl]
    ·have hb:Nat.beq i id=false:=by rw[bL];intro hq;exact h (aU hq)
     rw[hb,if_neg h]
   | _=>rfl
 | .loop live b=>fun ρ cf n kn kx fr σ=>by
  show(stE σ fun hp L H d=>frc (jI hp) fun base=>r9 live fr fun fr=>
   zw (fun ih fr σ=>jZ b ρ cf n (fun fr' σ'=>r9 live fr' fun fr'=>tJ base fr' σ' ih) (fun e fr' σ'=>stE σ' fun hp' L' H' d'=>n5 d' d fun d''=>kx e fr' (St.mk hp' L' H' d'')) fr σ) n fr (St.mk hp L H []))=_
  have hb:∀ (ρ:Type) (cf:fD) (n:Nat) (kn:Fr->St->Option ρ) (kx:Ex->Fr->St->Option ρ) (fr:Fr) (σ:St),jZ b ρ cf n kn kx fr σ=lX (exec cf n b fr σ) kn kx:=pS b;simp only[jU,iV,iz,tH,exec,hb];generalize fr.keep live=fr1;generalize hσ:({ heap:=σ.heap,lock:=σ.lock,hid:=σ.hid,fA:=[] } : St)=σ1;have key:∀ (m:Nat) (fr1:Fr) (σ1:St),zw (fun ih fr' σ'=>lX (exec cf n b fr' σ') (fun fr' σ'=>tJ σ.heap.length (fr'.keep live) σ' ih) (fun e fr' σ'=>n5 σ'.fA σ.fA fun d''=>kx e fr' ⟨σ'.heap,σ'.lock,σ'.hid,d''⟩)) m fr1 σ1 =
    lX ((iter (exec cf n b) live σ.heap.length m fr1 σ1).map fun r=>(r.1,r.2.1,{ r.2.2 with fA:=fX σ.fA r.2.2.fA })) kn kx:=by
   intro m;induction m with
   | zero=>intro fr1 σ1;rfl
   | succ m ih=>
    intro fr1 σ1;generalize hX:zw (fun ih fr' σ'=>lX (exec cf n b fr' σ') (fun fr' σ'=>tJ σ.heap.length (fr'.keep live) σ' ih) (fun e fr' σ'=>n5 σ'.fA σ.fA fun d''=>kx e fr' ⟨σ'.heap,σ'.lock,σ'.hid,d''⟩)) m=X at ih;rw[C9,hX];simp only[iter,wO,wR];cases exec cf n b fr1 σ1 with
    | none=>rfl
    | some r=>
     obtain⟨e,fr',σ'⟩:=r;cases e with
     | normal=>
      simp only[lX,ak];cases kS σ.heap.length (fr'.keep live) σ' with
      | none=>rfl
      | some q=>
       simp only[ak];exact ih q.1 q.2
     | _=>rfl
  exact key n fr1 σ1
 | .exit id=>fun ρ cf n kn kx fr σ=>rfl
 | .each x g gc ps ba b=>fun ρ cf n kn kx fr σ=>by show Yh (LA (jZ gc)) (LA (jZ ba)) (LA (jZ b)) x g ps ρ cf n kn kx fr σ=_;unfold Yh;rw[Fm,HV (pS gc),HV (pS ba),HV (pS b)];rfl
def Yi(fr:Fr)(hp:List Blk)(H:List Nat):mX->(Value->Option ρ)->Option ρ:=@mX.rec (fun _=>(Value->Option ρ)->Option ρ) (fun t k=>HE t fr k)
 (fun a n k=>HE a fr fun v=>xZ v (fun a=>DR hp H a fun _ _ cs=>rdK cs a.off n k) none)
theorem aaO(fr:Fr)(σ:St)(r:mX)(k:Value->Option ρ):Yi fr σ.heap σ.hid r k=(wZ fr σ r).bind k:=by
 cases r with
 | tmp t=>exact wI t k fr
 | cell a n=>
  show(HE a fr fun v=>xZ v (fun a=>DR σ.heap σ.hid a fun _ _ cs=>rdK cs a.off n k) none)=_;rw[wI];simp only[ot,wZ];cases fr.get a with
  | none=>rfl
  | some v=>
   cases v<;>try rfl
   rename_i a;cases a with
   | none=>rfl
   | some a=>
    simp only[ak];rw[Qp σ a (fun _ cs=>rdK cs a.off n k)];cases σ.blk a with
    | none=>rfl
    | some r=>simp only[ak,HK]
def LB(fr:Fr)(hp:List Blk)(H:List Nat):List mX->(List Value->Option ρ)->Option ρ:=@List.rec mX (fun _=>(List Value->Option ρ)->Option ρ) (fun k=>k []) (fun r _ ih k=>Yi fr hp H r fun v=>ih fun l=>k (v::l))
theorem LC(fr:Fr)(σ:St):∀ (l:List mX) (k:List Value->Option ρ),LB fr σ.heap σ.hid l k=(kj fr σ l).bind k
 | [],k=>rfl
 | r::l,k=>by
  show(Yi fr σ.heap σ.hid r fun v=>LB fr σ.heap σ.hid l fun l=>k (v::l))=_;rw[aaO];simp only[kj];cases wZ fr σ r with
  | none=>rfl
  | some v=>
   simp only[ak,LC fr σ l];cases kj fr σ l<;>rfl
def On(vs:List Value)(k:Value->Option ρ):Option ρ:=@List.rec Value (fun _=>Option ρ) (ob (lM []) k) (fun v l _=>@List.rec Value (fun _=>Option ρ) (k v) (fun w m _=>ob (lM (v::w::m)) k) l) vs
theorem TB(vs:List Value)(k:Value->Option ρ):On vs k=(lM vs).bind k:=by
 cases vs with
 | nil=>show ob (lM []) k=_;exact oU _ _
 | cons v l=>cases l with
  | nil=>rfl
  | cons w m=>show ob (lM (v::w::m)) k=_;exact oU _ _
def agV(vs:List Value)(k:Value->Option ρ):Option ρ:=@List.rec Value (fun _=>Option ρ) none (fun v l _=>@List.rec Value (fun _=>Option ρ) (k v) (fun _ _ _=>none) l) vs
def DT(rs:List mX)(base:Nat)(d:List Nat)(fr:Fr)(τ:St):Option (Value×St):=
 stE τ fun hp L H d'=>LB fr hp H rs fun vs=>On vs fun u=>gcK base u (St.mk hp L H d') fun vs τ'=>agV vs fun v=>stE τ' fun hp' L' H' d'=>n5 d' d fun d''=>some (v,St.mk hp' L' H' d'')
def LD(cf:fD)(n:Nat)(fn:AFn)(args:List Value)(σ:St):Option (Value×St):=
 @AFn.rec (fun _=>Option (Value×St)) (fun code rs=>stE σ fun hp L H d=>frc (jI hp) fun base=>
  jZ code (Value×St) cf n (fun fr τ=>DT rs base d fr τ) (fun e fr τ=>tK e (fun _=>none) (DT rs base d fr τ)) (gS 0 args) (St.mk hp L H [])) fn
theorem LF:LD=body:=by
 funext cf n fn args σ;obtain⟨code,rs⟩:=fn;show(stE σ fun hp L H d=>frc (jI hp) fun base=>
  jZ code (Value×St) cf n (fun fr τ=>DT rs base d fr τ) (fun e fr τ=>tK e (fun _=>none) (DT rs base d fr τ)) (gS 0 args) (St.mk hp L H []))=_
 have hb:∀ (ρ:Type) (cf:fD) (n:Nat) (kn:Fr->St->Option ρ) (kx:Ex->Fr->St->Option ρ) (fr:Fr) (σ:St),jZ code ρ cf n kn kx fr σ=lX (exec cf n code fr σ) kn kx:=pS code;simp only[jU,iV,iz,hb,body];have hend:∀ (fr:Fr) (τ:St),DT rs σ.heap.length σ.fA fr τ=(kj fr τ rs).bind fun vs=>(lM vs).bind fun u=>(gc σ.heap.length [u] τ).bind fun q=>match q.1 with
   | [v]=>some (v,{ q.2 with fA:=fX σ.fA q.2.fA })
   | _=>none:=fun fr τ=>by
  unfold DT;simp only[jU,LC,TB,adV,wR];cases kj fr τ rs with
  | none=>rfl
  | some vs=>
   simp only[ak];cases lM vs with
   | none=>rfl
   | some u=>
    simp only[ak];cases gc σ.heap.length [u] ⟨τ.heap,τ.lock,τ.hid,τ.fA⟩ with
    | none=>rfl
    | some q=>
     obtain⟨l,τ'⟩:=q;simp only[ak];cases l with
     | nil=>rfl
     | cons v l=>cases l<;>rfl
 simp only[hend];cases exec cf n code (gS 0 args) ⟨σ.heap,σ.lock,σ.hid,[]⟩ with
 | none=>rfl
 | some r=>
  obtain⟨e,fr,τ⟩:=r;cases e<;>rfl
def uL(f:Nat)(l:List (Nat×AFn))(k:AFn->Option ρ):Option ρ:=@List.rec (Nat×AFn) (fun _=>Option ρ) none (fun p _ ih=>@Bool.rec (fun _=>Option ρ) ih (k p.2) (Nat.beq p.1 f)) l
theorem Da(f:Nat)(k:AFn->Option ρ):∀ l:List (Nat×AFn),uL f l k=(gW l f).bind k
 | []=>rfl
 | (a,v)::l=>by
  show @Bool.rec (fun _=>Option ρ) (uL f l k) (k v) (Nat.beq a f)=_;simp only[gW];by_cases h:a=f
  ·subst h;simp[dJ]
  ·have:Nat.beq a f=false:=by rw[bL];intro hb;exact h (aU hb)
   rw[if_neg h,this];exact Da f k l
def runK(l:List (Nat×AFn)):Nat->fD:=@Nat.rec (fun _=>fD) (fun _ _ _=>none)
 (fun m ih g=>@Fn.rec (fun _=>List Value->St->Option (Value×St)) (fun f args σ=>uL f l fun fn=>LD ih m fn args σ) (fun _ _ _=>none) (fun _ _ _ _=>none) (fun _ _ _ _ _ _=>none) (fun _ _ _=>none) g)
theorem Qw(l:List (Nat×AFn)):∀ n,runK l n=nT l n
 | 0=>by funext g args σ;rfl
 | n+1=>by
  funext g args σ;cases g with
  | func f=>
   show(uL f l fun fn=>LD (runK l n) n fn args σ)=_;rw[Da,LF,Qw l n];rfl
  | _=>rfl
theorem Yj{l:List (Nat×AFn)}{n:Nat}{g:Fn}{args:List Value}{σ:St}{r:Option (Value×St)}(h:runK l n g args σ=r):run (.base l) n g args σ=r:=by rw[<- h,Qw];rfl
end
end AM
namespace AM
open Go
noncomputable section
variable{ρ:Type}
def adX{α:Type}(vs:List α):List α->(List α->Option ρ)->Option ρ:=@List.rec α (fun _=>(List α->Option ρ)->Option ρ) (fun k=>k vs) (fun a _ ih k=>ih fun l=>k (a::l))
theorem Qx{α:Type}(vs:List α):∀ (l:List α) (k:List α->Option ρ),adX vs l k=k (l++vs)
 | [],k=>rfl
 | a::l,k=>by show adX vs l (fun l=>k (a::l))=_;rw[Qx vs l];rfl
def Yk(hp:List Blk)(H:List Nat)(a:Addr)(k:Nat->Bool->List Value->Option ρ)(e:Option ρ):Option ρ:=
 @Bool.rec (fun _=>Option ρ) (@Option.rec Blk (fun _=>Option ρ) e (fun b=>@Blk.rec (fun _=>Option ρ) (fun g pl cs=>@Bool.rec (fun _=>Option ρ) e (k g pl cs) (Lw a.spot g)) (fun _=>e) e b) (nthO hp a.block)) e (zI a.block H)
where nthO (hp:List Blk) (i:Nat):Option Blk:=wK hp i some
theorem Qy(σ:St)(a:Addr)(k:Nat->Bool->List Value->Option ρ)(e:Option ρ)(h:∀ g pl cs,σ.heap[a.block]?=some (.cells g pl cs)->σ.blk a=some (pl,cs)->k g pl cs=e):Yk σ.heap σ.hid a k e=e:=by
 unfold Yk Yk.nthO;rw[mS,oq];cases hh:σ.hid.contains a.block with
 | true=>rfl
 | false=>
  cases hb:σ.heap[a.block]? with
  | none=>rfl
  | some b=>
   cases b with
   | cells g pl cs=>
    show @Bool.rec (fun _=>Option ρ) e (k g pl cs) (Lw a.spot g)=e;rw[wM];by_cases hs:a.spot=some g
    ·simp only[hs,decide_true];refine h g pl cs hb ?_;unfold St.blk;rw[hh,hb];simp[hs]
    ·simp[hs]
   | _=>rfl
def slO(v:Value)(k:Option Addr->Nat->Nat->Option ρ)(e:Option ρ):Option ρ:=
 @Value.rec (fun _=>(Option Addr->Nat->Nat->Option ρ)->Option ρ->Option ρ) (fun _=>PUnit) (fun _=>PUnit)
  (fun _ _ e=>e) (fun _ _ _ e=>e) (fun _ _ _ e=>e) (fun _ _ _ _ e=>e) (fun _ _ e=>e) (fun _ _ e=>e) (fun a l c f _=>f a l c) (fun _ _ e=>e) (fun _ _ e=>e) (fun _ _ _ _ _ _ e=>e) (fun _ e=>e) (fun _ _ _ _ e=>e) (fun _ e=>e) (fun _ _ _ e=>e) (fun _ _ _ e=>e) (fun _ _=>⟨⟩) ⟨⟩ (fun _ _ _ _=>⟨⟩) v k e
theorem Oo(v:Value)(k:Option Addr->Nat->Nat->Option ρ)(e:Option ρ)(h:∀ a n c,v=.slice a n c->k a n c=e):slO v k e=e:=by
 cases v<;>first
  | rfl
  | exact h _ _ _ rfl
def HW(n:Nat):Bool:=Nat.ble n 1048576
theorem Fo(n:Nat):HW n=small n:=by
 unfold HW small;by_cases h:n<=1048576
 ·rw[bV h];simp[h]
 ·have:Nat.ble n 1048576=false:=by rw[bL];intro hb;exact h (bM hb)
  rw[this];simp[h]
theorem adY{a b:Nat} : Nat.beq a b=decide (a=b):=by
 by_cases h:a=b
 ·subst h;simp[dJ]
 ·have:Nat.beq a b=false:=by rw[bL];intro hb;exact h (aU hb)
  rw[this];simp[h]
theorem adZ{a b:Nat} : Nat.ble a b=decide (a<=b):=by
 by_cases h:a<=b
 ·rw[bV h];simp[h]
 ·have:Nat.ble a b=false:=by rw[bL];intro hb;exact h (bM hb)
  rw[this];simp[h]
def acf(s:Option Nat):Nat:=@Option.rec Nat (fun _=>Nat) 0 (fun g=>g) s
theorem Yl(s:Option Nat):acf s=s.getD 0:=by cases s<;>rfl
def ad0(pl:Bool)(esz:Nat)(x:Value)(m:Nat)(vs:List Value)(σ:St)(k:Value->St->Option ρ)(nA:Option ρ):Option ρ:=
 stE σ fun hp L H d=>slO x (fun oa n e=>@Option.rec Addr (fun _=>Option ρ)
  (fP (and (Nat.beq n 0) (and (Nat.beq e 0) (and (not (Nat.beq m 0)) (and (HW (Nat.mul m esz)) (and (qK vr vs) (or (not pl) (qK scB vs)))))))
   (frc (jI hp) fun b=>frc (Nat.mul m esz) fun g=>Qo (.cells g pl vs) hp fun hp'=>k (.slice (some (Addr.mk b 0 (some g))) m esz) (St.mk hp' L H d)) nA)
  (fun a=>fP (and (not (Nat.beq m 0)) (and (Nat.ble L a.block) (and (Nat.beq e esz) (Nat.beq a.off 0))))
   (Yk hp H a (fun g pl' cs=>fP (and (qK vr vs) (and (or (not pl') (qK scB vs)) (and (Nat.beq (Nat.mul n esz) (jI cs)) (and (HW (Nat.mul (Nat.add n m) esz)) (Nat.ble (acf a.spot) (jI cs))))))
    (frc (Nat.add n m) fun nm=>frc (Nat.mul nm esz) fun g'=>adX vs cs fun cs'=>Oa (.cells g' pl' cs') hp a.block (fun hp'=>k (.slice (some (Addr.mk a.block 0 (some g'))) nm esz) (St.mk hp' L H (fP (or (qK scB vs) (zI a.block d)) d (a.block::d)))) nA) nA) nA) nA) oa) nA
theorem aaP(pl:Bool)(esz:Nat)(x:Value)(m:Nat)(vs:List Value)(σ:St)(k:Value->St->Option ρ):ad0 pl esz x m vs σ k ((σ.append pl esz x m vs).bind fun r=>k r.1 r.2)=(σ.append pl esz x m vs).bind fun r=>k r.1 r.2:=by
 unfold ad0;rw[jU];refine Oo _ _ _ fun oa n e hx=>?_;subst hx;cases oa with
 | none=>
  simp only[rS,AJ,pP,Fo,adY];show fP _ _ _=_;unfold fP;cases hc:(decide (n=0)&&(decide (e=0)&&(!decide (m=0)&&(small (m.mul esz)&&(vs.all fY&&(!pl||vs.all sc)))))) with
  | false=>rfl
  | true=>
   simp only[au,decide_eq_true_eq,bU,decide_eq_false_iff_not] at hc;obtain⟨rfl,rfl,hm,hs,hv,hp⟩:=hc;simp only[iV,iz,C2];unfold St.append;have hs':small (m*esz)=true:=hs;simp only[if_neg hm,hs',hv,hp,Bool.and_self,if_true,ak];rfl
 | some a=>
  simp only[adY,adZ];show fP _ _ _=_;unfold fP;cases hc:(!decide (m=0)&&(decide (σ.lock<=a.block)&&(decide (e=esz)&&decide (a.off=0)))) with
  | false=>rfl
  | true=>
   simp only[au,decide_eq_true_eq,bU,decide_eq_false_iff_not] at hc;obtain⟨hm,hL,rfl,ho⟩:=hc;refine Qy σ a _ _ fun g pl' cs hb hblk=>?_;simp only[rS,AJ,pP,Fo,iz,Yl];cases hd:(vs.all fY&&((!pl'||vs.all sc)&&(decide (n.mul e=cs.length)&&(small ((n.add m).mul e)&&decide (a.spot.getD 0<=cs.length))))) with
   | false=>rfl
   | true=>
    simp only[au,decide_eq_true_eq] at hd;obtain⟨hv,hp,hl,hs,hsp⟩:=hd;have hlt:a.block < σ.heap.length:=(af.1 hb).1;simp only[iV,Qx,wL,if_pos hlt,mS];unfold St.append;have hs':small ((n+m)*e)=true:=hs;have hl':n*e=cs.length:=hl;have n4:(decide (a.block < σ.lock)||decide (e≠e))=false:=by simp;omega
    simp only[if_neg hm,n4,aO,if_false,hblk,ak,hv,hp,Bool.and_self,if_true,ho,aX,hl',hs',decide_true,decide_eq_true hsp,gm,dX];obtain⟨ab,ao,asp⟩:=a;simp only at ho;subst ho;show k _ _=k _ _;congr 2;cases(vs.all sc||σ.fA.contains ab)<;>rfl
def aaQ(pl:Bool)(esz:Nat)(x y:Value)(σ:St)(k:Value->St->Option ρ)(nA:Option ρ):Option ρ:=
 slO y (fun ob' m _=>@Option.rec Addr (fun _=>Option ρ) nA (fun b=>stE σ fun hp _ H _=>Yk hp H b (fun _ _ cs=>fP (Nat.ble (Nat.add b.off (Nat.mul m esz)) (jI cs)) (Lv cs b.off fun r=>C1 r (Nat.mul m esz) fun vs=>ad0 pl esz x m vs σ k nA) nA) nA) ob') nA
theorem aaR(pl:Bool)(esz:Nat)(x y:Value)(σ:St)(k:Value->St->Option ρ):aaQ pl esz x y σ k (((σ.news esz y).bind fun(m,vs)=>σ.append pl esz x m vs).bind fun r=>k r.1 r.2)=((σ.news esz y).bind fun(m,vs)=>σ.append pl esz x m vs).bind fun r=>k r.1 r.2:=by
 unfold aaQ;refine Oo _ _ _ fun oa m c hy=>?_;subst hy;cases oa with
 | none=>rfl
 | some b=>
  simp only[jU];refine Qy σ b _ _ fun g pl' cs hb hblk=>?_;simp only[adZ,iz,fP];cases hc:decide (b.off.add (m.mul esz)<=cs.length) with
  | false=>rfl
  | true=>
   have hc':b.off+m*esz<=cs.length:=of_decide_eq_true hc;simp only[C0,tE,dL];rw[if_pos om,if_pos (by show m*esz<=_;omega)];have hn:σ.news esz (.slice (some b) m c)=some (m,(cs.drop b.off).take (m*esz)):=by simp only[St.news,hblk,ak,if_pos hc']
   rw[hn];exact aaP pl esz x m _ σ k
def Oq(y:Nat)(v:Option Value)(d:Nat)(k:Nat->Option ρ):Option ρ:=@Option.rec Value (fun _=>Option ρ) (k d) (fun v=>su v (fun _ i=>lW (fun m=>fP (Nat.ble m y) (frc m k) none) (fun _=>none) i) none) v
theorem TC(y:Nat)(v:Option Value)(d:Nat)(k:Nat->Option ρ):Oq y v d k=(iG y v d).bind k:=by
 cases v with
 | none=>rfl
 | some v=>
  cases v<;>try rfl
  rename_i q i;show lW (fun m=>fP (Nat.ble m y) (frc m k) none) (fun _=>none) i=_;simp only[iG];cases i with
  | ofNat m=>
   simp only[lW,iV,adZ,fP];by_cases h:m<=y
   ·rw[if_pos ⟨by simp only[cF];omega,by simp only[cF];omega⟩];simp[h]
   ·rw[if_neg (by simp only[cF];omega)];simp[h]
  | negSucc m=>rw[if_neg om];rfl
def HX(esz:Nat)(v:Value)(lo hi:Option Value)(k:Value->Option ρ)(nA:Option ρ):Option ρ:=
 slO v (fun oa n e=>@Option.rec Addr (fun _=>Option ρ) nA (fun a=>fP (or (Nat.beq e 0) (Nat.beq e esz))
  (Oq n hi n fun h=>Oq h lo 0 fun l=>adE a fun b o s=>frc (Nat.add o (Nat.mul l esz)) fun o'=>frc (Nat.sub h l) fun len=>k (.slice (some (Addr.mk b o' s)) len e)) nA) oa) nA
theorem TD(esz:Nat)(v:Value)(lo hi:Option Value)(k:Value->Option ρ):HX esz v lo hi k ((kJ esz v lo hi none).bind k)=(kJ esz v lo hi none).bind k:=by
 unfold HX;refine Oo _ _ _ fun oa n e hv=>?_;subst hv;cases oa with
 | none=>rfl
 | some a=>
  simp only[adY];show fP _ _ _=_;unfold fP;cases hc:(decide (e=0)||decide (e=esz)) with
  | false=>rfl
  | true=>
   have hc':e=0\/e=esz:=by simpa using hc
   simp only[TC,iV];have hs:kJ esz (.slice (some a) n e) lo hi none=(lH n lo hi none).map fun(l,h,m)=>.slice (some { a with off:=a.off+l*esz }) (h - l) (if m.isSome then 0 else e):=by simp only[kJ,if_pos hc']
   rw[hs];simp only[lH];cases iG n hi n with
   | none=>rfl
   | some h=>
    simp only[ak];cases iG h lo 0 with
    | none=>rfl
    | some l=>cases a;rfl
def agW(o:Option Operand)(fr:Fr)(k:Option Value->Option ρ):Option ρ:=@Option.rec Operand (fun _=>Option ρ) (k none) (fun x=>evK x fr fun v=>k (some v)) o
theorem aaS(o:Option Operand)(fr:Fr)(k:Option Value->Option ρ):agW o fr k=(evo fr o).bind k:=by
 cases o with
 | none=>rfl
 | some x=>
  show evK x fr (fun v=>k (some v))=_;rw[iU];simp only[evo];cases ev fr x<;>rfl
def Qz(fi ca:List Value)(vs:List Value):List Value:=@List.rec Value (fun _=>List Value) (@List.rec Value (fun _=>List Value) (@List.rec Value (fun _=>List Value) [] (fun a _ ih=>a::ih) ca) (fun a _ ih=>a::ih) vs) (fun a _ ih=>a::ih) fi
theorem Ym(fi ca vs:List Value):Qz fi ca vs=fi++vs++ca:=by
 have h:∀ (l m:List Value),@List.rec Value (fun _=>List Value) m (fun a _ ih=>a::ih) l=l++m:=fun l m=>by
  induction l with
  | nil=>rfl
  | cons a l ih=>exact congrArg (a::·) ih
 unfold Qz;rw[h,h,h];simp
def fnO(v:Value)(k:Nat->Array Value->Array Value->Option ρ)(e:Option ρ):Option ρ:=
 @Value.rec (fun _=>(Nat->Array Value->Array Value->Option ρ)->Option ρ->Option ρ) (fun _=>PUnit) (fun _=>PUnit)
  (fun _ _ e=>e) (fun _ _ _ e=>e) (fun _ _ _ e=>e) (fun _ _ _ _ e=>e) (fun _ _ e=>e) (fun _ _ e=>e) (fun _ _ _ _ e=>e) (fun _ _ e=>e) (fun _ _ e=>e) (fun fn fi ca _ _ f e=>@Fn.rec (fun _=>Option ρ) (fun h=>f h fi ca) (fun _=>e) (fun _ _=>e) (fun _ _ _ _=>e) (fun _=>e) fn) (fun _ e=>e) (fun _ _ _ _ e=>e) (fun _ e=>e) (fun _ _ _ e=>e) (fun _ _ _ e=>e) (fun _ _=>⟨⟩) ⟨⟩ (fun _ _ _ _=>⟨⟩) v k e
theorem ad1(v:Value)(k:Nat->Array Value->Array Value->Option ρ)(e:Option ρ)(h:∀ g fi ca,v=.func (.func g) fi ca->k g fi ca=e):fnO v k e=e:=by
 cases v<;>try rfl
 rename_i fn fi ca;cases fn<;>first
  | rfl
  | exact h _ _ _ rfl
end
end AM
namespace AM
open Go
noncomputable section
structure W(α:Type 1):Type 1 where
 run:α
inductive FrL where
 | nil
 | cons (t:Nat) (v:Value) (l:FrL)
def ofL:FrL->Fr:=@FrL.rec (fun _=>Fr) [] (fun t v _ ih=>(t,v)::ih)
def toL:Fr->FrL:=@List.rec (Nat×Value) (fun _=>FrL) .nil (fun p _ ih=>.cons p.1 p.2 ih)
theorem nB:∀ fr:Fr,ofL (toL fr)=fr
 | []=>rfl
 | (t,v)::l=>by show(t,v)::ofL (toL l)=_;rw[nB l]
theorem rU:∀ fr:FrL,toL (ofL fr)=fr
 | .nil=>rfl
 | .cons t v l=>by show FrL.cons t v (toL (ofL l))=_;rw[rU l]
section
variable{ρ:Type}
def LG(t:Nat)(fr:FrL)(k:Value->Option ρ):Option ρ:=@FrL.rec (fun _=>Option ρ) none (fun a v _ ih=>@Bool.rec (fun _=>Option ρ) ih (k v) (Nat.beq a t)) fr
theorem wT(t:Nat)(k:Value->Option ρ):∀ fr:FrL,LG t fr k=HE t (ofL fr) k
 | .nil=>rfl
 | .cons a v l=>by show @Bool.rec (fun _=>Option ρ) (LG t l k) (k v) (Nat.beq a t)=@Bool.rec (fun _=>Option ρ) (HE t (ofL l) k) (k v) (Nat.beq a t);rw[wT t k l]
def getLE(t:Nat)(fr:FrL)(k:Value->Option ρ)(e:Option ρ):Option ρ:=@FrL.rec (fun _=>Option ρ) e (fun a v _ ih=>@Bool.rec (fun _=>Option ρ) ih (k v) (Nat.beq a t)) fr
theorem getLE_eq(t:Nat)(k:Value->Option ρ)(e:Option ρ):∀ fr:FrL,getLE t fr k e=Oi t (ofL fr) k e
 | .nil=>rfl
 | .cons a v l=>by show @Bool.rec (fun _=>Option ρ) (getLE t l k e) (k v) (Nat.beq a t)=@Bool.rec (fun _=>Option ρ) (Oi t (ofL l) k e) (k v) (Nat.beq a t);rw[getLE_eq t k e l]
end
abbrev EvL:=∀ ρ:Type,FrL->(Value->Option ρ)->Option ρ
def evL:Operand->W EvL:=@Operand.rec (fun _=>W EvL) (fun t=>⟨fun _ fr k=>LG t fr k⟩) (fun v=>⟨fun _ _ k=>k v⟩) (fun _=>⟨fun _ _ _=>none⟩) (fun f=>⟨fun _ _ k=>k (.func (.func f) #[] #[])⟩)
theorem oY(x:Operand)(ρ:Type)(fr:FrL)(k:Value->Option ρ):(evL x).run ρ fr k=evK x (ofL fr) k:=by
 cases x<;>first
  | rfl
  | exact wT _ _ _
abbrev agX:=∀ ρ:Type,FrL->(List Value->Option ρ)->Option ρ
def TE:List Operand->W agX:=@List.rec Operand (fun _=>W agX) ⟨fun _ _ k=>k []⟩ (fun x _ ih=>⟨fun ρ fr k=>(evL x).run ρ fr fun v=>ih.run ρ fr fun l=>k (v::l)⟩)
theorem HY:∀ (xs:List Operand) (ρ:Type) (fr:FrL) (k:List Value->Option ρ),(TE xs).run ρ fr k=XU xs (ofL fr) k
 | [],ρ,fr,k=>rfl
 | x::l,ρ,fr,k=>by show(evL x).run ρ fr (fun v=>(TE l).run ρ fr fun l=>k (v::l))=evK x (ofL fr) (fun v=>XU l (ofL fr) fun l=>k (v::l));rw[oY];congr 1;funext v;exact HY l ρ fr _
abbrev OpL:=∀ ρ:Type,fD->FrL->St->(Value->St->Option ρ)->Option ρ
def un1(x:Operand)(b:∀ ρ:Type,Value->St->(Value->St->Option ρ)->Option ρ):W OpL:=⟨fun ρ _ fr σ k=>(evL x).run ρ fr fun v=>b ρ v σ k⟩
def un2(x y:Operand)(b:∀ ρ:Type,Value->Value->St->(Value->St->Option ρ)->Option ρ):W OpL:=⟨fun ρ _ fr σ k=>(evL x).run ρ fr fun v=>(evL y).run ρ fr fun w=>b ρ v w σ k⟩
def kP(o:AOp):W OpL:=⟨fun ρ cf fr σ k=>ob (aop cf o (ofL fr) σ) fun r=>k r.1 r.2⟩
def Yn:Option Operand->W (∀ ρ:Type,FrL->(Option Value->Option ρ)->Option ρ):=@Option.rec Operand (fun _=>W (∀ ρ:Type,FrL->(Option Value->Option ρ)->Option ρ)) ⟨fun _ _ k=>k none⟩ (fun x=>⟨fun ρ fr k=>(evL x).run ρ fr fun v=>k (some v)⟩)
theorem aaT(o:Option Operand)(ρ:Type)(fr:FrL)(k:Option Value->Option ρ):(Yn o).run ρ fr k=agW o (ofL fr) k:=by
 cases o with
 | none=>rfl
 | some x=>exact oY x ρ fr _
def ad3(esz:Nat)(x:Operand)(lo hi mx:Option Operand):W OpL:=@Option.rec Operand (fun _=>W OpL)
 ⟨fun ρ cf fr σ k=>(evL x).run ρ fr fun v=>(Yn lo).run ρ fr fun lo=>(Yn hi).run ρ fr fun hi=>HX esz v lo hi (fun u=>k u σ) (ob (kJ esz v lo hi none) fun u=>k u σ)⟩
 (fun m=>kP (.slice esz x lo hi (some m))) mx
def aaU(pl:Bool)(esz:Nat)(x y:Operand):W OpL:=⟨fun ρ cf fr σ k=>(evL x).run ρ fr fun x=>(evL y).run ρ fr fun y=>aaQ pl esz x y σ k (ob ((σ.news esz y).bind fun(m,vs)=>σ.append pl esz x m vs) fun r=>k r.1 r.2)⟩
def ad4(x:Operand)(args:List Operand):W OpL:=⟨fun ρ cf fr σ k=>(evL x).run ρ fr fun v=>fnO v (fun g fi ca=>(TE args).run ρ fr fun vs=>ob (cf (.func g) (Qz fi.toList ca.toList vs) σ) fun r=>@Prod.rec Value St (fun _=>Option ρ) k r) (ob (aop cf (.iP x args) (ofL fr) σ) fun r=>k r.1 r.2)⟩
abbrev acg:=∀ ρ:Type,qJ ρ
def Yo:BinOp->W acg:=@BinOp.rec (fun _=>W acg) ⟨fun _=>agK⟩ ⟨fun _=>agL⟩ ⟨fun _=>agM⟩ ⟨fun _=>agN⟩ ⟨fun _=>agO⟩ ⟨fun _=>N9 Nat.land⟩ ⟨fun _=>N9 Nat.lor⟩ ⟨fun _=>N9 Nat.xor⟩ ⟨fun _=>agP⟩ ⟨fun _=>agQ⟩ ⟨fun _=>ab9⟩ ⟨fun _=>zH eqB⟩ ⟨fun _=>zH fun a b=>!(eqB a b)⟩ ⟨fun _=>zH ltB⟩ ⟨fun _=>zH leB⟩ ⟨fun _=>zH fun a b=>ltB b a⟩ ⟨fun _=>zH fun a b=>leB b a⟩
theorem Yq(op:BinOp)(ρ:Type):(Yo op).run ρ=adO op:=by cases op<;>rfl
def ad5(op:BinOp):∀ ρ:Type,Value->Value->St->(Value->St->Option ρ)->Option ρ:=fun ρ v w σ k=>
 su v (fun d a=>su w (fun d' b=>@Bool.rec (fun _=>Option ρ) (@Bool.rec (fun _=>Option ρ) (ob (gT op v w) fun u=>k u σ) ((Yo op).run ρ d a b (fun u=>k u σ) (ob (gT op v w) fun u=>k u σ)) (HG op)) ((Yo op).run ρ d a b (fun u=>k u σ) (ob (gT op v w) fun u=>k u σ)) (Nat.beq (oW d) (oW d'))) (ob (gT op v w) fun u=>k u σ)) (ob (gT op v w) fun u=>k u σ)
theorem aaV(op:BinOp)(ρ:Type)(v w:Value)(σ:St)(k:Value->St->Option ρ):ad5 op ρ v w σ k=XX op v w fun u=>k u σ:=by unfold ad5 XX;congr 1;funext d a;congr 1;funext d' b;rw[Yq];cases Nat.beq (oW d) (oW d')<;>rfl
def opL:AOp->W OpL:=@AOp.rec (fun _=>W OpL)
 (fun x=>un1 x fun _ v σ k=>k v σ) (fun c a b=>⟨fun ρ _ fr σ k=>(evL c).run ρ fr fun v=>r7 v (fun q=>@Bool.rec (fun _=>Option ρ) ((evL b).run ρ fr fun u=>k u σ) ((evL a).run ρ fr fun u=>k u σ) q) none⟩)
 (fun pl zs=>kP (.alloc pl zs)) (fun pl x=>un1 x fun _ v σ k=>aaL pl v σ k) (fun zs ps=>kP (.build zs ps)) (fun pl e n zs ps=>kP (.gV pl e n zs ps))
 (fun n x=>un1 x fun _ v σ k=>Qq n v σ k) (fun n x y=>un2 y x fun _ v p σ k=>yd n p v σ k) (fun x=>un1 x fun _ v σ k=>ob (Cc v) fun u=>k u σ) (fun op x y=>un2 x y (ad5 op))
 (fun g s x y=>un2 x y fun _ v w σ k=>ob (eqF g s v w) fun u=>k u σ) (fun op x=>un1 x fun _ v σ k=>ob (aun op v) fun u=>k u σ) (fun d x=>un1 x fun _ v σ k=>su v (fun _ n=>pO d n fun i=>k (.int d i) σ) none)
 (fun x=>kP (.Dw x)) (fun x=>kP (.AP x)) (fun x=>kP (.mark x)) (fun f a b=>kP (.AQ f a b)) (fun p e z l c=>kP (.l7 p e z l c))
 ad3 (fun e n x l h m=>kP (.m8 e n x l h m)) (fun x l h=>kP (.pV x l h))
 (fun off x=>un1 x fun _ v σ k=>xZ v (fun a=>adE a fun b o s=>frc (Nat.add o off) fun o'=>k (.pointer (some (Addr.mk b o' s))) σ) none)
 (fun off n x=>un1 x fun _ v σ k=>C3 v fun cs=>rdK cs.toList off n fun u=>k u σ)
 (fun esz x i=>un2 x i fun ρ v w σ k=>slE v fun a n _=>@Option.rec Addr (fun _=>Option ρ) none (fun a=>DS n w fun j=>adE a fun b o s=>frc (Nat.add o (Nat.mul j esz)) fun o'=>k (.pointer (some (Addr.mk b o' s))) σ) a)
 (fun esz n x i=>un2 x i fun _ v w σ k=>xZ v (fun a=>DS n w fun j=>adE a fun b o s=>frc (Nat.add o (Nat.mul j esz)) fun o'=>k (.pointer (some (Addr.mk b o' s))) σ) none)
 (fun esz n m x i=>un2 x i fun _ v w σ k=>C3 v fun cs=>DS n w fun j=>rdK cs.toList (Nat.mul j esz) m fun u=>k u σ)
 (fun x i=>un2 x i fun _ v w σ k=>ob (Jx v w) fun u=>k u σ)
 (fun x i=>un1 x fun _ v σ k=>Tz v fun vs=>wK vs.toList i fun u=>k u σ)
 (fun f args=>⟨fun ρ cf fr σ k=>(TE args).run ρ fr fun vs=>ob (cf (.func f) vs σ) fun r=>@Prod.rec Value St (fun _=>Option ρ) k r⟩)
 ad4 aaU
 (fun x=>un1 x fun _ v σ k=>slE v fun _ n _=>k (.int .i64 (Int.ofNat n)) σ) (fun x=>un1 x fun _ v σ k=>ob (O4 v) fun u=>k u σ) (fun n=>⟨fun _ _ _ σ k=>k (.int .i64 n) σ⟩) (fun x=>kP (.cap x)) (fun e x y=>kP (.copy e x y)) (fun e z x=>kP (.clear e z x)) (fun b xs=>kP (.mm b xs)) (fun f=>⟨fun _ _ fr σ k=>ob (f (ofL fr) σ) fun u=>k u σ⟩) (fun x y=>kP (.n6 x y)) (kP .nI) (fun a s m k x=>kP (.jN a s m k x)) (fun a s z o m k=>kP (.AR a s z o m k)) (fun m=>kP (.AS m)) (fun t x=>kP (.LZ t x)) (fun t x a=>kP (.Dx t x a)) (fun x c=>kP (.Dy x c)) (fun n=>kP (.Ij n))
section
variable{ρ:Type}
theorem ad6{x:Operand}{b:∀ ρ:Type,Value->St->(Value->St->Option ρ)->Option ρ}{cf:fD}{fr:FrL}{σ:St}{k:Value->St->Option ρ}{r:Option ρ}(h:evK x (ofL fr) (fun v=>b ρ v σ k)=r):(un1 x b).run ρ cf fr σ k=r:=by rw[<- h];exact oY _ _ _ _
theorem Yr{x y:Operand}{b:∀ ρ:Type,Value->Value->St->(Value->St->Option ρ)->Option ρ}{cf:fD}{fr:FrL}{σ:St}{k:Value->St->Option ρ}{r:Option ρ}(h:evK x (ofL fr) (fun v=>evK y (ofL fr) fun w=>b ρ v w σ k)=r):(un2 x y b).run ρ cf fr σ k=r:=by rw[<- h];show(evL x).run ρ fr _=_;rw[oY];congr 1;funext v;exact oY _ _ _ _
theorem HZ(o:AOp)(cf:fD)(fr:FrL)(σ:St)(k:Value->St->Option ρ):(opL o).run ρ cf fr σ k=opK o cf (ofL fr) σ k:=by
 cases o<;>first
  | rfl
  | exact ad6 rfl
  | exact Yr rfl
  | skip
 case native f=>
  show(ob (f (ofL fr) σ) fun u=>k u σ)=jg (.native f) cf (ofL fr) σ k;rw[tF,oU];simp only[aop];cases f (ofL fr) σ<;>rfl
 case pick c a b=>
  show(evL c).run ρ fr (fun v=>r7 v (fun q=>@Bool.rec (fun _=>Option ρ) ((evL b).run ρ fr fun u=>k u σ) ((evL a).run ρ fr fun u=>k u σ) q) none)=_;simp only[oY];rfl
 case bin op x y=>
  refine Yr ?_;simp only[aaV];rfl
 case call f args=>
  show(TE args).run ρ fr _=_;rw[HY];rfl
 case slice esz x lo hi mx=>
  cases mx with
  | some m=>rfl
  | none=>
   show(evL x).run ρ fr (fun v=>(Yn lo).run ρ fr fun lo=>(Yn hi).run ρ fr fun hi=>HX esz v lo hi (fun u=>k u σ) (ob (kJ esz v lo hi none) fun u=>k u σ))=jg (.slice esz x lo hi none) cf (ofL fr) σ k;rw[tF,Ez,oY,iU];simp only[aaT,aaS,oU,TD];cases ev (ofL fr) x with
   | none=>rfl
   | some v=>cases evo (ofL fr) lo with
    | none=>rfl
    | some l=>cases evo (ofL fr) hi with
     | none=>rfl
     | some h=>
      simp only[ak];show _=(mM σ (kJ esz v l h none)).bind _;cases kJ esz v l h none<;>rfl
 case append pl esz x y=>
  show(evL x).run ρ fr (fun x=>(evL y).run ρ fr fun y=>aaQ pl esz x y σ k (ob ((σ.news esz y).bind fun(m,vs)=>σ.append pl esz x m vs) fun r=>k r.1 r.2))=jg (.append pl esz x y) cf (ofL fr) σ k;rw[tF];simp only[oY,iU,oU,aaR,aop];cases ev (ofL fr) x with
  | none=>rfl
  | some v=>cases ev (ofL fr) y with
   | none=>rfl
   | some w=>rfl
 case iP x args=>
  show(evL x).run ρ fr (fun v=>fnO v (fun g fi ca=>(TE args).run ρ fr fun vs=>ob (cf (.func g) (Qz fi.toList ca.toList vs) σ) fun r=>@Prod.rec Value St (fun _=>Option ρ) k r) (ob (aop cf (.iP x args) (ofL fr) σ) fun r=>k r.1 r.2))=jg (.iP x args) cf (ofL fr) σ k;rw[tF,oY,iU];cases hv:ev (ofL fr) x with
  | none=>simp only[aop,hv];rfl
  | some v=>
   simp only[ak,oU];refine ad1 v _ _ fun g fi ca e=>?_;subst e;rw[HY,HF];simp only[aop,hv,ak,FH,Bool.false_and,aO,if_false,Ym];cases evs (ofL fr) args with
   | none=>rfl
   | some vs=>rfl
end
abbrev Db:=∀ ρ:Type,fD->FrL->St->(FrL->St->Option ρ)->Option ρ
def vw(op:W OpL)(ih:W Db):Option Nat->W Db:=@Option.rec Nat (fun _=>W Db) ⟨fun ρ cf fr σ k=>op.run ρ cf fr σ fun _ σ'=>ih.run ρ cf fr σ' k⟩ (fun d=>⟨fun ρ cf fr σ k=>op.run ρ cf fr σ fun v σ'=>ih.run ρ cf (FrL.cons d v fr) σ' k⟩)
def o9(d:Option Nat)(v:Value)(fr:FrL):FrL:=@Option.rec Nat (fun _=>FrL) fr (fun d=>FrL.cons d v fr) d
def ach(dst:Option Nat)(g:Option (Nat×Bool))(op:W OpL)(ih:W Db):W Db:=@Option.rec (Nat×Bool) (fun _=>W Db) (vw op ih dst)
 (fun q=>@Prod.rec Nat Bool (fun _=>W Db) (fun t b=>⟨fun ρ cf fr σ k=>LG t fr fun v=>r7 v (fun c=>@Bool.rec (fun _=>Option ρ) (fP b (ih.run ρ cf (o9 dst gB fr) σ k) ((vw op ih dst).run ρ cf fr σ k)) (fP b ((vw op ih dst).run ρ cf fr σ k) (ih.run ρ cf (o9 dst gB fr) σ k)) c) (Tz v fun _=>ih.run ρ cf (o9 dst gB fr) σ k)⟩) q) g
def opsL:List fB->W Db:=@List.rec fB (fun _=>W Db) ⟨fun _ _ fr σ k=>k fr σ⟩ (fun o _ ih=>@fB.rec (fun _=>W Db) (fun dst g _ _ op=>ach dst g (opL op) ih) o)
section
variable{ρ:Type}
theorem wU(d:Option Nat)(v:Value)(fr:FrL):ofL (o9 d v fr)=ou d v (ofL fr):=by cases d<;>rfl
theorem TF(op:W OpL)(ih:W Db)(d:Option Nat)(cf:fD)(fr:FrL)(σ:St)(k:FrL->St->Option ρ):(vw op ih d).run ρ cf fr σ k=op.run ρ cf fr σ fun v σ'=>ih.run ρ cf (o9 d v fr) σ' k:=by cases d<;>rfl
theorem opsL_eq:∀ (l:List fB) (cf:fD) (fr:FrL) (σ:St) (k:FrL->St->Option ρ),(opsL l).run ρ cf fr σ k=HP l cf (ofL fr) σ fun fr σ=>k (toL fr) σ
 | [],cf,fr,σ,k=>by
  show k fr σ=k (toL (ofL fr)) σ;rw[rU]
 | o::l,cf,fr,σ,k=>by
  obtain⟨dst,g,bef,wr,op⟩:=o;have hp:∀ fr:FrL,(vw (opL op) (opsL l) dst).run ρ cf fr σ k=opK op cf (ofL fr) σ fun v σ'=>HP l cf (ou dst v (ofL fr)) σ' fun fr σ=>k (toL fr) σ:=fun fr=>by rw[TF,HZ];congr 1;funext v σ';rw[opsL_eq l,wU]
  show(ach dst g (opL op) (opsL l)).run ρ cf fr σ k=r8 g (ofL fr) (opK op cf (ofL fr) σ fun v σ'=>HP l cf (ou dst v (ofL fr)) σ' fun fr σ=>k (toL fr) σ) (HP l cf (ou dst gB (ofL fr)) σ fun fr σ=>k (toL fr) σ);cases g with
  | none=>exact hp fr
  | some q=>
   obtain⟨t,b⟩:=q;show LG t fr (fun v=>r7 v (fun c=>@Bool.rec (fun _=>Option ρ) (fP b ((opsL l).run ρ cf (o9 dst gB fr) σ k) ((vw (opL op) (opsL l) dst).run ρ cf fr σ k)) (fP b ((vw (opL op) (opsL l) dst).run ρ cf fr σ k) ((opsL l).run ρ cf (o9 dst gB fr) σ k)) c) (Tz v fun _=>(opsL l).run ρ cf (o9 dst gB fr) σ k))=_;rw[wT,hp,opsL_eq l,wU];rfl
end
abbrev LH:=∀ ρ:Type,fD->List (Nat×Nat×Nat)->Nat->FrL->St->(FrL->St->Option ρ)->Option ρ
def rV{ρ:Type}(g:Option (Nat×Bool))(fr:FrL)(y n:Option ρ):Option ρ:=
 @Option.rec (Nat×Bool) (fun _=>Option ρ) y (fun q=>@Prod.rec Nat Bool (fun _=>Option ρ) (fun t b=>LG t fr fun v=>r7 v (fun c=>@Bool.rec (fun _=>Option ρ) (fP b n y) (fP b y n) c) (Tz v fun _=>n)) q) g
theorem yg{ρ:Type}(g:Option (Nat×Bool))(fr:FrL)(y n:Option ρ):rV g fr y n=r8 g (ofL fr) y n:=by
 cases g with
 | none=>rfl
 | some q=>obtain⟨t,b⟩:=q;exact wT _ _ _
def ad7{ρ:Type}(bef:Nat)(born:List (Nat×Nat×Nat))(H:List Nat)(k:List Nat->Option ρ):Option ρ:=@List.rec (Nat×Nat×Nat) (fun _=>Option ρ) (k H) (fun _ _ _=>k (gj bef born++H)) born
theorem aaW{ρ:Type}(bef:Nat)(born:List (Nat×Nat×Nat))(H:List Nat)(k:List Nat->Option ρ):ad7 bef born H k=k (gj bef born++H):=by cases born<;>rfl
def QA:AOp->Bool:=@AOp.rec (fun _=>Bool) (fun _=>true) (fun _ _ _=>true) (fun _ _=>false) (fun _ _=>false) (fun _ _=>true) (fun _ _ _ _ _=>false) (fun _ _=>false) (fun _ _ _=>false) (fun _=>true) (fun _ _ _=>true) (fun _ _ _ _=>true) (fun _ _=>true) (fun _ _=>true) (fun _=>false) (fun _=>false) (fun _=>false) (fun _ _ _=>true) (fun _ _ _ _ _=>false) (fun _ _ _ _ _=>true) (fun _ _ _ _ _ _=>true) (fun _ _ _=>true) (fun _ _=>true) (fun _ _ _=>true) (fun _ _ _=>true) (fun _ _ _ _=>true) (fun _ _ _ _ _=>true) (fun _ _=>true) (fun _ _=>true) (fun _ _=>false) (fun _ _=>false) (fun _ _ _ _=>false) (fun _=>true) (fun _=>true) (fun _=>true) (fun _=>true) (fun _ _ _=>false) (fun _ _ _=>false) (fun _ _=>true) (fun _=>false) (fun _ _=>false) false (fun _ _ _ _ _=>false) (fun _ _ _ _ _ _=>false) (fun _=>false) (fun _ _=>false) (fun _ _ _=>false) (fun _ _=>false) (fun _=>false)
theorem Ys{o:AOp}(h:QA o=true)(cf:fD)(fr:Fr)(σ:St):aop cf o fr σ=(gD o fr).map fun v=>(v,σ):=by
 cases o<;>first
  | rfl
  | (exact absurd h (by decide))
  | (cases h;done)
def Fp:List fB->W LH:=@List.rec fB (fun _=>W LH) ⟨fun _ _ _ _ fr σ k=>k fr σ⟩
 (fun o _ ih=>@fB.rec (fun _=>W LH) (fun dst g bef wr op=>@Bool.rec (fun _=>W LH)
  ⟨fun ρ cf born j fr σ k=>rV g fr
  (stE σ fun hp L H d=>frc (jI hp) fun n=>ad7 bef born H fun H'=>(opL op).run ρ cf fr (St.mk hp (@Bool.rec (fun _=>Nat) n (jW wr (bef.testBit 255) born L n) wr) H' d) fun v σ'=>
   stE σ' fun hp' _ _ d'=>frc (jI hp') fun n'=>ih.run ρ cf (fP (Nat.ble n' n) born ((j,n,n')::born)) (Nat.succ j) (o9 dst v fr) (St.mk hp' L H d') k)
  (ih.run ρ cf born (Nat.succ j) (o9 dst gB fr) σ k)⟩
  ⟨fun ρ cf born j fr σ k=>rV g fr ((opL op).run ρ cf fr σ fun v _=>ih.run ρ cf born (Nat.succ j) (o9 dst v fr) σ k) (ih.run ρ cf born (Nat.succ j) (o9 dst gB fr) σ k)⟩ (QA op)) o)
abbrev Yt:=∀ ρ:Type,fD->List (Bool×Nat)->FrL->St->(FrL->St->Option ρ)->Option ρ
def Ft(m:Bool):List fB->List Nat->W Yt:=@List.rec fB (fun _=>List Nat->W Yt) (fun _=>⟨fun _ _ _ fr σ k=>k fr σ⟩)
 (fun o _ ih B=>@fB.rec (fun _=>W Yt) (fun dst g bef wr op=>⟨fun ρ cf seen fr σ k=>rV g fr
  (fP wr
   (fP m (stE σ fun hp L H d=>(opL op).run ρ cf fr (St.mk hp L (B++H) d) fun v σ'=>stE σ' fun hp' L' _ d'=>(ih B).run ρ cf seen (o9 dst v fr) (St.mk hp' L' H d') k) none)
   (ob (tgt (ofL fr) op) fun tg=>fP (apart tg seen&&(!m||tg.all fun p=>B.contains p.2)) ((opL op).run ρ iQ fr σ fun v σ'=>(ih B).run ρ cf (tg++seen) (o9 dst v fr) σ' k) none))
  ((ih B).run ρ cf seen (o9 dst gB fr) σ k)⟩) o)
section
variable{ρ:Type}
theorem Dc:∀ (l:List fB) (cf:fD) (born:List (Nat×Nat×Nat)) (j:Nat) (fr:FrL) (σ:St) (k:FrL->St->Option ρ),(Fp l).run ρ cf born j fr σ k=zv l cf born j (ofL fr) σ fun fr σ=>k (toL fr) σ
 | [],cf,born,j,fr,σ,k=>by
  show k fr σ=k (toL (ofL fr)) σ;rw[rU]
 | o::l,cf,born,j,fr,σ,k=>by
  obtain⟨dst,g,bef,wr,op⟩:=o;show W.run (@Bool.rec (fun _=>W LH)
   ⟨fun ρ cf born j fr σ k=>rV g fr
   (stE σ fun hp L H d=>frc (jI hp) fun n=>ad7 bef born H fun H'=>(opL op).run ρ cf fr (St.mk hp (@Bool.rec (fun _=>Nat) n (jW wr (bef.testBit 255) born L n) wr) H' d) fun v σ'=>
    stE σ' fun hp' _ _ d'=>frc (jI hp') fun n'=>(Fp l).run ρ cf (fP (Nat.ble n' n) born ((j,n,n')::born)) (Nat.succ j) (o9 dst v fr) (St.mk hp' L H d') k)
   ((Fp l).run ρ cf born (Nat.succ j) (o9 dst gB fr) σ k)⟩
   ⟨fun ρ cf born j fr σ k=>rV g fr ((opL op).run ρ cf fr σ fun v _=>(Fp l).run ρ cf born (Nat.succ j) (o9 dst v fr) σ k) ((Fp l).run ρ cf born (Nat.succ j) (o9 dst gB fr) σ k)⟩ (QA op)) ρ cf born j fr σ k =
   r8 g (ofL fr)
   (stE σ fun hp L H d=>frc (jI hp) fun n=>opK op cf (ofL fr) (St.mk hp (jW wr (bef.testBit 255) born L n) (gj bef born++H) d) fun v σ'=>
    stE σ' fun hp' _ _ d'=>frc (jI hp') fun n'=>zv l cf (fP (Nat.ble n' n) born ((j,n,n')::born)) (Nat.succ j) (ou dst v (ofL fr)) (St.mk hp' L H d') fun fr σ=>k (toL fr) σ)
   (zv l cf born (Nat.succ j) (ou dst gB (ofL fr)) σ fun fr σ=>k (toL fr) σ)
  cases hf:QA op with
  | false=>
   show rV g fr _ _=_;rw[yg];have hl:∀ (L n:Nat),(@Bool.rec (fun _=>Nat) n (jW wr (bef.testBit 255) born L n) wr)=jW wr (bef.testBit 255) born L n:=fun L n=>by cases wr<;>rfl
   simp only[HZ,Dc l,wU,aaW,hl]
  | true=>
   show rV g fr _ _=_;rw[yg];simp only[HZ,Dc l,wU,C4,Ys hf,jU,iV,iz];cases gD op (ofL fr) with
   | none=>rfl
   | some v=>
    simp only[bq,ak];have:fP (Nat.ble σ.heap.length σ.heap.length) born ((j,σ.heap.length,σ.heap.length)::born)=born:=by rw[bV (av _)];rfl
    simp only[this]
theorem LI(m:Bool)(B:List Nat):∀ (l:List fB) (cf:fD) (seen:List (Bool×Nat)) (fr:FrL) (σ:St) (k:FrL->St->Option ρ),(Ft m l B).run ρ cf seen fr σ k=tG m B l cf seen (ofL fr) σ fun fr σ=>k (toL fr) σ
 | [],cf,seen,fr,σ,k=>by
  show k fr σ=k (toL (ofL fr)) σ;rw[rU]
 | o::l,cf,seen,fr,σ,k=>by
  obtain⟨dst,g,bef,wr,op⟩:=o;show rV g fr
   (fP wr
    (fP m (stE σ fun hp L H d=>(opL op).run ρ cf fr (St.mk hp L (B++H) d) fun v σ'=>stE σ' fun hp' L' _ d'=>(Ft m l B).run ρ cf seen (o9 dst v fr) (St.mk hp' L' H d') k) none)
    (ob (tgt (ofL fr) op) fun tg=>fP (apart tg seen&&(!m||tg.all fun p=>B.contains p.2)) ((opL op).run ρ iQ fr σ fun v σ'=>(Ft m l B).run ρ cf (tg++seen) (o9 dst v fr) σ' k) none))
   ((Ft m l B).run ρ cf seen (o9 dst gB fr) σ k) =
   r8 g (ofL fr)
   (fP wr
    (fP m (stE σ fun hp L H d=>opK op cf (ofL fr) (St.mk hp L (B++H) d) fun v σ'=>stE σ' fun hp' L' _ d'=>tG m B l cf seen (ou dst v (ofL fr)) (St.mk hp' L' H d') fun fr σ=>k (toL fr) σ) none)
    (ob (tgt (ofL fr) op) fun tg=>fP (apart tg seen&&(!m||tg.all fun p=>B.contains p.2)) (opK op iQ (ofL fr) σ fun v σ'=>tG m B l cf (tg++seen) (ou dst v (ofL fr)) σ' fun fr σ=>k (toL fr) σ) none))
   (tG m B l cf seen (ou dst gB (ofL fr)) σ fun fr σ=>k (toL fr) σ)
  rw[yg];simp only[HZ,LI m B l,wU]
end
abbrev pT:=∀ ρ:Type,fD->Nat->(FrL->St->Option ρ)->(Ex->FrL->St->Option ρ)->FrL->St->Option ρ
def tL:List Nat->W (∀ ρ:Type,FrL->(FrL->Option ρ)->Option ρ):=@List.rec Nat (fun _=>W (∀ ρ:Type,FrL->(FrL->Option ρ)->Option ρ)) ⟨fun _ _ k=>k .nil⟩ (fun t _ ih=>⟨fun ρ fr k=>getLE t fr (fun v=>ih.run ρ fr fun l=>k (.cons t v l)) (ih.run ρ fr k)⟩)
section
variable{ρ:Type}
theorem tM:∀ (l:List Nat) (fr:FrL) (k:FrL->Option ρ),(tL l).run ρ fr k=r9 l (ofL fr) fun fr=>k (toL fr)
 | [],fr,k=>rfl
 | t::l,fr,k=>by show getLE t fr (fun v=>(tL l).run ρ fr fun l=>k (.cons t v l)) ((tL l).run ρ fr k)=Oi t (ofL fr) (fun v=>r9 l (ofL fr) fun l=>k (toL ((t,v)::l))) (r9 l (ofL fr) fun fr=>k (toL fr));rw[getLE_eq,tM l fr k];congr 1;funext v;exact tM l fr _
def Yu:FrL->List Value:=@FrL.rec (fun _=>List Value) [] (fun _ v _ ih=>v::ih)
theorem De:∀ fr:FrL,Yu fr=(ofL fr).map (·.2)
 | .nil=>rfl
 | .cons t v l=>by show v::Yu l=_;rw[De l];rfl
def zx(base:Nat)(fr:FrL)(σ:St)(k:FrL->St->Option ρ):Option ρ:=gcN base (Yu fr) σ (fun τ=>k fr τ) fun vs τ=>k (toL (((ofL fr).map (·.1)).zip vs)) τ
theorem Df(base:Nat)(fr:FrL)(σ:St)(k:FrL->St->Option ρ):zx base fr σ k=tJ base (ofL fr) σ fun fr σ=>k (toL fr) σ:=by
 unfold zx;rw[wO,Ol _ _ _ _ _ fun τ=>?_,De]
 ·unfold kS;cases gc base ((ofL fr).map (·.2)) σ<;>rfl
 ·rw[De,tI,rU]
end
def ah7(ia ib:W pT):W pT:=⟨fun ρ cf n kn kx fr σ=>ia.run ρ cf n (fun fr σ=>ib.run ρ cf n kn kx fr σ) kx fr σ⟩
def agY(c:Operand)(ia ib:W pT):W pT:=⟨fun ρ cf n kn kx fr σ=>(evL c).run ρ fr fun v=>r7 v (fun b=>@Bool.rec (fun _=>Option ρ) (ib.run ρ cf n kn kx fr σ) (ia.run ρ cf n kn kx fr σ) b) none⟩
def ad8(id:Nat)(ib:W pT):W pT:=⟨fun ρ cf n kn kx fr σ=>ib.run ρ cf n kn (fun e fr σ=>tK e (fun i=>fP (Nat.beq i id) (kn fr σ) (kx e fr σ)) (kx e fr σ)) fr σ⟩
def QB{ρ:Type}(step:(FrL->St->Option ρ)->FrL->St->Option ρ):Nat->FrL->St->Option ρ:=@Nat.rec (fun _=>FrL->St->Option ρ) (fun _ _=>none) (fun _ ih=>step ih)
def agZ(live:List Nat)(ib:W pT):W pT:=⟨fun ρ cf n kn kx fr σ=>stE σ fun hp L H d=>frc (jI hp) fun base=>(tL live).run ρ fr fun fr=>
 QB (fun ih fr σ=>ib.run ρ cf n (fun fr' σ'=>(tL live).run ρ fr' fun fr'=>zx base fr' σ' ih) (fun e fr' σ'=>stE σ' fun hp' L' H' d'=>n5 d' d fun d''=>kx e fr' (St.mk hp' L' H' d'')) fr σ) n fr (St.mk hp L H [])⟩
def ah8(f:pR):W pT:=⟨fun ρ cf n kn kx fr σ=>f ρ cf n (fun fr σ=>kn (toL fr) σ) (fun e fr σ=>kx e (toL fr) σ) (ofL fr) σ⟩
def ag0{ρ:Type} : Value->(Nat->Array Value->Array Value->Option ρ)->Option ρ:=
 @Value.rec (fun _=>(Nat->Array Value->Array Value->Option ρ)->Option ρ) (fun _=>PUnit) (fun _=>PUnit)
  (fun _ _=>none) (fun _ _ _=>none) (fun _ _ _=>none) (fun _ _ _ _=>none) (fun _ _=>none) (fun _ _=>none) (fun _ _ _ _=>none) (fun _ _=>none) (fun _ _=>none) (fun fn fi ca _ _ f=>@Fn.rec (fun _=>Option ρ) (fun h=>f h fi ca) (fun _=>none) (fun _ _=>none) (fun _ _ _ _=>none) (fun _=>none) fn) (fun _=>none) (fun _ _ _ _=>none) (fun _=>none) (fun _ _ _=>none) (fun _ _ _=>none) (fun _ _=>⟨⟩) ⟨⟩ (fun _ _ _ _=>⟨⟩)
def ad9:List Nat->List Value->FrL->FrL:=@List.rec Nat (fun _=>List Value->FrL->FrL) (fun _ fr=>fr) (fun t _ ih vs fr=>@List.rec Value (fun _=>FrL) fr (fun v l _=>.cons t v (ih l fr)) vs)
theorem QC:∀ (ps:List Nat) (vs:List Value) (fr:FrL),ofL (ad9 ps vs fr)=ps.zip vs++ofL fr
 | [],vs,fr=>by cases vs<;>rfl
 | t::ps,[],fr=>rfl
 | t::ps,v::vs,fr=>by show(t,v)::ofL (ad9 ps vs fr)=_;rw[QC ps vs fr];rfl
def gcJ{ρ:Type}(base:Nat)(d:List Nat)(τ:St)(k:St->Option ρ):Option ρ:=gcN base [] τ (fun τ'=>stE τ' fun hp L H d'=>n5 d' d fun d''=>k (St.mk hp L H d'')) (fun _ τ'=>stE τ' fun hp L H d'=>n5 d' d fun d''=>k (St.mk hp L H d''))
theorem Ot{ρ:Type}(base:Nat)(d:List Nat)(τ:St)(k:St->Option ρ):gcJ base d τ k=(gc base [] τ).bind fun z=>k { z.2 with fA:=fX d z.2.fA }:=by
 unfold gcJ;refine(Ol base [] τ _ _ ?_).trans ?_
 ·intro τ;rfl
 ·simp only[jU,wR]
def H6(ia ib:W pT)(ps:List Nat)(fr:FrL)(cf:fD)(n:Nat):List Value->St->Option (Value×St):=fun args σ=>
 fP (args.length=ps.length&&args.all oF) (stE σ fun hp L H d=>frc (jI hp) fun base=>ia.run (Value×St) cf n
  (fun fr1 σ1=>ib.run (Value×St) cf n (fun _ σ2=>gcJ base d σ2 fun τ=>some (.bool true,τ)) (fun _ _ _=>none) fr1 σ1) (fun _ _ _=>none) (ad9 ps args fr) (St.mk hp L H [])) none
def ag1(x:Operand)(g:Nat)(ps:List Nat)(ig ia ib:W pT):W pT:=⟨fun ρ cf n kn kx fr σ=>(evL x).run ρ fr fun v=>ag0 v fun h fi ca=>
 fP (h==g&&fi.isEmpty) (stE σ fun hp L H d=>frc (jI hp) fun base=>ig.run ρ (jh cf (H6 ia ib ps fr cf n)) n (fun _ τ=>gcJ base d τ fun τ'=>kn fr τ') (fun e _ τ=>tK e (fun _=>none) (gcJ base d τ fun τ'=>kn fr τ')) (toL (gS 0 (qP::ca.toList))) (St.mk hp L H [])) none⟩
def lY:fG->W pT:=@fG.rec (fun _=>W pT)
 ⟨fun _ _ _ kn _ fr σ=>kn fr σ⟩ ⟨fun _ _ _ _ kx fr σ=>kx .ret fr σ⟩
 (fun ops=>⟨fun ρ cf _ kn _ fr σ=>(opsL ops).run ρ cf fr σ kn⟩)
 (fun ops=>⟨fun ρ cf _ kn _ fr σ=>(Fp ops).run ρ (gE cf) [] 0 fr σ kn⟩) (fun xs m ops=>⟨fun ρ cf _ kn _ fr σ=>ob (boxes (ofL fr) xs) fun B=>(Ft m ops B).run ρ (gE cf) [] fr σ kn⟩) (fun ops=>ah8 (jZ (.lits ops)))
 (fun _ _ ia ib=>ah7 ia ib) (fun c _ _ ia ib=>agY c ia ib) (fun id _ ib=>ad8 id ib) (fun live _ ib=>agZ live ib)
 (fun id=>⟨fun _ _ _ _ kx fr σ=>kx (.exit id) fr σ⟩)
 (fun x g _ ps _ _ ig ia ib=>ag1 x g ps ig ia ib)
def aci(c:fG):Prop:=∀ (ρ:Type) (cf:fD) (n:Nat) (kn:FrL->St->Option ρ) (kx:Ex->FrL->St->Option ρ) (fr:FrL) (σ:St),(lY c).run ρ cf n kn kx fr σ=jZ c ρ cf n (fun fr σ=>kn (toL fr) σ) (fun e fr σ=>kx e (toL fr) σ) (ofL fr) σ
theorem sj:∀ c:fG,aci c
 | .skip=>fun ρ cf n kn kx fr σ=>by show kn fr σ=kn (toL (ofL fr)) σ;rw[rU]
 | .ret=>fun ρ cf n kn kx fr σ=>by show kx .ret fr σ=kx .ret (toL (ofL fr)) σ;rw[rU]
 | .region ops=>fun ρ cf n kn kx fr σ=>opsL_eq ops cf fr σ kn
 | .drawn ops=>fun ρ cf n kn kx fr σ=>Dc ops (gE cf) [] 0 fr σ kn
 | .sv xs m ops=>fun ρ cf n kn kx fr σ=>by
  show(ob (boxes (ofL fr) xs) fun B=>(Ft m ops B).run ρ (gE cf) [] fr σ kn)=(ob (boxes (ofL fr) xs) fun B=>tG m B ops (gE cf) [] (ofL fr) σ fun fr σ=>kn (toL fr) σ);simp only[LI]
 | .lits ops=>fun ρ cf n kn kx fr σ=>rfl
 | .seq a b=>fun ρ cf n kn kx fr σ=>by
  show(lY a).run ρ cf n (fun fr σ=>(lY b).run ρ cf n kn kx fr σ) kx fr σ=jZ a ρ cf n (fun fr σ=>jZ b ρ cf n (fun fr σ=>kn (toL fr) σ) (fun e fr σ=>kx e (toL fr) σ) fr σ) (fun e fr σ=>kx e (toL fr) σ) (ofL fr) σ;rw[sj a];congr 1;funext fr σ;rw[sj b,nB]
 | .cond c a b=>fun ρ cf n kn kx fr σ=>by
  show(evL c).run ρ fr (fun v=>r7 v (fun q=>@Bool.rec (fun _=>Option ρ) ((lY b).run ρ cf n kn kx fr σ) ((lY a).run ρ cf n kn kx fr σ) q) none)=_;rw[oY,sj a,sj b];rfl
 | .block id b=>fun ρ cf n kn kx fr σ=>by
  show(lY b).run ρ cf n kn (fun e fr σ=>tK e (fun i=>fP (Nat.beq i id) (kn fr σ) (kx e fr σ)) (kx e fr σ)) fr σ=_;rw[sj b];rfl
 | .loop live b=>fun ρ cf n kn kx fr σ=>by
  show(stE σ fun hp L H d=>frc (jI hp) fun base=>(tL live).run ρ fr fun fr=>
   QB (fun ih fr σ=>(lY b).run ρ cf n (fun fr' σ'=>(tL live).run ρ fr' fun fr'=>zx base fr' σ' ih) (fun e fr' σ'=>stE σ' fun hp' L' H' d'=>n5 d' d fun d''=>kx e fr' (St.mk hp' L' H' d'')) fr σ) n fr (St.mk hp L H [])) =
   (stE σ fun hp L H d=>frc (jI hp) fun base=>r9 live (ofL fr) fun fr=>
   zw (fun ih fr σ=>jZ b ρ cf n (fun fr' σ'=>r9 live fr' fun fr'=>tJ base fr' σ' ih) (fun e fr' σ'=>stE σ' fun hp' L' H' d'=>n5 d' d fun d''=>kx e (toL fr') (St.mk hp' L' H' d'')) fr σ) n fr (St.mk hp L H []))
  have hb:∀ (ρ:Type) (cf:fD) (n:Nat) (kn:FrL->St->Option ρ) (kx:Ex->FrL->St->Option ρ) (fr:FrL) (σ:St),(lY b).run ρ cf n kn kx fr σ=jZ b ρ cf n (fun fr σ=>kn (toL fr) σ) (fun e fr σ=>kx e (toL fr) σ) (ofL fr) σ:=sj b;simp only[jU,iV,iz,tM,tH,hb,Df,nB];have key:∀ (base m:Nat) (fr:Fr) (σ1:St),QB (fun ih fr σ_1=>jZ b ρ cf n (fun fr σ_2=>tJ base (fr.keep live) σ_2 fun fr σ=>ih (toL fr) σ) (fun e fr σ_2=>n5 σ_2.fA σ.fA fun d''=>kx e (toL fr) ⟨σ_2.heap,σ_2.lock,σ_2.hid,d''⟩) (ofL fr) σ_1) m (toL fr) σ1 =
    zw (fun ih fr σ_1=>jZ b ρ cf n (fun fr' σ'=>tJ base (fr'.keep live) σ' ih) (fun e fr' σ'=>n5 σ'.fA σ.fA fun d''=>kx e (toL fr') ⟨σ'.heap,σ'.lock,σ'.hid,d''⟩) fr σ_1) m fr σ1:=by
   intro base m;induction m with
   | zero=>intro fr σ1;rfl
   | succ m ih=>
    intro fr σ1;rw[C9];show jZ b ρ cf n (fun fr σ_2=>tJ base (fr.keep live) σ_2 fun fr σ=>QB _ m (toL fr) σ) _ (ofL (toL fr)) σ1=_;rw[nB];congr 1;funext fr σ;congr 1;funext fr σ;exact ih fr σ
  exact key _ n _ _
 | .exit id=>fun ρ cf n kn kx fr σ=>by show kx (.exit id) fr σ=kx (.exit id) (toL (ofL fr)) σ;rw[rU]
 | .each x g gk ps ba b=>fun ρ cf n kn kx fr σ=>by
  rw[pS (.each x g gk ps ba b)];have hd:∀ (c:fG) (ρ:Type) (cf:fD) (n:Nat) (kn:FrL->St->Option ρ) (kx:Ex->FrL->St->Option ρ) (fr:FrL) (σ:St),aci c->(lY c).run ρ cf n kn kx fr σ=lX (exec cf n c (ofL fr) σ) (fun fr σ=>kn (toL fr) σ) (fun e fr σ=>kx e (toL fr) σ):=fun c ρ cf n kn kx fr σ h=>by rw[h,pS c]
  have ha:=sj ba;have hb:=sj b;have hg:=sj gk;have aea:H6 (lY ba) (lY b) ps fr cf n=jJ (exec cf n ba) (exec cf n b) ps (ofL fr):=by
   funext args σ;unfold H6 jJ fP;by_cases hc:(decide (args.length=ps.length)&&args.all oF)=true
   ·rw[if_pos hc,hc];simp only[jU,iV,iz];rw[hd _ _ _ _ _ _ _ _ ha,QC];unfold lX;cases exec cf n ba (ps.zip args++ofL fr) ⟨σ.heap,σ.lock,σ.hid,[]⟩ with
    | none=>rfl
    | some r=>
     obtain⟨e,fr1,σ1⟩:=r;cases e<;>try rfl
     simp only[ak];rw[hd _ _ _ _ _ _ _ _ hb,nB];unfold lX;cases exec cf n b fr1 σ1 with
     | none=>rfl
     | some q=>
      obtain⟨e,fr2,σ2⟩:=q;cases e<;>try rfl
      simp only[ak,Ot];cases gc σ.heap.length [] σ2<;>rfl
   ·rw[if_neg hc];rw[Bool.not_eq_true] at hc;rw[hc]
  show((evL x).run ρ fr fun v=>ag0 v fun h fi ca=>fP (h==g&&fi.isEmpty) (stE σ fun hp L H d=>frc (jI hp) fun base=>(lY gk).run ρ (jh cf (H6 (lY ba) (lY b) ps fr cf n)) n (fun _ τ=>gcJ base d τ fun τ'=>kn fr τ') (fun e _ τ=>tK e (fun _=>none) (gcJ base d τ fun τ'=>kn fr τ')) (toL (gS 0 (qP::ca.toList))) (St.mk hp L H [])) none)=_;rw[oY,iU,aea];simp only[exec];cases ev (ofL fr) x with
  | none=>rfl
  | some v=>
   cases v<;>try rfl
   rename_i f fi ca;cases f<;>try rfl
   rename_i h;show fP (h==g&&fi.isEmpty) _ none=lX (if (h==g&&fi.isEmpty)=true then _ else none) _ _;unfold fP;cases hq:(h==g&&fi.isEmpty) with
   | false=>rfl
   | true=>
    simp only[if_true,jU,iV,iz];rw[hd _ _ _ _ _ _ _ _ hg,nB];unfold lX;cases exec (jh cf (jJ (exec cf n ba) (exec cf n b) ps (ofL fr))) n gk (gS 0 (qP::ca.toList)) ⟨σ.heap,σ.lock,σ.hid,[]⟩ with
    | none=>rfl
    | some r=>
     obtain⟨e,fr1,σ1⟩:=r;have key:(gc σ.heap.length [] σ1).bind (fun z=>kn fr { z.2 with fA:=fX σ.fA z.2.fA })=(((gc σ.heap.length [] σ1).map fun z=>(Ex.normal,ofL fr,{ z.2 with fA:=fX σ.fA z.2.fA })).bind fun r=>match r.1 with
       | .normal=>kn (toL r.2.1) r.2.2
       | e=>kx e (toL r.2.1) r.2.2):=by
      cases gc σ.heap.length [] σ1 with
      | none=>rfl
      | some z=>simp only[ak,bq,rU]
     cases e with
     | exit i=>rfl
     | normal=>simp only[ak,Ot];exact key
     | ret=>simp only[ak];show gcJ _ _ _ _=_;rw[Ot];exact key
section
variable{ρ:Type}
def aaX:List Value->Nat->(FrL->Option ρ)->Option ρ:=@List.rec Value (fun _=>Nat->(FrL->Option ρ)->Option ρ) (fun _ k=>k .nil) (fun v _ ih i k=>frc (Nat.succ i) fun j=>ih j fun l=>k (.cons i v l))
theorem QD:∀ (l:List Value) (i:Nat) (k:FrL->Option ρ),aaX l i k=k (toL (gS i l))
 | [],i,k=>rfl
 | v::l,i,k=>by show frc (Nat.succ i) (fun j=>aaX l j fun l=>k (.cons i v l))=_;rw[iV,QD l];rfl
def aeb(fr:FrL)(hp:List Blk)(H:List Nat):mX->(Value->Option ρ)->Option ρ:=@mX.rec (fun _=>(Value->Option ρ)->Option ρ) (fun t k=>LG t fr k)
 (fun a n k=>LG a fr fun v=>xZ v (fun a=>DR hp H a fun _ _ cs=>rdK cs a.off n k) none)
theorem aaY(fr:FrL)(hp:List Blk)(H:List Nat)(r:mX)(k:Value->Option ρ):aeb fr hp H r k=Yi (ofL fr) hp H r k:=by cases r<;>exact wT _ _ _
def Yv(fr:FrL)(hp:List Blk)(H:List Nat):List mX->(List Value->Option ρ)->Option ρ:=@List.rec mX (fun _=>(List Value->Option ρ)->Option ρ) (fun k=>k []) (fun r _ ih k=>aeb fr hp H r fun v=>ih fun l=>k (v::l))
theorem LJ(fr:FrL)(hp:List Blk)(H:List Nat):∀ (l:List mX) (k:List Value->Option ρ),Yv fr hp H l k=LB (ofL fr) hp H l k
 | [],k=>rfl
 | r::l,k=>by show aeb fr hp H r (fun v=>Yv fr hp H l fun l=>k (v::l))=Yi (ofL fr) hp H r (fun v=>LB (ofL fr) hp H l fun l=>k (v::l));rw[aaY];congr 1;funext v;exact LJ fr hp H l _
end
def TG(rs:List mX)(base:Nat)(d:List Nat)(fr:FrL)(τ:St):Option (Value×St):=
 stE τ fun hp L H d'=>Yv fr hp H rs fun vs=>On vs fun u=>gcK base u (St.mk hp L H d') fun vs τ'=>agV vs fun v=>stE τ' fun hp' L' H' d'=>n5 d' d fun d''=>some (v,St.mk hp' L' H' d'')
theorem aaZ(rs:List mX)(base:Nat)(d:List Nat)(fr:FrL)(τ:St):TG rs base d fr τ=DT rs base d (ofL fr) τ:=by unfold TG DT;simp only[LJ]
abbrev FnL:=fD->Nat->List Value->St->Option (Value×St)
def fnL:AFn->W (ULift FnL):=@AFn.rec (fun _=>W (ULift FnL)) (fun code rs=>⟨⟨fun cf n args σ=>stE σ fun hp L H d=>frc (jI hp) fun base=>aaX args 0 fun fr=>
  (lY code).run (Value×St) cf n (fun fr τ=>TG rs base d fr τ) (fun e fr τ=>tK e (fun _=>none) (TG rs base d fr τ)) fr (St.mk hp L H [])⟩⟩)
theorem Yw(fn:AFn)(cf:fD)(n:Nat)(args:List Value)(σ:St):(fnL fn).run.down cf n args σ=LD cf n fn args σ:=by
 obtain⟨code,rs⟩:=fn;show(stE σ fun hp L H d=>frc (jI hp) fun base=>aaX args 0 fun fr=>
  (lY code).run (Value×St) cf n (fun fr τ=>TG rs base d fr τ) (fun e fr τ=>tK e (fun _=>none) (TG rs base d fr τ)) fr (St.mk hp L H [])) =
  (stE σ fun hp L H d=>frc (jI hp) fun base=>jZ code (Value×St) cf n (fun fr τ=>DT rs base d fr τ) (fun e fr τ=>tK e (fun _=>none) (DT rs base d fr τ)) (gS 0 args) (St.mk hp L H []))
 have hb:∀ (ρ:Type) (cf:fD) (n:Nat) (kn:FrL->St->Option ρ) (kx:Ex->FrL->St->Option ρ) (fr:FrL) (σ:St),(lY code).run ρ cf n kn kx fr σ=jZ code ρ cf n (fun fr σ=>kn (toL fr) σ) (fun e fr σ=>kx e (toL fr) σ) (ofL fr) σ:=sj code;simp only[jU,iV,iz,QD,hb,aaZ,nB]
def TH(l:List (Nat×AFn)):Nat->fD:=@Nat.rec (fun _=>fD) (fun _ _ _=>none)
 (fun m ih g=>@Fn.rec (fun _=>List Value->St->Option (Value×St)) (fun f args σ=>uL f l fun fn=>(fnL fn).run.down ih m args σ) (fun _ _ _=>none) (fun _ _ _ _=>none) (fun _ _ _ _ _ _=>none) (fun _ _ _=>none) g)
theorem QE(l:List (Nat×AFn)):∀ n,TH l n=runK l n
 | 0=>rfl
 | n+1=>by
  funext g args σ;cases g with
  | func f=>
   show uL f l (fun fn=>(fnL fn).run.down (TH l n) n args σ)=uL f l (fun fn=>LD (runK l n) n fn args σ);congr 1;funext fn;rw[Yw,QE l n]
  | _=>rfl
theorem yh{l:List (Nat×AFn)}{n:Nat}{g:Fn}{args:List Value}{σ:St}{r:Option (Value×St)}(h:TH l n g args σ=r):run (.base l) n g args σ=r:=Yj (by rw[<- QE];exact h)
end
end AM
namespace AM
open Go Go.RowKit
section
variable{P:Program}
theorem TI{fz:fD}{m:Nat}{k:Fr->St->Option Value}{v:Value}{args:List Value}{σ σ':St}(h:body fz m (natFn k) args σ=some (v,σ')):k (gS 0 args) { σ with fA:=[] } = some v/\σ'=σ:=by obtain⟨hp,L,H,d⟩:=σ;simp only[body,natFn,exec,lI,want,aop,ak,if_true,aa,aj] at h;obtain⟨q,h1,h2⟩:=h;obtain⟨r,⟨q2,⟨q3,⟨u,hu,rfl⟩,h4⟩,rfl⟩,h5⟩:=h1;simp only[ay] at h4;subst h4;simp only[ay] at h5;subst h5;have hr:lM [u]=some u:=rfl;simp[kj,wZ,Fr.put,Fr.get,hr,gc,fX] at h2;refine⟨by rw[hu,h2.1],h2.2.symm⟩
theorem Dg{env:Env}(he:iS P env)(hm:P.follows .mixedOrders=true){i:Nat}{k:Fr->St->Option Value}
  (hc:∀ args σ v,k (gS 0 args) { σ with fA:=[] } = some v->Fit σ.heap.length σ.lock σ.hid->fS env (.func i) args σ=some (v,σ)):MB P i (natFn k):=fun w0 fz m args σ σ' v X w rargs _ hb S hh hl hr=>by
 obtain⟨h1,rfl⟩:=TI hb;obtain⟨n,hn⟩:=tY.1 (hc args _ v h1 ⟨hl,hh⟩);rcases(BW (w0:=w0) he hm n).call _ _ _ _ _ hn with ⟨f,e,_,h⟩ | ⟨k,e,_⟩
 ·cases e;exact h X w rargs S hh hl hr
 ·cases e
theorem Ou{X:Emb}{v u:Value}(h:fN X v u)(hs:(cellsOf v).all sc=true):u=v:=by
 cases v with
 | agg cs=>
  obtain⟨rs,rfl,hr⟩:=qk h;congr 1;apply bR.1;exact qV hr (aF.1 hs)
 | _=>exact(gw (by simpa[cellsOf] using hs)).1 h
theorem Ov{X:Emb}{v:Value}(hs:(cellsOf v).all sc=true):fN X v v:=by
 cases v with
 | agg cs=>exact⟨_,rfl,jE (aF.1 hs)⟩
 | _=>exact(gw (by simpa[cellsOf] using hs)).2 rfl
theorem Ow{env:Env}(he:iS P env)(hm:P.follows .mixedOrders=true){n f:Nat}{f':Func}{fn:AFn}(h1:P.funcs[f]?=some f')(h2:iH P f'=some fn)(h3:env.fn f=some fn){v:Value}{σ':St}(h:run env n (.func f) [] ⟨[],0,[],[]⟩=some (v,σ'))(hs:(cellsOf v).all sc=true)(w:World)(rargs:Array Value) :
  Calls P f rargs w fun e w'=>e=.returned v/\Below w.heap.size w w':=by
 obtain⟨l,rfl,he'⟩:=he;have h3':gW l f=some fn:=h3;cases n with
 | zero=>simp[run,nT] at h
 | succ n=>
  simp only[run,nT,h3',ak] at h;have S:Sim w ⟨fun _=>none,0⟩ ⟨[],0,[],[]⟩ w:=⟨Below.refl _ _,fun id bx h=>by (cases h),fun id bx h=>by (cases h),fun id bx g pl cs h=>by (cases h),fun i j bi bj h=>by (cases h),fun id bx h=>by (cases h),fun id bx h=>by (cases h),fun id bx es h=>by (cases h)⟩;refine(yQ (nM (w0:=w) he' hm n) hm h1 h2 h S (by simp) (by simp)).mono fun e w' ⟨u,X',h1,h2,h3,h4⟩=>?_;rw[Ou h2 hs] at h1;exact⟨h1,h3.bel⟩
theorem Dh{env:Env}(he:iS P env)(hm:P.follows .mixedOrders=true){n i:Nat}{f':Func}{fn:AFn}(h1:P.funcs[i]?=some f')(h2:iH P f'=some fn)(h3:env.fn i=some fn){c:Value}{σ1:St}(h:run env n (.func i) [] ⟨[],0,[],[]⟩=some (c,σ1))(hs:(cellsOf c).all sc=true):MB P i (mL c):=fun w0 fz m args σ σ' v X w rargs _ hb S _ _ _=>by obtain⟨rfl,rfl⟩:=BX hb;refine(Ow he hm h1 h2 h3 h hs w rargs).mono fun e w' ⟨he,hw⟩=>⟨_,X,he,Ov hs,S.below hw,Stp.below hw⟩
end
noncomputable section
variable{ρ:Type}
def u8K:List Value->(List Nat->Option ρ)->Option ρ:=@List.rec Value (fun _=>(List Nat->Option ρ)->Option ρ) (fun k=>k [])
 (fun v _ ih k=>su v (fun d n=>fP (Nat.beq (oW d) 4) (lW (fun m=>fP (Nat.ble m 255) (frc m fun m=>ih fun l=>k (m::l)) none) (fun _=>none) n) none) none)
theorem tN:∀ {vs:List Value} {k:List Nat->Option ρ} {r:ρ},u8K vs k=some r->∃ l,vs=u8s l/\By l/\k l=some r
 | [],k,r,h=>⟨[],rfl,fun _ hb=>(bJ hb).elim,h⟩
 | v::vs,k,r,h=>by
  have h':su v (fun d n=>fP (Nat.beq (oW d) 4) (lW (fun m=>fP (Nat.ble m 255) (frc m fun m=>u8K vs fun l=>k (m::l)) none) (fun _=>none) n) none) none=some r:=h;cases v<;>try (simp[su] at h';done)
  rename_i d n;rw[oV] at h';unfold fP at h';cases hd:Nat.beq (oW d) 4 with
  | false=>rw[hd] at h';cases h'
  | true=>
   rw[hd] at h';have:d=.u8:=qI (b:=.u8) hd;subst this;cases n with
   | negSucc m=>cases h'
   | ofNat m=>
    simp only[lW] at h';cases hm:Nat.ble m 255 with
    | false=>rw[hm] at h';cases h'
    | true=>
     rw[hm] at h';simp only[iV] at h';obtain⟨l,rfl,hl,hk⟩:=tN h';have:=bM hm;refine⟨m::l,rfl,fun b hb=>?_,hk⟩;rcases aJ.1 hb with rfl | hb
     ·omega
     ·exact hl b hb
def aec:Nat->List Value->(List Nat->List Value->Option ρ)->Option ρ:=@Nat.rec (fun _=>List Value->(List Nat->List Value->Option ρ)->Option ρ) (fun vs k=>k [] vs)
 (fun _ ih vs k=>@List.rec Value (fun _=>Option ρ) none (fun v vs' _=>su v (fun d n=>fP (Nat.beq (oW d) 4) (lW (fun m=>fP (Nat.ble m 255) (frc m fun m=>ih vs' fun l r=>k (m::l) r) none) (fun _=>none) n) none) none) vs)
theorem Fu:∀ {n:Nat} {vs:List Value} {k:List Nat->List Value->Option ρ} {r:ρ},aec n vs k=some r->∃ l rest,vs=u8s l++rest/\l.length=n/\By l/\k l rest=some r
 | 0,vs,k,r,h=>⟨[],vs,rfl,rfl,fun _ hb=>(bJ hb).elim,h⟩
 | n+1,[],k,r,h=>by cases h
 | n+1,v::vs,k,r,h=>by
  have h':su v (fun d i=>fP (Nat.beq (oW d) 4) (lW (fun m=>fP (Nat.ble m 255) (frc m fun m=>aec n vs fun l r=>k (m::l) r) none) (fun _=>none) i) none) none=some r:=h;cases v<;>try (simp[su] at h';done)
  rename_i d i;rw[oV] at h';unfold fP at h';cases hd:Nat.beq (oW d) 4 with
  | false=>rw[hd] at h';cases h'
  | true=>
   rw[hd] at h';have:d=.u8:=qI (b:=.u8) hd;subst this;cases i with
   | negSucc m=>cases h'
   | ofNat m=>
    simp only[lW] at h';cases hm:Nat.ble m 255 with
    | false=>rw[hm] at h';cases h'
    | true=>
     rw[hm] at h';simp only[iV] at h';obtain⟨l,rest,rfl,h1,hl,hk⟩:=Fu h';have:=bM hm;refine⟨m::l,rest,rfl,by simp[h1],fun b hb=>?_,hk⟩;rcases aJ.1 hb with rfl | hb
     ·omega
     ·exact hl b hb
def vA(v:Value)(k:Int->Option ρ):Option ρ:=su v (fun d n=>fP (and (Nat.beq (oW d) 3) (and (leB (-9223372036854775808) n) (leB n 9223372036854775807))) (k n) none) none
theorem jl{v:Value}{k:Int->Option ρ}{r:ρ}(h:vA v k=some r):∃ n:Int,v=.int .i64 n/\-9223372036854775808<=n/\n<=9223372036854775807/\k n=some r:=by
 unfold vA at h;cases v<;>try (simp[su] at h;done)
 rename_i d n;rw[oV] at h;unfold fP at h;cases hd:and (Nat.beq (oW d) 3) (and (leB (-9223372036854775808) n) (leB n 9223372036854775807)) with
 | false=>rw[hd] at h;cases h
 | true=>
  rw[hd] at h;rw[au,au,ya,ya,decide_eq_true_eq,decide_eq_true_eq] at hd;have:d=.i64:=qI (b:=.i64) hd.1;subst this;exact⟨n,rfl,hd.2.1,hd.2.2,h⟩
theorem oD{v:Value}{k:Array Value->Option ρ}{r:ρ}(h:C3 v k=some r):∃ cs,v=.agg cs/\k cs=some r:=by
 cases v<;>first
  | exact⟨_,rfl,h⟩
  | cases h
def arg1(fr:Fr)(k:Value->Option ρ):Option ρ:=@List.rec (Nat×Value) (fun _=>Option ρ) none (fun p l _=>@List.rec (Nat×Value) (fun _=>Option ρ) (k p.2) (fun _ _ _=>none) l) fr
theorem yj{args:List Value}{k:Value->Option ρ}{r:ρ}(h:arg1 (gS 0 args) k=some r):∃ a,args=[a]/\k a=some r:=by
 cases args with
 | nil=>cases h
 | cons a l=>cases l with
  | nil=>exact⟨a,rfl,h⟩
  | cons b m=>cases h
def arg2(fr:Fr)(k:Value->Value->Option ρ):Option ρ:=@List.rec (Nat×Value) (fun _=>Option ρ) none (fun p l _=>@List.rec (Nat×Value) (fun _=>Option ρ) none (fun q m _=>@List.rec (Nat×Value) (fun _=>Option ρ) (k p.2 q.2) (fun _ _ _=>none) m) l) fr
theorem TJ{args:List Value}{k:Value->Value->Option ρ}{r:ρ}(h:arg2 (gS 0 args) k=some r):∃ a b,args=[a,b]/\k a b=some r:=by
 cases args with
 | nil=>cases h
 | cons a l=>cases l with
  | nil=>cases h
  | cons b m=>cases m with
   | nil=>exact⟨a,b,rfl,h⟩
   | cons c m=>cases h
def Yx(fr:Fr):List Value:=@List.rec (Nat×Value) (fun _=>List Value) [] (fun p _ ih=>p.2::ih) fr
theorem LK:∀ (args:List Value) (i:Nat),Yx (gS i args)=args
 | [],i=>rfl
 | a::l,i=>by show a::Yx (gS (i+1) l)=_;rw[LK l]
end
end AM
namespace AM
open Go Go.RowKit
section
def Le(c1 c2:fD):Prop:=∀ g a σ r,c1 g a σ=some r->c2 g a σ=some r
def Fv(c1 c2:fD):Nat->fD:=fun n=>if n=0 then c1 else c2
theorem rW{c1 c2:fD}(h:Le c1 c2):lP (Fv c1 c2):=fun g a σ n r hn=>by
 have e:Fv c1 c2 (n+1)=c2:=if_neg om;show Fv c1 c2 (n+1) g a σ=some r;rw[e];have hn':Fv c1 c2 n g a σ=some r:=hn;by_cases h0:n=0
 ·rw[show Fv c1 c2 n=c1 from if_pos h0] at hn';exact h g a σ r hn'
 ·rw[show Fv c1 c2 n=c2 from if_neg h0] at hn';exact hn'
theorem aa0{c1 c2:fD}(h:Le c1 c2){l:List fB}{fr:Fr}{σ:St}{r}(hr:lI c1 l fr σ=some r):lI c2 l fr σ=some r:=mB (rW h) l fr σ 0 r hr
theorem aa1{c1 c2:fD}(h:Le c1 c2){l:List fB}{born:List (Nat×Nat×Nat)}{j:Nat}{fr:Fr}{σ:St}{r}(hr:lK c1 born j l fr σ=some r):lK c2 born j l fr σ=some r:=mC (rW h) l born j fr σ 0 r hr
theorem aa2{c1 c2:fD}(h:Le c1 c2){m:Bool}{B:List Nat}{seen:List (Bool×Nat)}{l:List fB}{fr:Fr}{σ:St}{r}(hr:j3 c1 m B seen l fr σ=some r):j3 c2 m B seen l fr σ=some r:=nq (rW h) l seen fr σ 0 r hr
theorem aa3{c1 c2:fD}(h:Le c1 c2){m:Nat}{l:List fB}{fr:Fr}{σ:St}{r}(hr:qO c1 m l fr σ=some r):qO c2 m l fr σ=some r:=nr (rW h) l fr σ 0 r hr
theorem vB{c1 c2:fD}(h:Le c1 c2):Le (gE c1) (gE c2):=fun g a σ r hr=>by
 cases g<;>first
  | exact h _ _ _ _ hr
  | exact hr
theorem mj:∀ (c:fG) (env:Env) (cf:fD) (n:Nat),Le cf (fS env)->∀ (fr:Fr) (σ:St) (r:Ex×Fr×St),exec cf n c fr σ=some r->ga env c fr σ=some r
 | .skip,env,cf,n,h,fr,σ,r,hr=>by rw[BQ];exact hr
 | .ret,env,cf,n,h,fr,σ,r,hr=>by rw[Em];exact hr
 | .exit id,env,cf,n,h,fr,σ,r,hr=>by rw[BR];exact hr
 | .region ops,env,cf,n,h,fr,σ,r,hr=>by
  rw[v7];simp only[exec,aj] at hr ⊢;obtain⟨q,h1,h2⟩:=hr;exact⟨q,aa0 h h1,h2⟩
 | .drawn ops,env,cf,n,h,fr,σ,r,hr=>by
  rw[yN];simp only[exec,aj] at hr ⊢;obtain⟨q,h1,h2⟩:=hr;exact⟨q,aa1 (vB h) h1,h2⟩
 | .sv xs m ops,env,cf,n,h,fr,σ,r,hr=>by
  rw[yO];simp only[exec,aj,aa] at hr ⊢;obtain⟨B,h0,q,h1,h2⟩:=hr;exact⟨B,h0,q,aa2 (vB h) h1,h2⟩
 | .lits ops,env,cf,n,h,fr,σ,r,hr=>by
  rw[MA];simp only[exec,aj] at hr ⊢;obtain⟨q,h1,h2⟩:=hr;exact⟨q,aa3 (vB h) h1,h2⟩
 | .seq a b,env,cf,n,h,fr,σ,r,hr=>by
  rw[En];simp only[exec,aa] at hr ⊢;obtain⟨⟨e,fr1,σ1⟩,h1,h2⟩:=hr;refine⟨_,mj a env cf n h fr σ _ h1,?_⟩;cases e with
  | normal=>exact mj b env cf n h _ _ _ h2
  | _=>exact h2
 | .cond c a b,env,cf,n,h,fr,σ,r,hr=>by
  rw[BT];simp only[exec] at hr;cases hv:ev fr c with
  | none=>rw[hv] at hr;cases hr
  | some v=>
   rw[hv] at hr;cases v<;>try (cases hr;done)
   rename_i q;cases q
   ·exact mj b env cf n h _ _ _ hr
   ·exact mj a env cf n h _ _ _ hr
 | .block id b,env,cf,n,h,fr,σ,r,hr=>by
  rw[yP];simp only[exec,aj] at hr ⊢;obtain⟨q,h1,h2⟩:=hr;exact⟨q,mj b env cf n h _ _ _ h1,h2⟩
 | .loop live b,env,cf,n,h,fr,σ,r,hr=>by
  rw[BU];simp only[exec,aj] at hr ⊢;obtain⟨q,h1,h2⟩:=hr;refine⟨q,?_,h2⟩;have key:∀ (m:Nat) (fr:Fr) (τ:St) q,iter (exec cf n b) live σ.heap.length m fr τ=some q->fW env b live σ.heap.length fr τ=some q:=by
   intro m;induction m with
   | zero=>intro fr τ q hq;simp[iter] at hq
   | succ m ih=>
    intro fr τ q hq;rw[v8];simp only[iter,aa] at hq ⊢;obtain⟨⟨e,fr1,τ1⟩,g1,g2⟩:=hq;refine⟨_,mj b env cf n h _ _ _ g1,?_⟩;cases e with
    | normal=>
     simp only[aa] at g2 ⊢;obtain⟨p,g3,g4⟩:=g2;exact⟨p,g3,ih _ _ _ g4⟩
    | _=>exact g2
  exact key _ _ _ _ h1
 | .each x g gk ps ba b,env,cf,n,h,fr,σ,r,hr=>by
  rw[BV];simp only[exec] at hr;split at hr
  ·rename_i hh fi ca hev;rw[hev];dsimp only;split at hr
   ·rename_i hc;rw[if_pos hc];simp only[aa] at hr ⊢;obtain⟨q,h1,h2⟩:=hr;refine⟨q,mj gk (.yl env ps ba b fr) _ n ?_ _ _ _ h1,h2⟩;intro g a σ r hg;cases g with
    | func f=>rw[v9];exact h _ _ _ _ hg
    | yield k=>
     rw[uB];have hg':jJ (exec cf n ba) (exec cf n b) ps fr a σ=some r:=hg;unfold jJ at hg' ⊢;split at hg'
     ·rename_i hp;rw[if_pos hp];simp only[aa] at hg' ⊢;obtain⟨⟨e,fr1,σ1⟩,g1,g2⟩:=hg';refine⟨_,mj ba env cf n h _ _ _ g1,?_⟩;cases e with
      | normal=>
       simp only[aa] at g2 ⊢;obtain⟨p,g3,g4⟩:=g2;exact⟨p,mj b env cf n h _ _ _ g3,g4⟩
      | _=>exact g2
     ·cases hg'
    | _=>cases hg
   ·cases hr
  ·cases hr
theorem QF{env:Env}{f:Nat}{fn:AFn}(hf:env.fn f=some fn){cf:fD}(h:Le cf (fS env)){n:Nat}{args:List Value}{σ:St}{r:Value×St}(hr:body cf n fn args σ=some r):fS env (.func f) args σ=some r:=by rw[F5 hf];unfold body at hr;rw[aa] at hr ⊢;obtain⟨q,h1,h2⟩:=hr;exact⟨q,mj _ env cf n h _ _ _ h1,h2⟩
end
noncomputable section
abbrev Ox:=Nat->List Value->St->Option (Value×St)
def mT:Ox:=fun _ _ _=>none
def ur(l:List (Nat×AFn))(oc:Ox):Nat->fD:=@Nat.rec (fun _=>fD) (fun _ _ _=>none)
 (fun m ih g=>@Fn.rec (fun _=>List Value->St->Option (Value×St)) (fun f args σ=>@Option.rec (Value×St) (fun _=>Option (Value×St)) (uL f l fun fn=>(fnL fn).run.down ih m args σ) (fun r=>some r) (oc f args σ)) (fun _ _ _=>none) (fun _ _ _ _=>none) (fun _ _ _ _ _ _=>none) (fun _ _ _=>none) g)
def H7(l:List (Nat×AFn))(oc:Ox):Prop:=∀ f args σ r,oc f args σ=some r->fS (.base l) (.func f) args σ=some r
theorem jm{l:List (Nat×AFn)} : H7 l mT:=fun _ _ _ _ h=>by cases h
theorem kQ{l:List (Nat×AFn)}{oc:Ox}(ho:H7 l oc):∀ n,Le (ur l oc n) (fS (.base l))
 | 0=>fun g a σ r h=>by cases h
 | n+1=>fun g a σ r h=>by
  cases g with
  | func f=>
   have h':@Option.rec (Value×St) (fun _=>Option (Value×St)) (uL f l fun fn=>(fnL fn).run.down (ur l oc n) n a σ) (fun r=>some r) (oc f a σ)=some r:=h;cases hq:oc f a σ with
   | some q=>
    rw[hq] at h';have:q=r:=by simpa using h'
    subst this;exact ho _ _ _ _ hq
   | none=>
    rw[hq] at h';have h2:uL f l (fun fn=>(fnL fn).run.down (ur l oc n) n a σ)=some r:=h';rw[Da,aa] at h2;obtain⟨fn,hf,h3⟩:=h2;rw[Yw,LF] at h3;exact QF (env:=.base l) hf (kQ ho n) h3
  | _=>cases h
def eqC:Value->Value->Bool
 | .int k a,.int k' b=>and (Nat.beq (oW k) (oW k')) (eqB a b)
 | .bool a,.bool b=>@Bool.rec (fun _=>Bool) (not b) b a
 | .pointer (some a),.pointer (some b)=>and (Nat.beq a.block b.block) (and (Nat.beq a.off b.off) (decide (a.spot=b.spot)))
 | .pointer none,.pointer none=>true
 | .slice (some a) n e,.slice (some b) m f=>and (Nat.beq n m) (and (Nat.beq e f) (and (Nat.beq a.block b.block) (and (Nat.beq a.off b.off) (decide (a.spot=b.spot)))))
 | .slice none n e,.slice none m f=>and (Nat.beq n m) (Nat.beq e f)
 | .nilFunc,.nilFunc=>true
 | .nilIface,.nilIface=>true
 | _,_=>false
theorem addr_eq{a b:Addr}(h1:Nat.beq a.block b.block=true)(h2:Nat.beq a.off b.off=true)(h3:decide (a.spot=b.spot)=true):a=b:=by obtain⟨x,y,z⟩:=a;obtain⟨x',y',z'⟩:=b;have e1:=aU h1;have e2:=aU h2;have e3:=of_decide_eq_true h3;simp only at e1 e2 e3;subst e1 e2 e3;rfl
theorem ym{v w:Value}(h:eqC v w=true):v=w:=by
 unfold eqC at h;split at h
 ·rw[au,CY,beq_iff_eq] at h;rw[qI h.1,h.2]
 ·rename_i a b;cases a<;>cases b<;>first | rfl | cases h
 ·simp only[au] at h;rw[addr_eq h.1 h.2.1 h.2.2]
 ·rfl
 ·simp only[au] at h;rw[addr_eq h.2.2.1 h.2.2.2.1 h.2.2.2.2,aU h.1,aU h.2.1]
 ·rw[au] at h;rw[aU h.1,aU h.2]
 ·rfl
 ·rfl
 ·cases h
def eqL{α:Type}(f:α->α->Bool):List α->List α->Bool:=@List.rec α (fun _=>List α->Bool) (fun l=>@List.rec α (fun _=>Bool) true (fun _ _ _=>false) l) (fun a _ ih l=>@List.rec α (fun _=>Bool) false (fun b m _=>@Bool.rec (fun _=>Bool) false (ih m) (f a b)) l)
theorem qh{α:Type}{f:α->α->Bool}(hf:∀ a b,f a b=true->a=b):∀ {l m:List α},eqL f l m=true->l=m
 | [],[],_=>rfl
 | [],b::m,h=>by cases h
 | a::l,[],h=>by cases h
 | a::l,b::m,h=>by
  have h':@Bool.rec (fun _=>Bool) false (eqL f l m) (f a b)=true:=h;cases hq:f a b with
  | false=>rw[hq] at h';cases h'
  | true=>
   rw[hq] at h';rw[hf a b hq,qh hf h']
def eqV:Value->Value->Bool
 | .agg a,.agg b=>eqL eqC a.toList b.toList
 | v,w=>eqC v w
theorem Yy{v w:Value}(h:eqV v w=true):v=w:=by
 unfold eqV at h;split at h
 ·rename_i a b;congr 1;exact bR.1 (qh (fun _ _=>ym) h)
 ·exact ym h
def eqW:Value->Value->Bool
 | .func (.func f) a b,.func (.func g) c d=>and (Nat.beq f g) (and (eqL eqC a.toList c.toList) (eqL eqC b.toList d.toList))
 | v,w=>eqV v w
theorem aed{v w:Value}(h:eqW v w=true):v=w:=by
 unfold eqW at h;split at h
 ·simp only[au] at h;rw[aU h.1,bR.1 (qh (fun _ _=>ym) h.2.1),bR.1 (qh (fun _ _=>ym) h.2.2)]
 ·exact Yy h
def eqP(p q:Value×Value):Bool:=and (eqC p.1 q.1) (eqW p.2 q.2)
theorem aee{p q:Value×Value}(h:eqP p q=true):p=q:=by unfold eqP at h;simp only[au] at h;exact Prod.ext (ym h.1) (aed h.2)
def Yz:Blk->Blk->Bool
 | .cells g p cs,.cells g' p' cs'=>and (Nat.beq g g') (and (@Bool.rec (fun _=>Bool) (not p') p' p) (eqL eqC cs cs'))
 | .map a,.map b=>eqL eqP a b
 | _,_=>false
theorem YA{a b:Blk}(h:Yz a b=true):a=b:=by
 unfold Yz at h;split at h
 ·rename_i g p cs g' p' cs';simp only[au] at h;rw[aU h.1,qh (fun _ _=>ym) h.2.2];cases p<;>cases p'<;>first | rfl | (cases h.2.1)
 ·rw[qh (fun _ _=>aee) h]
 ·cases h
def eqN(a b:Nat):Bool:=Nat.beq a b
theorem YB{a b:Nat}(h:eqN a b=true):a=b:=aU h
def aa4(σ τ:St):Bool:=and (eqL Yz σ.heap τ.heap) (and (Nat.beq σ.lock τ.lock) (and (eqL eqN σ.hid τ.hid) (eqL eqN σ.fA τ.fA)))
theorem aa5{σ τ:St}(h:aa4 σ τ=true):σ=τ:=by unfold aa4 at h;simp only[au] at h;obtain⟨a,b,c,d⟩:=σ;obtain⟨a',b',c',d'⟩:=τ;simp only at h;rw[qh (fun _ _=>YA) h.1,aU h.2.1,qh (fun _ _=>YB) h.2.2.1,qh (fun _ _=>YB) h.2.2.2]
def Di(f:Nat)(args:List Value)(σ:St)(r:Value×St)(oc:Ox):Ox:=fun g a τ=>fP (Nat.beq g f) (fP (and (eqL eqV a args) (aa4 τ σ)) (some r) (oc g a τ)) (oc g a τ)
theorem ow{l:List (Nat×AFn)}{f:Nat}{args:List Value}{σ:St}{r:Value×St}{oc:Ox}(h:fS (.base l) (.func f) args σ=some r)(ho:H7 l oc):H7 l (Di f args σ r oc):=fun g a τ q hq=>by
 unfold Di fP at hq;cases h1:Nat.beq g f with
 | false=>rw[h1] at hq;exact ho _ _ _ _ hq
 | true=>
  rw[h1] at hq;have e1:=aU h1;subst e1;cases h2:and (eqL eqV a args) (aa4 τ σ) with
  | false=>rw[h2] at hq;exact ho _ _ _ _ hq
  | true=>
   rw[h2] at hq;rw[au] at h2;rw[qh (fun _ _=>Yy) h2.1,aa5 h2.2];have:r=q:=by simpa using hq
   rw[<- this];exact h
def AL(cf:fD)(n:Nat)(live:List Nat)(b:fG)(base:Nat):Nat->FrL->St->Option (FrL×St):=@Nat.rec (fun _=>FrL->St->Option (FrL×St)) (fun fr σ=>some (fr,σ))
 (fun _ ih fr σ=>(lY b).run (FrL×St) cf n (fun fr' σ'=>(tL live).run (FrL×St) fr' fun fr'=>zx base fr' σ' ih) (fun _ _ _=>none) fr σ)
theorem yp{env:Env}{cf:fD}(h:Le cf (fS env)){n:Nat}{live:List Nat}{b:fG}{base:Nat} : ∀ (k:Nat) (fr:FrL) (σ:St) (fr':FrL) (σ':St),AL cf n live b base k fr σ=some (fr',σ')->fW env b live base (ofL fr) σ=fW env b live base (ofL fr') σ'
 | 0,fr,σ,fr',σ',hr=>by
  have h1:some (fr,σ)=some (fr',σ'):=hr;cases h1;rfl
 | k+1,fr,σ,fr',σ',hr=>by
  have h1:(lY b).run (FrL×St) cf n (fun fr' σ'=>(tL live).run (FrL×St) fr' fun fr'=>zx base fr' σ' (AL cf n live b base k)) (fun _ _ _=>none) fr σ=some (fr',σ'):=hr;rw[sj b,pS b] at h1;unfold lX at h1;rw[aa] at h1;obtain⟨⟨e,fr1,σ1⟩,h2,h3⟩:=h1;cases e with
  | normal=>
   simp only[tM,tH,Df,wO,nB] at h3;rw[aa] at h3;obtain⟨q,h4,h5⟩:=h3;rw[v8,mj b env cf n h _ _ _ h2];simp only[ak,h4];have:=yp h k _ _ _ _ h5;rw[nB] at this;exact this
  | _=>cases h3
def YC(cf:fD)(n:Nat)(live:List Nat)(b:fG)(base:Nat):Nat->FrL->St->Option (Ex×FrL×St):=@Nat.rec (fun _=>FrL->St->Option (Ex×FrL×St)) (fun _ _=>none)
 (fun _ ih fr σ=>(lY b).run (Ex×FrL×St) cf n (fun fr' σ'=>(tL live).run (Ex×FrL×St) fr' fun fr'=>zx base fr' σ' ih) (fun e fr' σ'=>some (e,fr',σ')) fr σ)
theorem QG{env:Env}{cf:fD}(h:Le cf (fS env)){n:Nat}{live:List Nat}{b:fG}{base:Nat} : ∀ (k:Nat) (fr:FrL) (σ:St) (e:Ex) (fr':FrL) (σ':St),YC cf n live b base k fr σ=some (e,fr',σ')->e≠.normal->fW env b live base (ofL fr) σ=some (e,ofL fr',σ')
 | 0,fr,σ,e,fr',σ',hr,_=>by cases hr
 | k+1,fr,σ,e,fr',σ',hr,hne=>by
  have h1:(lY b).run (Ex×FrL×St) cf n (fun fr' σ'=>(tL live).run (Ex×FrL×St) fr' fun fr'=>zx base fr' σ' (YC cf n live b base k)) (fun e fr' σ'=>some (e,fr',σ')) fr σ=some (e,fr',σ'):=hr;rw[sj b,pS b] at h1;unfold lX at h1;rw[aa] at h1;obtain⟨⟨e1,fr1,σ1⟩,h2,h3⟩:=h1;rw[v8,mj b env cf n h _ _ _ h2];cases e1 with
  | normal=>
   simp only[tM,tH,Df,wO,nB] at h3;rw[aa] at h3;obtain⟨q,h4,h5⟩:=h3;simp only[ak,h4];have:=QG h k _ _ _ _ _ h5 hne;rw[nB] at this;exact this
  | exit i=>
   have h4:Ex.exit i=e/\toL fr1=fr'/\σ1=σ':=by simpa using h3
   obtain⟨rfl,rfl,rfl⟩:=h4;rw[nB];rfl
  | ret=>
   have h4:Ex.ret=e/\toL fr1=fr'/\σ1=σ':=by simpa using h3
   obtain⟨rfl,rfl,rfl⟩:=h4;rw[nB];rfl
end
end AM
namespace AM
open Go Go.RowKit
theorem QH{l0 l:List (Nat×AFn)}(h:∀ i fn,gW l0 i=some fn->gW l i=some fn):∀ n,Le (nT l0 n) (fS (.base l))
 | 0=>fun g a σ r h=>by cases h
 | n+1=>fun g a σ r hr=>by
  cases g with
  | func f=>
   have h':(gW l0 f).bind (fun fn=>body (nT l0 n) n fn a σ)=some r:=hr;rw[aa] at h';obtain⟨fn,hf,h3⟩:=h';exact QF (env:=.base l) (h f fn hf) (QH h n) h3
  | _=>cases hr
theorem Fw{l0 l:List (Nat×AFn)}(h:∀ i fn,gW l0 i=some fn->gW l i=some fn){g:Fn}{args:List Value}{σ:St}{r:Value×St}(hr:fS (.base l0) g args σ=some r):fS (.base l) g args σ=some r:=by obtain⟨n,hn⟩:=tY.1 hr;exact QH h n _ _ _ _ hn
theorem Fx{l0:List (Nat×AFn)}{i:Nat}{fn:AFn}(h:gW l0 i=none):∀ j g,gW l0 j=some g->gW ((i,fn)::l0) j=some g:=fun j g hj=>by
 simp only[gW];split
 ·rename_i e;subst e;rw[h] at hj;cases hj
 ·exact hj
end AM
namespace fO
open Go AM
end fO
namespace TuH
open Go Go.RowKit AM fO LtA SyP TmM TsA TsB TsC TsE TsF TsG TsI TsJ TsM TsN TtA TuF TuG Bt
theorem aa6{y:List Nat}(hy:∀ c∈y,c < 256)(h1:1<=y.length):2<=(enc y).length:=by
 have h:=WN y hy;have hp:=TsP.aaF y;rcases bu 1 (enc y).length with h2 | h2
 ·omega
 ·exfalso;obtain⟨s,hs⟩:=List.length_eq_one_iff.1 (show(enc y).length=1 by omega);rw[hs] at h;unfold ade at h;rw[dec] at h;unfold Kr at h;by_cases c1:s < 2
  ·rw[if_pos c1] at h;by_cases c3:0+(1+s)*2 ^ 0<=y.length
   ·rw[if_pos c3] at h;simp[dec] at h
   ·rw[if_neg c3] at h;cases h
  ·rw[if_neg c1] at h;by_cases c2:s=257
   ·rw[if_pos c2] at h;rw[if_neg (show ¬ 0=y.length by omega)] at h;cases h
   ·rw[if_neg c2] at h;rw[if_neg (show ¬ 0=y.length by omega)] at h;simp[dec] at h
end TuH
namespace TuI
open Go Go.RowKit AM fO LtA SyP TmM TsA TsB TsC TsE TsF TsG TsI TsJ TsM TsN TtA TuF TuG TuH Bt
end TuI
namespace TuJ
open Go Go.RowKit AM fO LtA SyP TmM TsA TsB TsC TsE TsF TsG TsI TsJ TsM TsN TtA TuF TuG TuH TuI Bt
theorem aa7{y:List Nat}(hy:∀ c∈y,c < 256)(hl:y.length<=150):(enc y).length<=10000:=by have h:=wu y jf 0 Bl.zero hy;have hd:=qz _ (lG jf 0 y).2.2 (av _);unfold enc GX;simp only[aB,az,aT];omega
end TuJ
namespace fO
open Go AM
def QI:fG:=(.seq (.seq (.region [
 Mv 34 9,
 Mv 35 1,
 D 36 (.len (T 35)),
 D 37 (.bin .lss (T 34) (T 36))])
 (.cond (T 37)
 .skip
 (.exit 0)))
 (.seq (.block 1 (.drawn [
 ⟨(some 40),none,0,false,.mv (T 9)⟩,
 ⟨(some 41),none,0,false,.mv (T 9)⟩,
 ⟨(some 42),none,2,false,.gO 1 258 (T 8) (T 41)⟩,
 ⟨(some 43),none,6,false,.load none (T 42)⟩,
 ⟨(some 44),none,0,false,.mv (T 1)⟩,
 ⟨(some 45),none,0,false,.mv (T 9)⟩,
 ⟨(some 46),none,48,false,.fK 1 (T 44) (T 45)⟩,
 ⟨(some 47),none,112,false,.load none (T 46)⟩,
 ⟨(some 48),none,240,false,.mm true [(T 47),(Ki 0)]⟩,
 ⟨(some 49),none,496,false,.mm false [(T 48),(Ki 1000)]⟩,
 ⟨(some 50),none,1022,false,.bin .add (T 43) (T 49)⟩,
 ⟨(some 51),none,2047,false,.gO 1 258 (T 8) (T 40)⟩,
 ⟨none,none,4095,true,.store 1 (T 51) (T 50)⟩]))
 (.region [
 Mv 38 9,
 D 39 (.bin .add (T 38) (Ki 1)),
 Mv 9 39])))
def ac5:AFn:=⟨(.seq (.region [
 D 4 (.mv (Kb false))])
 (.seq (.seq (.region [
 Mv 12 0,
 D 13 (.len (T 12)),
 D 14 (.bin .eql (T 13) (Ki 0)),
 Mv 15 14,
 Gd 16 15 false (.mv (T 0)),
 Gd 17 15 false (.len (T 16)),
 Gd 18 15 false (.bin .gtr (T 17) (Ki 100)),
 D 19 (.pick (T 15) (Kb true) (T 18)),
 Mv 20 19,
 Gd 21 20 false (.mv (T 1)),
 Gd 22 20 false (.len (T 21)),
 Gd 23 20 false (.bin .gtr (T 22) (Ki 258)),
 D 24 (.pick (T 20) (Kb true) (T 23))])
 (.cond (T 24)
 (.seq (.region [
 D 25 (.call 10 []),
 Mv 4 25])
 .ret)
 .skip))
 (.seq (.region [
 Mv 26 0,
 D 27 (.call 18 [(T 26)]),
 Mv 5 27])
 (.seq (.region [
 Mv 29 5,
 D 30 (.call 19 [(T 29)]),
 Mv 28 30,
 D 31 (.ext (T 28) 0),
 D 32 (.ext (T 28) 1),
 D 6 (.alloc true (List.replicate 258 (.int .i64 0))),
 E (.store 258 (T 6) (T 31)),
 Mv 7 32])
 (.seq (.region [
 D 33 (.load (some 258) (T 6)),
 D 8 (.alloc true (List.replicate 258 (.int .i64 0))),
 E (.store 258 (T 8) (T 33))])
 (.seq (.seq (.region [
 D 9 (.mv (Ki 0))])
 (.block 0 (.loop [9,0,6,7,1,8] QI)))
 (.seq (.region [
 D 53 (.load (some 258) (T 8)),
 D 54 (.call 20 [(T 53),(Ki 15)]),
 Mv 52 54,
 D 55 (.ext (T 52) 0),
 D 56 (.ext (T 52) 1),
 D 10 (.alloc true (List.replicate 258 (.int .u8 0))),
 E (.store 258 (T 10) (T 55)),
 Mv 11 56])
 (.seq (.drawn [
 ⟨(some 57),none,0,false,.mv (T 7)⟩,
 ⟨(some 58),none,1,false,.bin .eql (T 57) (Ki 0)⟩,
 ⟨(some 59),none,3,false,.mv (T 58)⟩,
 ⟨(some 60),(some (59,true)),7,false,.mv (T 11)⟩,
 ⟨(some 61),(some (59,true)),15,false,.bin .eql (T 60) (Ki 0)⟩,
 ⟨(some 62),none,31,false,.pick (T 59) (T 61) (Kb false)⟩,
 ⟨(some 63),none,63,false,.mv (T 62)⟩,
 ⟨(some 64),(some (63,true)),127,false,.load (some 258) (T 6)⟩,
 ⟨(some 65),(some (63,true)),127,false,.load (some 258) (T 10)⟩,
 ⟨(some 66),(some (63,true)),511,false,.call 21 [(T 64),(T 65)]⟩,
 ⟨(some 67),(some (63,true)),127,false,.load (some 258) (T 6)⟩,
 ⟨(some 68),(some (63,true)),127,false,.mv (T 0)⟩,
 ⟨(some 69),(some (63,true)),3071,false,.call 22 [(T 68)]⟩,
 ⟨(some 70),(some (63,true)),8191,true,.call 21 [(T 67),(T 69)]⟩,
 ⟨(some 71),(some (63,true)),16383,false,.bin .geq (T 66) (T 70)⟩,
 ⟨(some 72),none,32767,false,.pick (T 63) (T 71) (Kb false)⟩,
 ⟨(some 73),none,65535,false,.mv (T 72)⟩,
 ⟨(some 74),(some (73,true)),131071,true,.call 10 []⟩,
 ⟨(some 75),none,262143,false,.pick (T 73) (T 74) (Kb false)⟩,
 ⟨(some 4),none,524287,false,.mv (T 75)⟩])
 .ret)))))))),[.tmp 4]⟩
theorem aef:iH Tryz.prog Tryz.f5=some ac5:=by kernel_rfl
end fO
namespace LtA
open Go Go.RowKit AM fO
structure Ts where
 l:List Nat
 sym:Int
 bits:Int
 now:Int
 way:Int
def tsC(c:Ts):List Value:=u8s c.l++[.int .i64 c.sym,.int .i64 c.bits,.int .i64 c.now,.int .i64 c.way]
def zs:List Nat:=List.replicate 258 0
theorem fE{c:Ts}(h:c.l.length=258):(tsC c).length=262:=by simp[tsC,fH,h]
theorem TK(n:Nat):List.replicate n (Value.int .u8 0)=u8s (List.replicate n 0):=by
 induction n with
 | zero=>rfl
 | succ n ih=>rw[bO,bO,ih];rfl
theorem lD:zs.length=258:=by unfold zs;exact dj
theorem lE{c:Ts}(h:c.l.length=258):(tsC c)[258]?=some (.int .i64 c.sym):=by unfold tsC;rw[aM (by rw[fH];omega),fH,h];rfl
theorem mU{c:Ts}(h:c.l.length=258):(tsC c)[259]?=some (.int .i64 c.bits):=by unfold tsC;rw[aM (by rw[fH];omega),fH,h];rfl
theorem mV{c:Ts}(h:c.l.length=258):(tsC c)[260]?=some (.int .i64 c.now):=by unfold tsC;rw[aM (by rw[fH];omega),fH,h];rfl
theorem ox{c:Ts}(h:c.l.length=258):(tsC c)[261]?=some (.int .i64 c.way):=by unfold tsC;rw[aM (by rw[fH];omega),fH,h];rfl
theorem aa8{c:Ts}(h:c.l.length=258)(n:Int):(tsC c).set 258 (.int .i64 n)=tsC { c with sym:=n }:=by unfold tsC;rw[cw _ _ (by rw[fH];omega),fH,h];rfl
theorem tO{c:Ts}(h:c.l.length=258)(n:Int):(tsC c).set 259 (.int .i64 n)=tsC { c with bits:=n }:=by unfold tsC;rw[cw _ _ (by rw[fH];omega),fH,h];rfl
theorem AN{c:Ts}(h:c.l.length=258)(n:Int):(tsC c).set 260 (.int .i64 n)=tsC { c with now:=n }:=by unfold tsC;rw[cw _ _ (by rw[fH];omega),fH,h];rfl
theorem H8{c:Ts}(h:c.l.length=258)(n:Int):(tsC c).set 261 (.int .i64 n)=tsC { c with way:=n }:=by unfold tsC;rw[cw _ _ (by rw[fH];omega),fH,h];rfl
theorem gP(c:Ts):(tsC c).all AM.sc=true:=by unfold tsC;rw[List.all_append,pL];rfl
theorem fZ(c:Ts):(tsC c).all fY=true:=by unfold tsC;rw[List.all_append,jQ];rfl
theorem gu(c:Ts):(tsC c).flatMap fJ=[]:=by
 rw[cW];intro v hv;unfold tsC at hv;rcases aP.1 hv with hv | hv
 ·obtain⟨n,_,rfl⟩:=bw.1 hv;rfl
 ·simp only[aJ,bJ,or_false] at hv;rcases hv with rfl | rfl | rfl | rfl<;>rfl
theorem gp{c:Ts}(h:c.l.length=258):(tsC c).take 262=tsC c:=bt (by rw[fE h];omega)
theorem wV{c:Ts}(h:c.l.length=258):(tsC c).take 258=u8s c.l:=by unfold tsC;rw[dZ (by rw[fH];omega),bt (by rw[fH];omega)]
theorem j9{cs vs:List Value}(h:vs.length=cs.length):putAt cs 0 vs=vs:=gH h
def z0:Ts:=⟨zs,0,0,0,0⟩
theorem pU:List.replicate 258 (Value.int .u8 0)++[.int .i64 0,.int .i64 0,.int .i64 0,.int .i64 0]=tsC z0:=by rw[TK];rfl
variable{hp:List Blk}{L:Nat}{H d:List Nat}
theorem Oy{c:Ts}(h:c.l.length=258)(hb:c.bits < 4)(hb0 : -9223372036854775808<=c.bits)(hn:0<=c.now/\c.now<=100){bit:Int}(DC:bit=0\/bit=1)(hF:Fit hp.length L H) :
  fS env (.func 205) [.agg (tsC c).toArray,.int .i64 bit] ⟨hp,L,H,d⟩=some (.tuple #[.agg (tsC { c with now:=c.now*2+bit,bits:=c.bits+1 }).toArray,.bool true],⟨hp,L,H,d⟩):=by
 rw[fF 205 _ _ Kk];have zJ:=fE h;have hz:(tsC z0).length=262:=fE (c:=z0) lD;have hor:orI 64 (c.now*2) bit=c.now*2+bit:=by obtain⟨n,hn'⟩:=cX hn.1;rw[hn'];have h1:=VT 64 (2*n) bit.toNat om om;unfold orI;rw[show((n:Int)*2)=((2*n:Nat):Int) by omega,show bit=(bit.toNat:Int) by omega,h1,<- Nat.pow_one 2,<- Nat.two_pow_add_eq_or_of_lt om];omega
 have h21:(2:Int) ^ (1:Nat)=2:=rfl;obtain⟨c1,hc1⟩:∃ c1,c1 = { c with now:=c.now*2+bit }:=⟨_,rfl⟩;obtain⟨c2,hc2⟩:∃ c2:Ts,c2 = { c1 with bits:=c.bits+1 }:=⟨_,rfl⟩;have hl1:c1.l.length=258:=by rw[hc1];exact h
 have hl2:c2.l.length=258:=by rw[hc2];exact hl1
 have s1:(tsC c).set 260 (.int .i64 (c.now*2+bit))=tsC c1:=by rw[AN h,hc1]
 have s2:(tsC c1).set 259 (.int .i64 (c.bits+1))=tsC c2:=by rw[tO hl1,hc2]
 have r:({ c with now:=c.now*2+bit,bits:=c.bits+1 } : Ts)=c2:=by rw[hc2,hc1]
 have p2:putAt (tsC z0) 0 (tsC c2)=tsC c2:=j9 (by rw[fE hl2,hz]);rw[r];simp(disch:=first|exact dis|fail) only[sy,simprocAttr,-List.reduceReplicate,hF.all,sR,gu,fZ,gP,lE h,mU h,mV h,ox h,hb,h21,hor,zJ,hz,pU,s1,s2,p2,gp hl2,fE hl2,fE hl1]
theorem TL{c:Ts}(h:c.l.length=258)(hb:c.bits=4)(hF:Fit hp.length L H) :
  fS env (.func 205) [.agg (tsC c).toArray,.int .i64 1] ⟨hp,L,H,d⟩=some (.tuple #[.agg (tsC { c with bits:=5 }).toArray,.bool true],⟨hp,L,H,d⟩):=by
 rw[fF 205 _ _ Kk];have zJ:=fE h;have hz:(tsC z0).length=262:=fE (c:=z0) lD;obtain⟨c2,hc2⟩:∃ c2:Ts,c2 = { c with bits:=5 }:=⟨_,rfl⟩;have hl2:c2.l.length=258:=by rw[hc2];exact h
 have s2:(tsC c).set 259 (.int .i64 5)=tsC c2:=by rw[tO h,hc2]
 have p2:putAt (tsC z0) 0 (tsC c2)=tsC c2:=j9 (by rw[fE hl2,hz]);have tb:=mU h;rw[hb] at tb;rw[<- hc2];simp(disch:=first|exact dis|fail) only[sy,simprocAttr,-List.reduceReplicate,hF.all,sR,gu,fZ,gP,lE h,tb,mV h,ox h,zJ,hz,pU,s2,p2,gp hl2,fE hl2]
theorem aa9{c:Ts}(h:c.l.length=258)(hb:c.bits=5)(hn : -9223372036854775808<=c.now/\c.now<=9223372036854775806)(hF:Fit hp.length L H) :
  fS env (.func 205) [.agg (tsC c).toArray,.int .i64 0] ⟨hp,L,H,d⟩=some (.tuple #[.agg (tsC { c with now:=c.now+1,way:=1,bits:=4 }).toArray,.bool (decide (c.way≠2)&&decide (c.now < 15))],⟨hp,L,H,d⟩):=by
 rw[fF 205 _ _ Kk];have zJ:=fE h;have hz:(tsC z0).length=262:=fE (c:=z0) lD;obtain⟨c0,hc0⟩:∃ c0:Ts,c0 = { c with now:=c.now+1 }:=⟨_,rfl⟩;obtain⟨c1,hc1⟩:∃ c1:Ts,c1 = { c0 with way:=1 }:=⟨_,rfl⟩;obtain⟨c2,hc2⟩:∃ c2:Ts,c2 = { c1 with bits:=4 }:=⟨_,rfl⟩;have hl0:c0.l.length=258:=by rw[hc0];exact h
 have hl1:c1.l.length=258:=by rw[hc1];exact hl0
 have hl2:c2.l.length=258:=by rw[hc2];exact hl1
 have s0:(tsC c).set 260 (.int .i64 (c.now+1))=tsC c0:=by rw[AN h,hc0]
 have s1:(tsC c0).set 261 (.int .i64 1)=tsC c1:=by rw[H8 hl0,hc1]
 have s2:(tsC c1).set 259 (.int .i64 4)=tsC c2:=by rw[tO hl1,hc2]
 have r:({ c with now:=c.now+1,way:=1,bits:=4 } : Ts)=c2:=by rw[hc2,hc1,hc0]
 have p2:putAt (tsC z0) 0 (tsC c2)=tsC c2:=j9 (by rw[fE hl2,hz]);have tb:=mU h;rw[hb] at tb;rw[r];by_cases hw:c.way=2
 ·simp(disch:=first|exact dis|fail) only[sy,simprocAttr,-List.reduceReplicate,hF.all,sR,gu,fZ,gP,lE h,tb,mV h,ox h,hw,zJ,hz,pU,s0,s1,s2,p2,gp hl2,fE hl2,fE hl1,fE hl0]
 ·simp(disch:=first|exact dis|fail) only[sy,simprocAttr,-List.reduceReplicate,hF.all,sR,gu,fZ,gP,lE h,tb,mV h,ox h,hw,zJ,hz,pU,s0,s1,s2,p2,gp hl2,fE hl2,fE hl1,fE hl0]
theorem TM{c:Ts}(h:c.l.length=258)(hb:c.bits=5)(hn : -9223372036854775807<=c.now/\c.now<=9223372036854775807)(hF:Fit hp.length L H) :
  fS env (.func 205) [.agg (tsC c).toArray,.int .i64 1] ⟨hp,L,H,d⟩=some (.tuple #[.agg (tsC { c with now:=c.now - 1,way:=2,bits:=4 }).toArray,.bool (decide (c.way≠1)&&decide (c.now > 0))],⟨hp,L,H,d⟩):=by
 rw[fF 205 _ _ Kk];have zJ:=fE h;have hz:(tsC z0).length=262:=fE (c:=z0) lD;obtain⟨c0,hc0⟩:∃ c0:Ts,c0 = { c with now:=c.now - 1 }:=⟨_,rfl⟩;obtain⟨c1,hc1⟩:∃ c1:Ts,c1 = { c0 with way:=2 }:=⟨_,rfl⟩;obtain⟨c2,hc2⟩:∃ c2:Ts,c2 = { c1 with bits:=4 }:=⟨_,rfl⟩;have hl0:c0.l.length=258:=by rw[hc0];exact h
 have hl1:c1.l.length=258:=by rw[hc1];exact hl0
 have hl2:c2.l.length=258:=by rw[hc2];exact hl1
 have s0:(tsC c).set 260 (.int .i64 (c.now - 1))=tsC c0:=by rw[AN h,hc0]
 have s1:(tsC c0).set 261 (.int .i64 2)=tsC c1:=by rw[H8 hl0,hc1]
 have s2:(tsC c1).set 259 (.int .i64 4)=tsC c2:=by rw[tO hl1,hc2]
 have r:({ c with now:=c.now - 1,way:=2,bits:=4 } : Ts)=c2:=by rw[hc2,hc1,hc0]
 have p2:putAt (tsC z0) 0 (tsC c2)=tsC c2:=j9 (by rw[fE hl2,hz]);have tb:=mU h;rw[hb] at tb;rw[r];by_cases hw:c.way=1
 ·simp(disch:=first|exact dis|fail) only[sy,simprocAttr,-List.reduceReplicate,hF.all,sR,gu,fZ,gP,lE h,tb,mV h,ox h,hw,zJ,hz,pU,s0,s1,s2,p2,gp hl2,fE hl2,fE hl1,fE hl0]
 ·simp(disch:=first|exact dis|fail) only[sy,simprocAttr,-List.reduceReplicate,hF.all,sR,gu,fZ,gP,lE h,tb,mV h,ox h,hw,zJ,hz,pU,s0,s1,s2,p2,gp hl2,fE hl2,fE hl1,fE hl0]
theorem aba{c:Ts}(h:c.l.length=258){k:Nat}(hk:k < 258)(n:Nat):(tsC c).set k (.int .u8 (n:Int))=tsC { c with l:=c.l.set k n }:=by unfold tsC;rw[dA _ _ (by rw[fH];omega)];simp[u8s,List.map_set]
theorem TN{c:Ts}(h:c.l.length=258)(h8:By c.l){k n:Nat}(hs:c.sym=k)(hk:k < 258)(hn:c.now=n)(aix:n<=255)(hb:c.bits=4)(hF:Fit hp.length L H) :
  fS env (.func 205) [.agg (tsC c).toArray,.int .i64 0] ⟨hp,L,H,d⟩=some (.tuple #[.agg (tsC { c with l:=c.l.set k n,sym:=(k:Int)+1,way:=0 }).toArray,.bool (decide (k+1 < 258)||qg (c.l.set k n))],⟨hp,L,H,d⟩):=by
 rw[fF 205 _ _ Kk];have zJ:=fE h;have hz:(tsC z0).length=262:=fE (c:=z0) lD;obtain⟨c0,hc0⟩:∃ c0:Ts,c0 = { c with l:=c.l.set k n }:=⟨_,rfl⟩;obtain⟨c1,hc1⟩:∃ c1:Ts,c1 = { c0 with sym:=(k:Int)+1 }:=⟨_,rfl⟩;obtain⟨c2,hc2⟩:∃ c2:Ts,c2 = { c1 with way:=0 }:=⟨_,rfl⟩;have hl0:c0.l.length=258:=by rw[hc0];simpa using h
 have hl1:c1.l.length=258:=by rw[hc1];exact hl0
 have hl2:c2.l.length=258:=by rw[hc2];exact hl1
 have s0:(tsC c).set k (.int .u8 (n:Int))=tsC c0:=by rw[aba h hk,hc0]
 have s1:(tsC c0).set 258 (.int .i64 ((k:Int)+1))=tsC c1:=by rw[aa8 hl0,hc1]
 have s2:(tsC c1).set 261 (.int .i64 0)=tsC c2:=by rw[H8 hl1,hc2]
 have r:({ c with l:=c.l.set k n,sym:=(k:Int)+1,way:=0 } : Ts)=c2:=by rw[hc2,hc1,hc0]
 have p2:putAt (tsC z0) 0 (tsC c2)=tsC c2:=j9 (by rw[fE hl2,hz]);have tb:=mU h;rw[hb] at tb;have ty:=lE h;rw[hs] at ty;have tn:=mV h;rw[hn] at tn;have ty0:=lE hl0;rw[show c0.sym=(k:Int) by rw[hc0];exact hs] at ty0;have ty2:=lE hl2;rw[show c2.sym=(k:Int)+1 by rw[hc2,hc1]] at ty2;have el:c2.l=c.l.set k n:=by rw[hc2,hc1,hc0]
 have h82:By c2.l:=fun x hx=>by
  rw[el] at hx;rcases eD hx with h1 | h1
  ·exact h8 x h1
  ·omega
 have ht:=fun hp L H d hF=>Cq (hp:=hp) (L:=L) (H:=H) (d:=d) hl2 h82 hF;have oP:=wV hl2;have i0:(0:Int)<=(k:Int):=om
 have i1:(k:Int) < 258:=om
 have tk:((k:Int)).toNat=k:=om
 have abb:k<=261:=om
 rw[r,<- el];by_cases LL:k+1 < 258
 ·have hl':(k:Int)+1 < 258:=om
  rw[decide_eq_true LL,Bool.true_or];simp(disch:=first|exact dis|fail) only[sy,simprocAttr,-List.reduceReplicate,hF.all,sR,gu,fZ,gP,ty,tb,tn,ty0,ty2,ox h,hl',i0,i1,tk,abb,zJ,hz,pU,s0,s1,s2,p2,gp hl2,fE hl2,fE hl1,fE hl0]
 ·have hl':¬ (k:Int)+1 < 258:=om
  rw[decide_eq_false LL,fy];simp(disch:=first|exact dis|fail) only[sy,simprocAttr,-List.reduceReplicate,hF.all,sR,gu,fZ,gP,ty,tb,tn,ty0,ty2,ox h,hl',i0,i1,tk,abb,zJ,hz,pU,s0,s1,s2,p2,gp hl2,fE hl2,fE hl1,fE hl0,oP,ht]
def gN(c:Ts)(b:Nat):Ts×Bool:=
 if c.bits < 4 then ({ c with now:=c.now*2+b,bits:=c.bits+1 },true)
 else if c.bits=4 then
  (if b=0 then ({ c with l:=c.l.set c.sym.toNat c.now.toNat,sym:=c.sym+1,way:=0 },decide (c.sym+1 < 258)||qg (c.l.set c.sym.toNat c.now.toNat)) else ({ c with bits:=5 },true))
 else if b=0 then ({ c with now:=c.now+1,way:=1,bits:=4 },decide (c.way≠2)&&decide (c.now < 15))
 else ({ c with now:=c.now - 1,way:=2,bits:=4 },decide (c.way≠1)&&decide (c.now > 0))
structure aeg(c:Ts):Prop where
 len:c.l.length=258
 by_:By c.l
 DU:0<=c.sym
 DV:c.sym < 258
 uM:0<=c.bits
 wW:c.bits<=5
 Dj:0<=c.now
 Dk:c.now<=15
 few:c.bits < 4->c.now < 2 ^ c.bits.toNat
theorem qF{c:Ts}(o:aeg c){b:Nat}(hb:b < 2)(hF:Fit hp.length L H) :
  fS env (.func 205) [.agg (tsC c).toArray,.int .i64 b] ⟨hp,L,H,d⟩=some (.tuple #[.agg (tsC (gN c b).1).toArray,.bool (gN c b).2],⟨hp,L,H,d⟩):=by
 have h:=o.len;have b0:=o.uM;have b1:=o.wW;have n0:=o.Dj;have n1:=o.Dk;have y0:=o.DU;have y1:=o.DV;unfold gN;by_cases c1:c.bits < 4
 ·rw[if_pos c1];exact Oy h c1 om ⟨n0,om⟩ om hF
 ·rw[if_neg c1];by_cases c2:c.bits=4
  ·rw[if_pos c2];by_cases c3:b=0
   ·subst c3;rw[if_pos rfl];have:=TN (k:=c.sym.toNat) (n:=c.now.toNat) h o.by_ om om om om c2 hF (hp:=hp) (L:=L) (H:=H) (d:=d);rw[show((c.sym.toNat:Nat):Int)=c.sym by omega] at this;rw[show decide (c.sym+1 < 258)=decide (c.sym.toNat+1 < 258) by rw[decide_eq_decide];omega];exact this
   ·obtain rfl:b=1:=om
    rw[if_neg c3];exact TL h c2 hF
  ·rw[if_neg c2];by_cases c3:b=0
   ·subst c3;rw[if_pos rfl];exact aa9 h om om hF
   ·obtain rfl:b=1:=om
    rw[if_neg c3];exact TM h om om hF
end LtA
namespace LtA
open Go Go.RowKit AM fO
variable{hp:List Blk}{L:Nat}{H d:List Nat}
def RdI(hp:List Blk)(H:List Nat)(v:Value)(l:List Int):Prop:=
 (v=.slice none 0 0/\l=[])\/∃ b o g e pl cs,v=.slice (some ⟨b,o,some g⟩) l.length e/\H.contains b=false/\hp[b]?=some (.cells g pl cs)/\∀ i (h:i < l.length),cs[o+i]?=some (.int .i64 l[i])
theorem RdI.len{v:Value}{l:List Int}(h:RdI hp H v l):∃ p e,v=.slice p l.length e:=by
 rcases h with ⟨rfl,rfl⟩ | ⟨b,o,g,e,pl,cs,rfl,_⟩
 ·exact⟨_,_,rfl⟩
 ·exact⟨_,_,rfl⟩
theorem RdI.at_{p:Option Addr}{n e:Nat}{l:List Int}(h:RdI hp H (.slice p n e) l){i:Nat}(hi:i < l.length):∃ b o g pl cs,p=some ⟨b,o,some g⟩/\H.contains b=false/\hp[b]?=some (.cells g pl cs)/\cs[o+i]?=some (.int .i64 l[i]):=by
 rcases h with ⟨h1,rfl⟩ | ⟨b,o,g,e',pl,cs,h1,h2,h3,h4⟩
 ·simp at hi
 ·cases h1;exact⟨b,o,g,pl,cs,rfl,h2,h3,h4 i hi⟩
theorem TO{c:Ts}(h:c.l.length=258)(b:Nat):(gN c b).1.l.length=258:=by
 unfold gN;split
 ·exact h
 ·split
  ·split
   ·show(c.l.set _ _).length=258;rw[aG];exact h
   ·exact h
  ·split
   ·exact h
   ·exact h
end LtA
namespace TwY
open Go Go.RowKit Go.Sort AM fO LtA SyP TmM TsA TsB TsC TsE TsI TsJ TtC TuF TuG TwA TwS TwB TwC TwH TwI TwJ TwK TwL TwM TwN TwO TwP TwQ TwT TwU TwV TwW TwX Bt
noncomputable def ag2:List (Nat×AFn):=(10,mL (.bool true))::(5,ac5)::yX
noncomputable def DW:Env:=.base ag2
theorem fnS:DW.fn 5=some ac5:=by kernel_rfl
theorem fnL:DW.fn 10=some (mL (.bool true)):=by kernel_rfl
theorem ups{g:Fn}{args:List Value}{σ:St}{r:Value×St}(h:fS env g args σ=some r):fS DW g args σ=some r:=
 Fw (Fx (show gW ((5,ac5)::yX) 10=none by kernel_rfl)) (Fw (Fx (show gW yX 5=none by kernel_rfl)) h)
section
variable{hp:List Blk}{L:Nat}{H d:List Nat}
theorem Dl{σ:St} : fS DW (.func 10) [] σ=some (.bool true,σ):=by obtain⟨hp,L,H,d⟩:=σ;rw[fF 10 _ _ fnL];simp(disch:=first|exact dis|fail) only[sy,simprocAttr,-List.reduceReplicate,mL]
theorem TP{x:List Nat}{v w:Value}{l:List Int}(hR:Rd ⟨hp,L,H,[]⟩ v x)(hI:RdI hp H w l)(hx:x.length=0\/x.length > 100\/l.length > 258)(hF:Fit hp.length L H):∃ σ',fS DW (.func 5) [v,w] ⟨hp,L,H,[]⟩=some (.bool true,σ'):=by
 rw[fF 5 _ _ fnS];have kl:=fun σ=>Dl (σ:=σ);obtain⟨a,e,rfl⟩:=hR.len;obtain⟨a2,e2,rfl⟩:=hI.len;by_cases h1:(x.length:Int)=0
 ·simp(disch:=first|exact dis|fail) only[sy,simprocAttr,-List.reduceReplicate,hF.all,ac5,h1,kl];exact⟨_,rfl⟩
 by_cases h2:(x.length:Int) > 100
 ·simp(disch:=first|exact dis|fail) only[sy,simprocAttr,-List.reduceReplicate,hF.all,ac5,h1,h2,kl];exact⟨_,rfl⟩
 ·have h3:(l.length:Int) > 258:=om
  simp(disch:=first|exact dis|fail) only[sy,simprocAttr,-List.reduceReplicate,hF.all,ac5,h1,h2,h3,kl];exact⟨_,rfl⟩
def Oz(o:List Nat)(i:Nat)(c:Int):List Nat:=o.set i (tv o i+(min (max c 0) 1000).toNat)
theorem YD{o:List Nat}{i n:Nat}{c:Int}(h:o[i]?=some n):(is o).set i (.int .i64 ((n:Int)+min (max c 0) 1000))=is (Oz o i c):=by have:=NW o i (n+(min (max c 0) 1000).toNat);rw[Oz,tv,h];simp only[dn];rw[<- this];congr 2;omega
theorem LM{l:List Int}{p q:Option Addr}{m e e2:Nat}{ev:Value}(hI:RdI hp H (.slice p l.length e2) l)(hl:l.length<=258){B:Nat}(hB:B<=90000)(c0 c1:Blk)(hF:Fit hp.length L H)(hq:∀ r∈refs (.slice q m e),r < hp.length)(hev:refs ev=[]) :
  ∀ (r i:Nat) (o:List Nat),i+r=l.length->o.length=258->(∀ s,tv o s<=B+1000)->(∀ s,i<=s->tv o s<=B)->∃ fr o',
  fW DW QI [9,0,6,7,1,8] (hp.length+3) [(9,.int .i64 i),(0,.slice q m e),(6,.pointer (some ⟨hp.length+1,0,some 0⟩)),(7,ev),(1,.slice p l.length e2),(8,.pointer (some ⟨hp.length+2,0,some 0⟩))] ⟨hp++[c0,c1,.cells 0 true (is o)],L,H,[]⟩
   = some (.exit 0,fr,⟨hp++[c0,c1,.cells 0 true (is o')],L,H,[]⟩)
   /\ (fr.get 0=some (.slice q m e)/\fr.get 6=some (.pointer (some ⟨hp.length+1,0,some 0⟩))/\fr.get 7=some ev/\fr.get 8=some (.pointer (some ⟨hp.length+2,0,some 0⟩)))/\o'.length=258/\(∀ s,tv o' s<=B+1000)/\∀ s,tv o s<=tv o' s
 | 0,i,o,hi,ho,h1,h2=>by
  have g0:¬ (i:Int) < (l.length:Int):=om
  rw[fC QI.eq_1];simp(disch:=first|exact dis|fail) only[sy,simprocAttr,-List.reduceReplicate,hF.all,g0];exact⟨_,o,rfl,⟨rfl,rfl,rfl,rfl⟩,ho,h1,fun s=>av _⟩
 | r+1,i,o,hi,ho,h1,h2=>by
  have hil:i < l.length:=om
  have hio:i < o.length:=om
  have htv:∀ s,tv (Oz o i l[i]) s=if s=i then tv o i+(min (max l[i] 0) 1000).toNat else tv o s:=fun s=>by
   unfold Oz;simp only[tv,cr];by_cases hs:s=i
   ·subst hs;simp[hio]
   ·rw[if_neg hs,if_neg (Ne.symm hs)]
  have h2i:=h2 i (av _);obtain⟨fr,o',ih,ih2,ih3,ih4,ih5⟩:=LM hI hl hB c0 c1 hF hq hev r (i+1) (Oz o i l[i]) om (by simp[Oz,ho]) (fun s=>by rw[htv];split;omega;exact h1 s) (fun s hs=>by rw[htv,if_neg om];exact h2 s om);refine⟨fr,o',?_,ih2,ih3,ih4,fun s=>bh ?_ (ih5 s)⟩
  ·obtain⟨b,of,g,pl,cs,rfl,hh,hb,hc⟩:=hI.at_ hil;have hbl:=(af.1 hb).1;have hn:o[i]?=some o[i]:=aq hio;have hni:tv o i=o[i]:=by rw[tv,hn];rfl
   rw[hni] at h2i;have iK:=YD (c:=l[i]) hn;have hc2:(is o)[i]?=some (.int .i64 (o[i]:Nat)):=KX hio;have g0:(i:Int) < (l.length:Int):=om
   have b0:0<=(i:Int)/\(i:Int) < (l.length:Int):=om
   have b1:0<=(i:Int)/\(i:Int) < 258:=om
   have s1:i+1<=258:=om
   have hln:=mZ ho;simp only[aC,aI] at ih;generalize Oz o i l[i]=o2 at *;generalize o[i]=n at *;generalize l[i]=c at *;have hmm:min (max c 0) 1000<=1000/\0<=min (max c 0) 1000:=om
   rw[fC QI.eq_1];simp(disch:=first|exact dis|fail) only[sy,simprocAttr,-List.reduceReplicate,hF.all,g0,b0,b1,hh,hb,hc,hc2,hln,s1,iK];exact ih
  ·rw[htv];split
   ·rename_i e;rw[e];omega
   ·exact av _
end
end TwY
namespace TwZ
open Go Go.RowKit Go.Sort AM fO LtA SyP TmM TsA TsB TsC TsE TsI TsJ TtC TuF TuG TuH TuJ TwA TwS TwB TwC TwH TwI TwJ TwK TwL TwM TwN TwO TwP TwQ TwT TwU TwV TwW TwX TwY Bt
theorem QJ{t od:List Nat}(h:Od t od):Ta (lens od (ls (wts t od))) 255:=⟨mR _ _,fun n hn=>by
 obtain⟨s,-,rfl⟩:=bw.1 hn;by_cases hm:s∈od
 ·rw[if_pos hm];have hw:(wts t od).length=od.length:=by simp[wts]
  have hl:=h.len;have h15:(2:Nat) ^ 15=32768:=by decide
  have:=(ab6 (w:=wts t od) om (i:=od.idxOf s) (by rw[hw];exact bP hm)).2;omega
 ·rw[if_neg hm];omega⟩
theorem ag3{o:List Nat}{B:Nat}(hl:o.length=258)(h:∀ s,tv o s<=B):Ta o B:=⟨hl,fun n hn=>by obtain⟨i,hi,rfl⟩:=List.getElem_of_mem hn;have:=h i;rwa [tv,aq hi] at this⟩
section
variable{hp:List Blk}{L:Nat}{H d:List Nat}
theorem abc{x:List Nat}{v w:Value}{l:List Int}(hR:Rd ⟨hp,L,H,[]⟩ v x)(hI:RdI hp H w l)(hx1:1<=x.length)(hx2:x.length<=100)(hl:l.length<=258)(hF:Fit hp.length L H):∃ σ',fS DW (.func 5) [v,w] ⟨hp,L,H,[]⟩=some (.bool true,σ'):=by
 have hyl:(col x).length=x.length:=P3 x;have hy8:=Xw hR.by_;have hS2:=aa6 (y:=col x) hy8 om;have ag4:=TsP.adN (x:=col x) hy8;have hSn:=aa7 (y:=col x) hy8 om;obtain⟨N,hN⟩:∃ N,(enc (col x)).length=N:=⟨_,rfl⟩;rw[hN] at hS2 hSn;have hs:∀ s∈enc (col x),s < 258:=fun s h=>by have:=ag4 s h;omega
 have h0:enc (col x)≠[]:=fun e=>by rw[e] at hN;simp at hN;omega
 have c1:=fun d=>ups (wE (d:=d) hR hx1 om hN om hF);have hbl:=fun(q:List Blk) (L':Nat) (hF':Fit (hp++q).length L' H)=>DQ (hp:=hp++q) (L:=L') (H:=H) hR.app hx1 om hs h0 om hF';obtain⟨S,hS⟩:∃ S,enc (col x)=S:=⟨_,rfl⟩;rw[hS] at hN hs h0 c1 hbl;have ht:Ta (gM S) N:=by rw[<- hN];exact Ta.gM S
 obtain⟨s0,hs1,hs2⟩:=Ff h0 hs;have c2:=fun d=>ups (TwA.P6 (hp:=hp++[.cells N true (is S)]) (L:=L) (H:=H) (d:=d) (v:=.slice (some ⟨hp.length,0,some N⟩) N 1) (TwX.XT (by rw[gA]) hF.lS hN) hs om (hF.mono (by simp)));have ht1:Ta (gM S) 100000:=Ta.mono ht om;have hlt:=mZ ht.len;have htv:∀ s,tv (gM S) s<=N:=fun s=>by
  unfold tv;cases e:(gM S)[s]? with
  | none=>simp
  | some n=>exact ht.le n (aW e)
 obtain⟨a,e,rfl⟩:=hR.len;obtain⟨a2,e2,rfl⟩:=hI.len;have hrv:∀ r∈refs (.slice a x.length e),r < hp.length:=hR.refs;obtain⟨fr,o,e1,⟨e3,e4,e5,e6⟩,ho1,ho2,ho3⟩:=LM (L:=L) (ev:=.int .i64 0) hI hl (B:=N) om (.cells N true (is S)) (.cells 0 true (is (gM S))) hF hrv rfl l.length 0 (gM S) om ht.len (fun s=>by have:=htv s;omega) (fun s _=>htv s);have hto:Ta o 100000:=Ta.mono (ag3 ho1 ho2) om;have hlo:=mZ hto.len;obtain⟨oo,hoo,c3⟩:=wH (hp:=hp++[.cells N true (is S),.cells 0 true (is (gM S)),.cells 0 true (is o)]) (L:=L) (H:=H) hto (ab8 hs1 (bg hs2 (ho3 s0))) (hF.mono (by simp));have c3':=fun d=>ups (c3 d);have oP:=QJ hoo;have hex:∀ L',∃ od,Od (gM S) od/\(Fit (hp.length+4) L' H->∀ d,fS DW (.func 22) [.slice a x.length e] ⟨hp++[.cells N true (is S),.cells 0 true (is (gM S)),.cells 0 true (is o),.cells 0 true (u8s (lens oo (ls (wts o oo))))],L',H,d⟩=some (.agg (u8s (lens od (ls (wts (gM S) od)))).toArray,⟨hp++[.cells N true (is S),.cells 0 true (is (gM S)),.cells 0 true (is o),.cells 0 true (u8s (lens oo (ls (wts o oo))))],L',H,d⟩)):=fun L'=>by
  by_cases hf:Fit (hp.length+4) L' H
  ·obtain⟨od,h1,h2⟩:=hbl [.cells N true (is S),.cells 0 true (is (gM S)),.cells 0 true (is o),.cells 0 true (u8s (lens oo (ls (wts o oo))))] L' (by simpa using hf);exact⟨od,h1,fun _ d=>ups (h2 d)⟩
  ·obtain⟨od,h1,h2⟩:=hbl [] L (by simpa using hF);exact⟨od,h1,fun h=>absurd h hf⟩
 obtain⟨f,hf⟩:=Classical.axiomOfChoice hex;have c5:=fun d=>(hf (hp.length+4)).2 (by refine Fit.draw hF ?_ ?_<;>omega) d;have c4:=fun hp L H d hF=>ups (E4 (hp:=hp) (L:=L) (H:=H) (d:=d) ht1 oP hF);have c6:=fun L' hp L H d hF=>ups (E4 (hp:=hp) (L:=L) (H:=H) (d:=d) ht1 (QJ (hf L').1) hF);have hge:∀ L',(cost (gM S) (lens oo (ls (wts o oo))) 258:Nat)>=(cost (gM S) (lens (f L') (ls (wts (gM S) (f L')))) 258:Nat):=fun L'=>short (hf L').1 hoo fun s h=>bg h (ho3 s);have ah9:∀ L',((cost (gM S) (lens oo (ls (wts o oo))) 258:Nat):Int)>=((cost (gM S) (lens (f L') (ls (wts (gM S) (f L')))) 258:Nat):Int):=fun L'=>by have:=hge L';omega
 have kl:=fun σ=>TwY.Dl (σ:=σ);have hq:(List.replicate 258 (Value.int .i64 0)).length=258:=by simp
 have hr:(List.replicate 258 (Value.int .u8 0)).length=258:=by simp
 have Lr:∀ {cs:List Value},cs.length=258->putAt (List.replicate 258 (Value.int .i64 0)) 0 cs=cs:=fun h=>gH (by rw[h,hq]);have hl8:(u8s (lens oo (ls (wts o oo)))).length=258:=by rw[fH,mR]
 have Ls:putAt (List.replicate 258 (Value.int .u8 0)) 0 (u8s (lens oo (ls (wts o oo))))=u8s (lens oo (ls (wts o oo))):=gH (by rw[hl8,hr]);have hcv:=ju (lens oo (ls (wts o oo)));have hsc:=gQ (lens oo (ls (wts o oo)));have g1:¬ (x.length:Int)=0:=om
 have g2:¬ (x.length:Int) > 100:=om
 have g3:¬ (l.length:Int) > 258:=om
 have hbx:((x.length:Int)==0)=false:=by simpa using g1
 simp only[aB,az,aT,aX,aR,aS,aV,aN] at c2 c3' e1;clear hbl hex hf hge c3 ht ht1 hS hyl hy8 ag4 hs h0 htv ho1 ho2 ho3 hto oP hoo hR hI;generalize hul:u8s (lens oo (ls (wts o oo)))=ul at *;generalize cost (gM S) (lens oo (ls (wts o oo))) 258=ca at *;generalize gM S=t at *;rw[fF 5 _ _ fnS];have aeh:=Lr hlt;have aei:=Lr hlo;clear Lr;generalize hzq:List.replicate 258 (Value.int .i64 0)=zq at *;generalize hz:List.replicate 258 (Value.int .u8 0)=z at *;simp(disch:=first|exact dis|fail) only[sy,simprocAttr,-List.reduceReplicate,hF.all,ac5,hz,hzq,kl,c1,c2,c3',c4,c5,c6,e1,e3,e4,e5,e6,ah9,jR,oS,hlt,hlo,fR hlt,fR hlo,hq,hr,aeh,aei,hl8,fR hl8,Ls,hcv,hsc,g1,g2,g3,hbx];exact⟨_,rfl⟩
theorem TQ{bs:List Blk}{x:List Nat}{v:Value}(hR:Rd ⟨bs,bs.length,[],[]⟩ v x)(l:List Int)(w:Value){bs':List Blk}(h:(w=.slice none 0 0/\l.length=0/\bs'=[])\/(w=.slice (some ⟨bs.length,0,some 0⟩) l.length 0/\bs'=[.cells 0 true (l.map (Value.int .i64))])) :
  ∃ σ',fS DW (.func 5) [v,w] ⟨bs++bs',(bs++bs').length,[],[]⟩=some (.bool true,σ'):=by
 have hI:RdI (bs++bs') [] w l:=by
  rcases h with ⟨rfl,h,rfl⟩ | ⟨rfl,rfl⟩
  ·exact .inl ⟨rfl,bp h⟩
  ·exact .inr ⟨_,_,_,_,_,_,rfl,rfl,gA ..,fun i hi=>by simp[hi]⟩
 by_cases hx:x.length=0\/x.length > 100\/l.length > 258
 ·exact TwY.TP hR.app hI hx (Fit.nil (av _))
 ·exact abc hR.app hI om om om (Fit.nil (av _))
end
end TwZ
namespace Bt
open Go Go.RowKit AM fO
variable{hp:List Blk}{L:Nat}{H:List Nat}{a k a2 k2:Nat}{l l2:List Nat}
end Bt
namespace Bt
open Go Go.RowKit AM fO
variable{q:List Blk}{L:Nat}{H:List Nat}{a k s:Nat}{l:List Nat}
end Bt
namespace Bt
open Go Go.RowKit AM fO
structure Dd where
 v:Nat
 w:Int
 pad:Bool
def aia(d:Dd):List Value:=[.int .u32 d.v,.int .i64 d.w,.bool d.pad]
end Bt
open Go Go.RowKit Go.ChangeShapes Go.WideShapes Go.ChangeAt Go.Deep
theorem YE:ownKnob Tryz.prog.godebug=none:=by kernel_rfl
theorem YF:laidOutB Tryz.prog=true:=by kernel_rfl
section
variable{H:Type}{enc:TypeId×Value->H}{P:Program}
theorem Fy(hl:laidOutB P=true){W W':World}(hb:Below W.heap.size W W'):∀ {ts:List TypeId} {vs:List Value} {ds:List (DataW H)} {ps:List MemPlace},
  (∀ t∈ts,P.readableRec t=true/\t < P.types.size)->DataW.TrodAll enc P W 0 (fun _=>true) true ts vs ds ps->(∀ x∈ps,x.block < W.heap.size) ->
  DataW.TrodAll enc P W' 0 (fun b=>decide (b < W.heap.size)) true ts vs ds ps
 | [],vs,ds,ps,_,h,_=>by
  obtain⟨rfl,rfl,rfl⟩:=trodAll_nil h;exact trodAll_mk0
 | t::ts,vs,ds,ps,hr,h,hlt=>by obtain⟨v,vs',d,ds',p,q,rfl,rfl,rfl,h1,h2⟩:=trodAll_cons h;exact⟨p,q,Below.trod hl (hr t (by simp)).1 (hr t (by simp)).2 h1 hb (fun x hx=>hlt x (by simp[hx])),Fy hl hb (fun t' ht'=>hr t' (by simp[ht'])) h2 (fun x hx=>hlt x (by simp[hx])),rfl⟩
theorem YG{f:Func}{s:ChangeSpec}{W W':World}{args:Array Value}{ds gs:List (DataW H)}{before:List MemPlace}{tb:TypeId}
  (hW:DataW.Whole enc P f.params.toList s.vars false W args.toList ds gs before) (hl:laidOutB P=true) (hr:∀ t∈f.params.toList,P.readableRec t=true/\t < P.types.size)
  (hv:s.vars=[]) (ht:f.resultTypes=#[tb]) (hb0:P.underlying tb=some .bool) (hf:s.fn H (ds++gs) = { results:=[.lit (.bool true)],args:=ds })
  (hb:Below W.heap.size W W'):s.post enc P f false true false false W args (.bool true) W':=by
 have hlt:∀ p∈before,p.block < W.heap.size:=fun p hp=>hW.lt p hp;have hW2:=hW;obtain⟨p,q,hA,hV,rfl,_,_⟩:=hW2;rw[hv] at hV;obtain⟨rfl,rfl⟩:=trodVars_none hV;refine⟨ds,[],p++[],[],p,[],hW,?_,?_,?_,?_,fun h=>by cases h⟩
 ·rw[hf,ht];exact trodAll_mk1 (shut_bool hb0 true)
 ·rw[hf];exact Fy hl hb hr hA (fun x hx=>hlt x (by simp[hx]))
 ·rw[hf,hv];exact rfl
 ·exact World.keptBut_mono (fun x hx=>⟨hx,.inr (.inl (by simpa using hx))⟩) (hb.frame (·∈p++[]))
theorem zK{W:World}{t e:TypeId}{fuel:Nat}{cs:List Value}{x:DataW H×List MemPlace}{base:Nat}{spare:Nat->Bool}{held:Bool}(ht:P.underlying t=some (.slice e))(he:P.underlying e=some (.int .u8))(hc:P.cellsOf e=1)
  (h:DataW.trod enc P W base spare held fuel t cs=some x) :
  ∃ (A:Option Addr) (l:List Nat) (cap:Nat),cs=[.slice A l.length cap]/\At W A (u8s l)/\(∀ b∈l,b < 256)/\l.length<=cap/\cap<=maxLen:=by
 rcases open_ints ht he hc h with ⟨rfl,_⟩ | ⟨a,len,cap,zs,rfl,_,hl,hm,hz,_,hcell,hwf⟩
 ·exact⟨none,[],0,rfl,At.nil,by simp,by simp,by simp[maxLen]⟩
 ·have hle:len<=zs.length:=by rw[hz];split<;>omega
  have hnn:∀ n∈zs,0<=n/\n<=255:=fun n hn=>by have:=hwf n hn;simp only[Lit.wf,au,decide_eq_true_eq] at this;simpa[IntKind.min,IntKind.max,IntKind.signed,IntKind.bits] using this
  have hlen:((zs.take len).map Int.toNat).length=len:=by simp;omega
  refine⟨some a,(zs.take len).map Int.toNat,cap,by rw[hlen],fun j u hu=>⟨a,rfl,?_⟩,fun b hb=>?_,om,hm⟩
  ·rw[j0,bW,List.getElem?_take] at hu;split at hu
   ·rename_i hj;have hjl:j < zs.length:=om
    rw[hcell j hjl];rw[aq hjl] at hu;simp only[bq,ay] at hu;subst hu;rw[Int.toNat_of_nonneg (hnn _ (bN hjl)).1];simp[aq hjl]
   ·cases hu
  ·obtain⟨n,hn,rfl⟩:=bw.1 hb;have:=hnn n (eH hn);omega
theorem OA{W:World}{t e:TypeId}{r:Reach}{b0:Nat}{v:Value}{d:DataW H}{ps:List MemPlace}{base:Nat}{spare:Nat->Bool}{held:Bool}(ht:P.underlying t=some (.slice e))(he:P.underlying e=some (.int .u8))(hc:P.cellsOf e=1)
  (hval:Value.okWide P W r b0 t v) (hd:DataW.Trod enc P W base spare held t v d ps) :
  ∃ (A:Option Addr) (l:List Nat) (cap:Nat),v=.slice A l.length cap/\At W A (u8s l)/\(∀ b∈l,b < 256)/\l.length<=cap/\cap<=maxLen:=by obtain⟨a0,len,cap,rfl⟩:=okWide_slice ht hval;obtain⟨fuel,hf⟩:=hd;obtain⟨A,l,c,h1,h2⟩:=zK ht he hc hf;simp only[Value.cells,dU,and_true] at h1;exact⟨A,l,c,h1,h2⟩
end
namespace AM
open Go Go.RowKit Go.ChangeShapes Go.WideShapes Go.ChangeAt Go.Deep
section
variable{P:Program}{W:World}
structure Argd(W:World)(bs:List Blk)(X:Emb)(args vs:List Value):Prop where
 sim:Sim W X ⟨bs,bs.length,[],[]⟩ W
 rel:gq (fN X) args vs
theorem Argd.nil(W:World):Argd W [] ⟨fun _=>none,0⟩ [] []:=
 ⟨⟨Below.refl _ _,fun id bx h=>by (cases h),fun id bx h=>by (cases h),fun id bx g pl cs h=>by (cases h),fun i j bi bj h=>by (cases h),fun id bx h=>by (cases h),fun id bx h=>by (cases h),fun id bx es h=>by (cases h)⟩,gq.nil⟩
theorem gq.snoc{R:Value->Value->Prop}{l m:List Value}(h:gq R l m){v u:Value}(k:R v u):gq R (l++[v]) (m++[u]):=h.append (gq.nil.cons k)
theorem Argd.sc{bs:List Blk}{X:Emb}{args vs:List Value}(A:Argd W bs X args vs){v:Value}(h:AM.sc v=true):Argd W bs X (args++[v]) (vs++[v]):=
 ⟨A.sim,gq.snoc A.rel ((gw h).2 rfl)⟩
theorem Argd.bytes{bs:List Blk}{X:Emb}{args vs:List Value}(A:Argd W bs X args vs){ad:Option Addr}{l:List Nat}{cap:Nat}(ha:At W ad (u8s l))(hb:By l)(hc:l.length<=cap)(hd:cap<=maxLen)
  (h0:ad=none->l=[]/\cap=0) (hs:∀ a,ad=some a->a.spot=none/\a.block < W.heap.size) :
  ∃ X' bs' v',Argd W (bs++bs') X' (args++[v']) (vs++[.slice ad l.length cap])/\Rd ⟨bs++bs',(bs++bs').length,[],[]⟩ v' l:=by
 cases ad with
 | none=>
  obtain⟨rfl,rfl⟩:=h0 rfl;refine⟨X,[],.slice none 0 0,?_,⟨By.nil,.inl ⟨rfl,rfl⟩⟩⟩;have:=A.sc (v:=.slice none 0 0) rfl;simpa using this
 | some a=>
  obtain⟨hsp,hbk⟩:=hs a rfl;obtain⟨ab,ao,asp⟩:=a;simp only at hsp hbk;subst hsp;have S:=A.sim;let X':Emb:=⟨fun id=>if id=bs.length then some ⟨ab,ao,false,0,l.length,l.length⟩ else X id,X.y⟩;have ev:Evo X X':=Evo.mk' rfl fun id bx hx=>by have hlt:=S.dom id bx hx;simp only at hlt;exact⟨bx,by simp only[X'];rw[if_neg om];exact hx,.inl rfl⟩
  have hnew:X' bs.length=some ⟨ab,ao,false,0,l.length,l.length⟩:=by simp[X']
  have hold:∀ id bx,X' id=some bx->(id=bs.length/\bx=⟨ab,ao,false,0,l.length,l.length⟩)\/(id≠bs.length/\X id=some bx):=fun id bx h=>by
   simp only[X'] at h;split at h
   ·rename_i e;exact .inl ⟨e,(by cases h;rfl)⟩
   ·rename_i e;exact .inr ⟨e,h⟩
  refine⟨X',[.cells 0 true (u8s l)],.slice (some ⟨bs.length,0,some 0⟩) l.length 0,⟨⟨S.bel,fun id bx h=>?_,fun id bx h=>?_,fun id bx g pl cs h hh hcs=>?_,fun i j bi bj hi hj oi oj e=>?_,fun id bx h hl=>?_,fun id bx h h0=>by
   rcases hold id bx h with ⟨rfl,rfl⟩ | ⟨_,h⟩
   ·exact h0
   ·exact S.zero id bx h h0,fun id bx es h hh hcs=>by
   rcases hold id bx h with ⟨rfl,rfl⟩ | ⟨_,h⟩
   ·rw[show(bs++[Blk.cells 0 true (u8s l)])[bs.length]?=some (.cells 0 true (u8s l)) by simp] at hcs;cases hcs
   ·have hlt:=S.dom id bx h;rw[show(bs++[Blk.cells 0 true (u8s l)])[id]?=bs[id]? from aA hlt] at hcs;obtain⟨a1,a2,res,ck,a3,a4⟩:=S.j4 id bx es h hh hcs;exact⟨a1,a2,res,ck,a3,a4.evo ev⟩⟩,gq.snoc (A.rel.mono fun v _ u h=>h.evo ev) ?_⟩,⟨hb,.inr ⟨bs.length,0,0,0,true,u8s l,rfl,.inl rfl,rfl,by simp,by simp[u8s],by rw[cz,bt (by simp[u8s])]⟩⟩⟩
  ·rcases hold id bx h with ⟨rfl,_⟩ | ⟨_,h⟩
   ·simp
   ·have:=S.dom id bx h;simp only[aB,az,aT] at this ⊢;omega
  ·rcases hold id bx h with ⟨rfl,rfl⟩ | ⟨_,h⟩
   ·exact⟨hbk,hbk⟩
   ·exact S.place id bx h
  ·rcases hold id bx h with ⟨rfl,rfl⟩ | ⟨hne,h⟩
   ·simp only[List.getElem?_concat_length,ay,Blk.cells.injEq] at hcs;obtain⟨rfl,rfl,rfl⟩:=hcs;refine⟨rfl,by simp[u8s],by simp,fun _=>Cj l,fun j v hv=>?_,fun ho=>(by cases ho)⟩;obtain⟨ad',e1,e2⟩:=ha j v hv;cases e1;rw[add_lit] at e2;refine⟨v,e2,(iR ?_).2 rfl⟩;have:=aF.1 (Cj l) v (aW hv);exact this
   ·have hlt:=S.dom id bx h;simp only at hlt;have aej:bs[id]?=some (.cells g pl cs):=by simp only at hcs;rw[aA hlt] at hcs;exact hcs
    obtain⟨a1,a2,a3,a4,a5,a6⟩:=S.cell id bx g pl cs h (by simp) aej;exact⟨a1,a2,a3,a4,fun j v hj=>by obtain⟨u,hu,hr⟩:=a5 j v hj;exact⟨u,hu,hr.evo ev⟩,a6⟩
  ·rcases hold i bi hi with ⟨rfl,rfl⟩ | ⟨_,hi⟩
   ·cases oi
   ·rcases hold j bj hj with ⟨rfl,rfl⟩ | ⟨_,hj⟩
    ·cases oj
    ·exact S.inj i j bi bj hi hj oi oj e
  ·simp only[aB,az,aT] at hl;rcases hold id bx h with ⟨rfl,rfl⟩ | ⟨_,h⟩
   ·omega
   ·have:=S.dom id bx h;simp only at this;omega
  ·exact⟨⟨ab,ao,none⟩,cap,rfl,hc,hd,_,hnew,0,rfl,av _,fun _=>⟨fun _=>by simp,fun h=>by omega⟩⟩
theorem abd{env:Env}(he:iS P env)(hm:P.follows .mixedOrders=true){f:Nat}{args vs:List Value}{bs:List Blk}{X:Emb}(A:Argd W bs X args vs)(h:∃ σ',fS env (.func f) args ⟨bs,bs.length,[],[]⟩=some (.bool true,σ')) :
  Calls P f vs.toArray W fun e W'=>e=.returned (.bool true)/\Below W.heap.size W W':=by obtain⟨σ',h⟩:=h;obtain⟨n,h⟩:=tY.1 h;obtain⟨f',e,_,hc⟩:=((BW (w0:=W) he hm n).call _ _ _ _ _ h).resolve_right (fun⟨k,e,_⟩=>by cases e);cases e;refine(hc X W vs.toArray A.sim (by simp) (by simp) (by simpa using A.rel)).mono fun e W' ⟨u,X',h1,h2,h3,h4⟩=>?_;rw[kE h2] at h1;exact⟨h1,h3.bel⟩
theorem LN{w:World}{b:Nat}{p:TypeId×Nat}(h:w.shape? b=some p):b < w.heap.size:=by
 rcases bu b w.heap.size with h1 | h1
 ·exact h1
 ·simp[World.shape?,Array.getElem?_eq_none h1] at h
variable{H:Type}{enc:TypeId×Value->H}
theorem DX{t e:TypeId}{r:Reach}{b0:Nat}{v:Value}{d:DataW H}{ps:List MemPlace}{base:Nat}{spare:Nat->Bool}{held:Bool}(ht:P.underlying t=some (.slice e))(he:P.underlying e=some (.int .u8))(hc:P.cellsOf e=1)
  (hval:Value.okWide P W r b0 t v) (hd:DataW.Trod enc P W base spare held t v d ps) :
  ∃ (A:Option Addr) (l:List Nat) (cap:Nat),v=.slice A l.length cap/\At W A (u8s l)/\By l/\l.length<=cap/\cap<=maxLen/\(A=none->l=[]/\cap=0)/\(∀ a,A=some a->a.spot=none/\a.block < W.heap.size):=by
 obtain⟨A,l,cap,rfl,h1,h2,h3,h4⟩:=OA ht he hc hval hd;refine⟨A,l,cap,rfl,h1,h2,h3,h4,fun e=>?_,fun a e=>?_⟩
 ·subst e;simp only[Value.okWide,ht,Cell.okWide,Cell.ok] at hval;split at hval<;>simp_all
 ·subst e;simp only[Value.okWide,ht,Cell.okWide,Cell.ok] at hval;obtain⟨_,_,h5⟩:=hval;obtain⟨_,h6,row,cells,h7,_⟩:=h5;exact⟨h6,LN h7⟩
end
end AM
namespace AM
open Go Go.RowKit Go.ChangeShapes Go.WideShapes Go.ChangeAt Go.Deep
theorem flat_get{s:Nat} : ∀ {ls:List (List Value)},(∀ l∈ls,l.length=s)->∀ i k,k < s->ls.flatten[i*s+k]?=(ls[i]?).bind fun l=>l[k]?
 | [],_,i,k,hk=>by simp
 | l::ls,h,0,k,hk=>by
  have h1:=h l (by simp);simp only[dc,Nat.zero_mul,aX,cI,ak];rw[aA om]
 | l::ls,h,i+1,k,hk=>by
  have h1:=h l (by simp);have h2:=flat_get (s:=s) (ls:=ls) (fun m hm=>h m (by simp[hm])) i k hk;have e:(i+1)*s=i*s+s:=by rw[bS,dH]
  simp only[dc,cJ];rw[aM om,h1,show(i+1)*s+k - s=i*s+k by omega,h2]
theorem flat_len{s:Nat} : ∀ {ls:List (List Value)},(∀ l∈ls,l.length=s)->ls.flatten.length=ls.length*s
 | [],_=>by simp
 | l::ls,h=>by have h1:=h l (by simp);have h2:=flat_len (s:=s) (ls:=ls) (fun m hm=>h m (by simp[hm]));rw[dc,aB,h1,h2,az,bS,dH,eW]
section
variable{P:Program}{W:World}
theorem Argd.cells{bs:List Blk}{X:Emb}{args vs:List Value}(A:Argd W bs X args vs){ad:Option Addr}{cs:List Value}{n cap:Nat}(ha:At W ad cs)(hsc:∀ v∈cs,AM.sc v=true)(hc:n<=cap)(hd:cap<=maxLen)
  (h0:ad=none->n=0/\cap=0) (hs:∀ a,ad=some a->a.spot=none/\a.block < W.heap.size) :
  ∃ X' bs' v',Argd W (bs++bs') X' (args++[v']) (vs++[.slice ad n cap])/\((v'=.slice none 0 0/\n=0/\bs'=[])\/(v'=.slice (some ⟨bs.length,0,some 0⟩) n 0/\bs'=[.cells 0 true cs])):=by
 cases ad with
 | none=>
  obtain⟨rfl,rfl⟩:=h0 rfl;refine⟨X,[],.slice none 0 0,?_,.inl ⟨rfl,rfl,rfl⟩⟩;have:=A.sc (v:=.slice none 0 0) rfl;simpa using this
 | some a=>
  obtain⟨hsp,hbk⟩:=hs a rfl;obtain⟨ab,ao,asp⟩:=a;simp only at hsp hbk;subst hsp;have S:=A.sim;let X':Emb:=⟨fun id=>if id=bs.length then some ⟨ab,ao,false,0,cs.length,cs.length⟩ else X id,X.y⟩;have ev:Evo X X':=Evo.mk' rfl fun id bx hx=>by have hlt:=S.dom id bx hx;simp only at hlt;exact⟨bx,by simp only[X'];rw[if_neg om];exact hx,.inl rfl⟩
  have hnew:X' bs.length=some ⟨ab,ao,false,0,cs.length,cs.length⟩:=by simp[X']
  have hold:∀ id bx,X' id=some bx->(id=bs.length/\bx=⟨ab,ao,false,0,cs.length,cs.length⟩)\/(id≠bs.length/\X id=some bx):=fun id bx h=>by
   simp only[X'] at h;split at h
   ·rename_i e;exact .inl ⟨e,(by cases h;rfl)⟩
   ·rename_i e;exact .inr ⟨e,h⟩
  refine⟨X',[.cells 0 true cs],.slice (some ⟨bs.length,0,some 0⟩) n 0,⟨⟨S.bel,fun id bx h=>?_,fun id bx h=>?_,fun id bx g pl cs2 h hh hcs=>?_,fun i j bi bj hi hj oi oj e=>?_,fun id bx h hl=>?_,fun id bx h h0=>by
   rcases hold id bx h with ⟨rfl,rfl⟩ | ⟨_,h⟩
   ·exact h0
   ·exact S.zero id bx h h0,fun id bx es h hh hcs=>by
   rcases hold id bx h with ⟨rfl,rfl⟩ | ⟨_,h⟩
   ·simp only[List.getElem?_concat_length,ay] at hcs;cases hcs
   ·have hlt:=S.dom id bx h;simp only at hlt hcs;rw[aA hlt] at hcs;obtain⟨a1,a2,res,ck,a3,a4⟩:=S.j4 id bx es h (by simp) hcs;exact⟨a1,a2,res,ck,a3,a4.evo ev⟩⟩,gq.snoc (A.rel.mono fun v _ u h=>h.evo ev) ?_⟩,.inr ⟨rfl,rfl⟩⟩
  ·rcases hold id bx h with ⟨rfl,_⟩ | ⟨_,h⟩
   ·simp
   ·have:=S.dom id bx h;simp only[aB,az,aT] at this ⊢;omega
  ·rcases hold id bx h with ⟨rfl,rfl⟩ | ⟨_,h⟩
   ·exact⟨hbk,hbk⟩
   ·exact S.place id bx h
  ·rcases hold id bx h with ⟨rfl,rfl⟩ | ⟨hne,h⟩
   ·simp only[List.getElem?_concat_length,ay,Blk.cells.injEq] at hcs;obtain⟨rfl,rfl,rfl⟩:=hcs;refine⟨rfl,rfl,cm _,fun _=>aF.2 hsc,fun j v hv=>?_,fun ho=>(by cases ho)⟩;obtain⟨ad',e1,e2⟩:=ha j v hv;cases e1;rw[add_lit] at e2;exact⟨v,e2,(iR (hsc v (aW hv))).2 rfl⟩
   ·have hlt:=S.dom id bx h;simp only at hlt;have aej:bs[id]?=some (.cells g pl cs2):=by simp only at hcs;rw[aA hlt] at hcs;exact hcs
    obtain⟨a1,a2,a3,a4,a5,a6⟩:=S.cell id bx g pl cs2 h (by simp) aej;exact⟨a1,a2,a3,a4,fun j v hj=>by obtain⟨u,hu,hr⟩:=a5 j v hj;exact⟨u,hu,hr.evo ev⟩,a6⟩
  ·rcases hold i bi hi with ⟨rfl,rfl⟩ | ⟨_,hi⟩
   ·cases oi
   ·rcases hold j bj hj with ⟨rfl,rfl⟩ | ⟨_,hj⟩
    ·cases oj
    ·exact S.inj i j bi bj hi hj oi oj e
  ·simp only[aB,az,aT] at hl;rcases hold id bx h with ⟨rfl,rfl⟩ | ⟨_,h⟩
   ·omega
   ·have:=S.dom id bx h;simp only at this;omega
  ·exact⟨⟨ab,ao,none⟩,cap,rfl,hc,hd,_,hnew,0,rfl,av _,fun _=>⟨fun _=>by simp,fun h=>by omega⟩⟩
variable{H:Type}{enc:TypeId×Value->H}
theorem open_rows{β:Type}{t e:TypeId}{s:Nat}{r:Reach}{b0:Nat}{v:Value}{d:DataW H}{ps:List MemPlace}{base:Nat}{spare:Nat->Bool}{held:Bool}(ht:P.underlying t=some (.slice e))(hs:P.cellsOf e=s)(f:β->List Value)(G:β->Prop)
  (hQ:∀ n cs x,DataW.trod enc P W base spare held n e cs=some x->∃ q:β,cs=f q/\(f q).length=s/\G q)
  (hval:Value.okWide P W r b0 t v) (hd:DataW.Trod enc P W base spare held t v d ps) :
  ∃ (A:Option Addr) (ls:List β) (cap:Nat),v=.slice A ls.length cap/\At W A (ls.map f).flatten/\(∀ q∈ls,(f q).length=s/\G q)/\ls.length<=cap/\cap<=maxLen/\(A=none->ls.length=0/\cap=0)/\(∀ a,A=some a->a.spot=none/\a.block < W.heap.size):=by
 obtain⟨a0,len,cap,rfl⟩:=okWide_slice ht hval;obtain⟨fuel,hf⟩:=hd;rcases open_slice ht hf with ⟨h1,_⟩ | ⟨a,len',cap',m,n,D,Pl,h1,_,hl,hm,hmm,_,hi⟩
 ·simp only[Value.cells,dU,and_true] at h1;exact⟨none,[],0,h1,fun i p hp=>by simp at hp,by simp,by simp,by simp[maxLen],by simp,fun a ha=>by cases ha⟩
 ·simp only[Value.cells,dU,and_true] at h1;have hle:len'<=m:=by rw[hmm];split<;>omega
  have each:∀ i,i < len'->∃ q:β,((f q).length=s/\G q)/\∀ j u,(f q)[j]?=some u->W.cell? ((a.add (i*s)).add j)=some u:=by
   intro i hil;obtain⟨cs',hc,ht'⟩:=hi i om;obtain⟨q,rfl,hq1,hq2⟩:=hQ _ _ _ ht';rw[hs] at hc;obtain⟨_,hlen,hat⟩:=World.cells?_some hc;exact⟨q,⟨hq1,hq2⟩,fun j u hj=>by have hjl:=(af.1 hj).1;have:=hat j om;rw[this];exact hj⟩
  have build:∀ k,k<=len'->∃ ls:List β,ls.length=k/\(∀ q∈ls,(f q).length=s/\G q)/\∀ i q,ls[i]?=some q->∀ j u,(f q)[j]?=some u->W.cell? ((a.add (i*s)).add j)=some u:=by
   intro k;induction k with
   | zero=>exact fun _=>⟨[],rfl,fun q hq=>by simp at hq,fun i p hp=>by simp at hp⟩
   | succ k ih=>
    intro hk;obtain⟨pc,hpl,hg,hpc⟩:=ih om;obtain⟨p,hp0,hp1⟩:=each k om;refine⟨pc++[p],by simp[hpl],fun q hq=>?_,fun i p' hp=>?_⟩
    ·rcases aP.1 hq with hq | hq
     ·exact hg q hq
     ·simp at hq;subst hq;exact hp0
    ·rcases bu i pc.length with hlt | hge
     ·rw[aA hlt] at hp;exact hpc i p' hp
     ·rw[aM hge] at hp;have hi0:i - pc.length=0:=by
       rcases dw (i - pc.length) with h0 | h0
       ·exact h0
       ·rw[aQ (by simp only[az,aT];omega)] at hp;cases hp
      rw[hi0] at hp;simp at hp;subst hp;obtain rfl:i=k:=om
      exact hp1
  obtain⟨ls,hpl,hg,hpc⟩:=build len' (av _);have aek:a.spot=none/\a.block < W.heap.size:=by rw[h1] at hval;simp only[Value.okWide,ht,Cell.okWide,Cell.ok] at hval;obtain⟨_,_,h5⟩:=hval;obtain⟨_,h6,row,cells,h7,_⟩:=h5;exact⟨h6,LN h7⟩
  refine⟨some a,ls,cap',by rw[hpl];exact h1,fun j u hj=>⟨a,rfl,?_⟩,hg,om,hm,fun e=>(by cases e),fun b hb=>?_⟩
  ·have oP:∀ l∈ls.map f,l.length=s:=fun l hl=>by obtain⟨q,hq,rfl⟩:=bw.1 hl;exact(hg q hq).1
   have hjl:=(af.1 hj).1;rw[flat_len oP] at hjl;rcases dw s with hs0 | hs0
   ·subst hs0;simp at hjl
   ·have e:j=j / s*s+j%s:=by rw[bE];exact(Nat.div_add_mod j s).symm
    have hj2:=hj;rw[e,flat_get oP _ _ (Nat.mod_lt _ hs0),bW] at hj2;cases hq:ls[j / s]? with
    | none=>rw[hq] at hj2;cases hj2
    | some q=>
     rw[hq] at hj2;have:=hpc (j / s) q hq (j%s) u hj2;rw[show a.add j=(a.add (j / s*s)).add (j%s) by obtain⟨ab,ao,asp⟩:=a;simp only at aek;rw[aek.1,add_lit,add_lit,add_lit,Addr.mk.injEq];refine⟨rfl,?_,rfl⟩;omega]
     exact this
  ·cases hb;exact aek
theorem flat_ones(k:IntKind):∀ zs:List Int,(zs.map fun z=>[Value.int k z]).flatten=zs.map (Value.int k)
 | []=>rfl
 | z::zs=>by rw[aK,dc,flat_ones k zs];rfl
theorem open_introws{t e:TypeId}{r:Reach}{b0:Nat}{v:Value}{d:DataW H}{ps:List MemPlace}{base:Nat}{spare:Nat->Bool}{held:Bool}(ht:P.underlying t=some (.slice e))(he:P.underlying e=some (.int .i64))(hc:P.cellsOf e=1)
  (hval:Value.okWide P W r b0 t v) (hd:DataW.Trod enc P W base spare held t v d ps) :
  ∃ (A:Option Addr) (ls:List Int) (cap:Nat),v=.slice A ls.length cap/\At W A (ls.map (Value.int .i64))/\ls.length<=cap/\cap<=maxLen/\(A=none->ls.length=0/\cap=0)/\(∀ a,A=some a->a.spot=none/\a.block < W.heap.size):=by
 obtain⟨A,ls,cap,h1,h2,_,h4⟩:=open_rows ht hc (fun z=>[Value.int .i64 z]) (fun _=>True) (fun m cs x hx=>by obtain⟨z,e1,_,_⟩:=DataW.trod_int he hx;exact⟨z,e1,rfl,trivial⟩) hval hd
 rw[flat_ones] at h2;exact⟨A,ls,cap,h1,h2,h4⟩
theorem ints_sc(k:IntKind)(zs:List Int):∀ v∈zs.map (Value.int k),AM.sc v=true:=fun v hv=>by obtain⟨_,_,rfl⟩:=bw.1 hv;rfl
end
end AM
end Go.Proofs.YtgdpefeomemllaaGreat
