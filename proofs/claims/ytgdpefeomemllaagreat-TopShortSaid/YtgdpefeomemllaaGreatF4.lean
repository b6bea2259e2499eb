/- Conditions: none. -/
import Derived.Test.YtgdpefeomemllaaGreatF3
set_option linter.all false
set_option maxRecDepth 100000
namespace Go.Proofs.YtgdpefeomemllaaGreat
namespace TsF
open Go Go.RowKit AM fO LtA SyP TmM TsA TsB TsC TsD TsE Bt
theorem qz:∀ (k n:Nat),n<=k->(jV n).length<=n
 | k,0,_=>by rw[tZ];simp
 | 0,n+1,h=>by omega
 | k+1,n+1,h=>by rw[uc];have:=qz k (n / 2) om;simp only[az];omega
theorem wu:∀ (x l:List Nat) (r:Nat),Bl l->(∀ c∈x,c < 256)->Bl (lG l r x).2.1/\(lG l r x).2.2<=r+x.length/\(lG l r x).1.length+(lG l r x).2.2<=r+x.length
 | [],l,r,hl,_=>⟨hl,av _,by simp[lG]⟩
 | c::x,l,r,hl,hx=>by
  have hc:=hx c (by simp);have hx':∀ c∈x,c < 256:=fun b hb=>hx b (by simp[hb]);unfold lG;split
  ·obtain⟨h1,h2,h3⟩:=wu x _ (r+1) (hl.take (hl.idx hc)) hx';exact⟨h1,by simp only[az];omega,by simp only[az];omega⟩
  ·obtain⟨h1,h2,h3⟩:=wu x _ 0 (hl.take (hl.idx hc)) hx';have:=qz r r (av _);exact⟨h1,by simp only[az];omega,by simp only[az,aB];omega⟩
section
variable{hp:List Blk}{L:Nat}{H d:List Nat}
theorem Cw{x:List Nat}{a:Option Addr}{e n:Nat}(hR:Rd ⟨hp,L,H,[]⟩ (.slice a n e) x)(hxs:x.length<=100000){c1:Blk}(hF:Fit hp.length L H):∀ (k i:Nat) (l:List Nat) (r:Nat) (o:List Nat),i+k=x.length->Bl l->o.length+r+k<=500000->∃ fr,
  fW env rC [27,26,4,25,7,2] (hp.length+2) (G7 hp (.slice a n e) n i (slI (hp.length+2) o)) ⟨hp++.cells 0 true (ji l r)::c1::lB o,L,H,[]⟩
  = some (.exit 0,fr,⟨hp++.cells 0 true (ji (lG l r (x.drop i)).2.1 (lG l r (x.drop i)).2.2)::c1::lB (o++(lG l r (x.drop i)).1),L,H,[]⟩)
   /\ fr.get 7=some (slI (hp.length+2) (o++(lG l r (x.drop i)).1))/\fr.get 2=some (.pointer (some ⟨hp.length,0,some 0⟩))/\fr.get 4=some (.pointer (some ⟨hp.length+1,0,some 0⟩))
 | 0,i,l,r,o,e1,hl,hb=>by
  have hn:=hR.n_eq;rw[c9 om];simp only[lG,bB];subst hn;have hi:¬ (i:Int) < x.length:=om
  unfold G7;rw[fC rC.eq_1];simp(disch:=first|exact dis|fail) only[sy,simprocAttr,-List.reduceReplicate,hF.all,hi];exact⟨_,rfl,rfl,rfl,rfl⟩
 | k+1,i,l,r,o,e1,hl,hb=>by
  have hi:i < x.length:=om
  have hc:x[i] < 256:=hR.by_ _ (bN hi);have hdl:=qz r r (av _);rw[bC hi];unfold lG;by_cases h0:l.idxOf x[i]=0
  ·obtain⟨fr,ih⟩:=Cw hR hxs (c1:=c1) hF k (i+1) (ij l (l.idxOf x[i])) (r+1) o om (hl.take (hl.idx hc)) om;rw[if_pos h0];refine⟨fr,?_⟩;rw[WZ hR om hi hl om om hF h0];exact ih
  ·obtain⟨fr,ih⟩:=Cw hR hxs (c1:=c1) hF k (i+1) (ij l (l.idxOf x[i])) 0 (o++(jV r++[l.idxOf x[i]+1])) om (hl.take (hl.idx hc)) (by simp only[aB,az,aT];omega);rw[if_neg h0];refine⟨fr,?_⟩;rw[SV hR om hi hl om om hF h0];simp only[aR,aS,aV] at ih ⊢;exact ih
theorem xT{x:List Nat}{v:Value}(hR:Rd ⟨hp,L,H,[]⟩ v x)(hxs:x.length<=100000){l:List Nat}{r:Nat}(hl:Bl l)(hr:r<=100000)(hF:Fit hp.length L H) :
  fS env (.func 71) [.agg (ji l r).toArray,v] ⟨hp,L,H,d⟩=some (.tuple #[.agg (ji (lG l r x).2.1 (lG l r x).2.2).toArray,slI hp.length (lG l r x).1,.int .i64 0],⟨hp++lB (lG l r x).1,L,H,d⟩):=by
 rw[fF 71 _ _ ahS];obtain⟨a,e,rfl⟩:=hR.len;have h8:By l:=fun b hb=>hl.mem.1 hb;have hva:=fun hp L H d hF=>uD (hp:=hp) (L:=L) (H:=H) (d:=d) hl.len h8 (abV hl) (show r<=2147483647 by omega) hF;have hel:=jG (r:=r) hl.len;have hrun:=sV (r:=r) hl.len;have h1:¬ (x.length:Int) > 2147483647 - (r:Int):=om
 obtain⟨z,hz,hzl⟩:=xS;obtain⟨fr,e1,e2,e3,e4⟩:=Cw hR hxs (c1:=.cells 0 true z) hF x.length 0 l r [] om hl (by simp;omega);rw[cz] at e1 e2;obtain⟨hb1,hb2,hb3⟩:=wu x l r hl hR.by_;generalize lG l r x=Q at *;obtain⟨q,l',r'⟩:=Q;have wq:=jG (r:=r') hb1.len;have hp1:putAt z 0 (ji l' r')=ji l' r':=gH (by rw[hzl,wq]);have hp2:putAt (ji l' r') 0 (ji l' r')=ji l' r':=gH rfl;simp only[aV,lC,jS,G7,aN] at e1 e2 wq hp1 hp2 ⊢;by_cases hq:q=[]
 ·subst hq;simp(disch:=first|exact dis|fail) only[sy,simprocAttr,-List.reduceReplicate,hF.all,ZS,lC,jS,hva,hel,fR hel,hrun,h1,hz,hzl,j7,jv,jT,e1,e2,e3,e4,wq,fR wq,hp1,hp2]
 ·have hq0:¬ q.length=0:=by cases q<;>simp at hq ⊢
  rw[mP rfl hq0,j8 rfl hq0];rw[j8 rfl hq0] at e1;rw[mP rfl hq0] at e2;have hG:=kO (h:=hp) (nw:=[.cells 0 true (ji l' r'),.cells 0 true (ji l' r'),.cells q.length true (is q)]) (L:=L) (H:=H) (v:=.tuple #[.agg (ji l' r').toArray,.slice (some ⟨hp.length+2,0,some q.length⟩) q.length 1,.int .i64 0]) 2 rfl (by simp[refs,fU,fJ,jT]) (by simp[refs,fU,fJ,jT]);have o2:AM.one hp.length (hp.length+2) (hp.length+2)=hp.length:=iZ;have Zj:(ji l' r').map (iX (AM.one hp.length (hp.length+2)))=ji l' r':=by unfold ji;rw[dh];congr 1;unfold u8s;rw[fo];exact bQ fun x _=>rfl
  simp(disch:=first|exact dis|fail) only[sy,simprocAttr,-List.reduceReplicate,hF.all,ZS,hva,hel,fR hel,hrun,h1,hz,hzl,j7,jv,jT,e1,e2,e3,e4,wq,fR wq,hp1,hp2,hG,ren,ke,iX,o2,aK,br,Zj]
theorem W0{l:List Nat}{r:Nat}(hl:Bl l)(hr:r<=100000)(hF:Fit hp.length L H) :
  fS env (.func 73) [.agg (ji l r).toArray] ⟨hp,L,H,d⟩=some (.tuple #[slI hp.length (jV r++[257]),.int .i64 0],⟨hp++lB (jV r++[257]),L,H,d⟩):=by
 rw[fF 73 _ _ ahU];have h8:By l:=fun b hb=>hl.mem.1 hb;have hva:=fun hp L H d hF=>uD (hp:=hp) (L:=L) (H:=H) (d:=d) hl.len h8 (abV hl) (show r<=2147483647 by omega) hF;have hel:=jG (r:=r) hl.len;have hrun:=sV (r:=r) hl.len;have hdl:=qz r r (av _);have hdg:=fun hp d hF=>za (hp:=hp) (L:=L) (H:=H) (d:=d) (n:=r) om hF;have hs1:small 1=true:=by decide
 have hF2:=hF.1;generalize jV r=G at *;by_cases hG:G=[]
 ·subst hG;have hN:([]++[257]:List Nat).length=1:=rfl;rw[mP hN (by decide),j8 hN (by decide)];have ha:=fun nw=>Cv (hp:=hp++nw) (L:=L) (H:=H) (d:=[]) (x:=257);simp only[aB,cu] at ha;have hG:=fun c0 c1=>kO (h:=hp) (nw:=[c0,c1,.cells 1 true (is [257])]) (L:=L) (H:=H) (v:=.tuple #[.slice (some ⟨hp.length+2,0,some 1⟩) 1 1,.int .i64 0]) 2 rfl (by simp[refs,fU,fJ]) (by simp[refs,fU,fJ]);have o2:AM.one hp.length (hp.length+2) (hp.length+2)=hp.length:=iZ;simp(disch:=first|exact dis|fail) only[sy,simprocAttr,-List.reduceReplicate,hF.all,ZT,lC,jS,hva,hel,fR hel,hrun,hdg,j7,jv,jT,hs1,sQ,ha,hG,ren,ke,iX,o2,aK,br]
 ·have hG0:¬ G.length=0:=by cases G<;>simp at hG ⊢
  have hN:(G++[257]:List Nat).length=G.length+1:=by simp
  rw[mP hN om,j8 hN om];unfold slI lB at hdg;simp only[if_neg hG0] at hdg;have ha:=fun c0 nw=>wo (hp:=hp++c0::.cells G.length true (is G)::nw) (L:=L) (H:=H) (d:=[]) (x:=257) (b:=hp.length+1) (l:=G) rfl (by rw[iE];rfl) om (hF.nv 1) om;simp only[cu] at ha;have hG:=fun c0 c1=>kO (h:=hp) (nw:=[c0,.cells (G.length+1) true (is (G++[257])),c1]) (L:=L) (H:=H) (v:=.tuple #[.slice (some ⟨hp.length+1,0,some (G.length+1)⟩) (G.length+1) 1,.int .i64 0]) 1 rfl (by simp[refs,fU,fJ]) (by simp[refs,fU,fJ]);have o2:AM.one hp.length (hp.length+1) (hp.length+1)=hp.length:=iZ;simp(disch:=first|exact dis|fail) only[sy,simprocAttr,-List.reduceReplicate,hF.all,ZT,hva,hel,fR hel,hrun,hdg,j7,jv,jT,hs1,ha,hG,ren,ke,iX,o2,aK,br]
theorem W4{x:List Nat}{v:Value}(hR:Rd ⟨hp,L,H,[]⟩ v x)(hxs:x.length<=100000)(hF:Fit hp.length L H) :
  fS env (.func 26) [v] ⟨hp,L,H,d⟩=some (slI hp.length (enc x),⟨hp++lB (enc x),L,H,d⟩):=by
 rw[fF 26 _ _ ahI];have hn:=fun d=>zb (hp:=hp) (L:=L) (H:=H) (d:=d) hF;have hst:=fun d=>xT (d:=d) hR hxs Bl.zero (show 0<=100000 by omega) hF;obtain⟨hb1,hb2,hb3⟩:=wu x jf 0 Bl.zero hR.by_;have he:enc x=(lG jf 0 x).1++(jV (lG jf 0 x).2.2++[257]):=rfl;rw[he];generalize lG jf 0 x=Q at *;obtain⟨q,l',r'⟩:=Q;simp only at hb1 hb2 hb3 hst ⊢;have hen:=fun hp d hF=>W0 (hp:=hp) (L:=L) (H:=H) (d:=d) hb1 (show r'<=100000 by omega) hF;have hdl:=qz r' r' (av _);have hel:=jG (r:=r') hb1.len;obtain⟨z,hz,hzl⟩:=xS;have hp1:putAt z 0 (ji l' r')=ji l' r':=gH (by rw[hzl,hel]);have hE:(jV r'++[257]).length=(jV r').length+1:=by simp
 have hEl:=mE (jV r'++[257]);generalize jV r'++[257]=Z at *;have hE0:¬ Z.length=0:=om
 have hF2:=hF.1;simp only[mP (W:=Z) rfl hE0,j8 (W:=Z) rfl hE0] at hen;by_cases hq:q=[]
 ·subst hq;have ha:=fun nw=>rK (hp:=hp++nw) (L:=L) (H:=H) (d:=[]) (m:=Z) hE0 om;simp only[aB] at ha;rw[aV,mP rfl hE0,j8 rfl hE0];have hG:=fun c0 c1=>NI (h:=hp) (nw:=[c0,c1,.cells Z.length true (is Z)]) 2 rfl (zE.plain _ _) (some Z.length) Z.length 1 L H;simp(disch:=first|exact dis|fail) only[sy,simprocAttr,-List.reduceReplicate,hF.all,ZP,lC,jS,hn,hst,hen,hz,hzl,hel,fR hel,j7,jv,jT,hp1,hEl,fR hEl,ha,hG]
 ·have hq0:¬ q.length=0:=by cases q<;>simp at hq ⊢
  have ha:=fun nw=>ue (hp:=hp++.cells q.length true (is q)::nw) (L:=L) (H:=H) (d:=[]) (b:=hp.length) (l:=q) (m:=Z) (gA _) om hF.lS hE0 om;have hN:(q++Z).length=q.length+Z.length:=aB;rw[mP hN om,j8 hN om];simp only[mP (W:=q) rfl hq0,j8 (W:=q) rfl hq0] at hst;have hG:=fun c0 c1=>NI (h:=hp) (nw:=[.cells (q.length+Z.length) true (is (q++Z)),c0,c1]) 0 rfl (zE.plain _ _) (some (q.length+Z.length)) (q.length+Z.length) 1 L H;simp only[bY] at hG;simp(disch:=first|exact dis|fail) only[sy,simprocAttr,-List.reduceReplicate,hF.all,ZP,hn,hst,hen,hz,hzl,hel,fR hel,j7,jv,jT,hp1,hEl,fR hEl,ha,hG]
end
end TsF
namespace TsG
open Go Go.RowKit AM fO LtA SyP TmM TsA TsB TsC TsD TsE TsF Bt
section
variable{hp:List Blk}{L:Nat}{H d:List Nat}{l:List Nat}{m r k:Nat}{f:Bool}
structure DOk(l:List Nat)(m r k:Nat):Prop where
 bl:Bl l
 hm:m<=65536
 hr:r<=m
 hk:k<=16
 lo:2 ^ k - 1<=r
 hi:r<=2*(2 ^ k - 1)
end
end TsG
namespace TsH
open Go Go.RowKit AM fO LtA SyP TmM TsA TsB TsC TsD TsE TsF TsG Bt
end TsH
namespace TsI
open Go Go.RowKit AM fO LtA SyP TmM TsA TsB TsC TsD TsE TsF TsG TsH Bt
def sl8(k:Nat)(l:List Nat):Value:=if l.length=0 then .slice none 0 0 else .slice (some ⟨k,0,some l.length⟩) l.length 1
def W5(l:List Nat):List Blk:=if l.length=0 then [] else [.cells l.length true (u8s l)]
end TsI
namespace TsJ
open Go Go.RowKit AM fO LtA SyP TmM TsA TsB TsC TsD TsE TsF TsG TsH TsI Bt
def Si(hp:List Blk)(H:List Nat)(v:Value)(l:List Nat):Prop:=∃ b of g e pl cs,v=.slice (some ⟨b,of,some g⟩) l.length e/\H.contains b=false/\hp[b]?=some (.cells g pl cs)/\∀ i (h:i < l.length),cs[of+i]?=some (.int .i64 (l[i]:Nat))
section
variable{hp:List Blk}{L:Nat}{H d:List Nat}{l:List Nat}{m r k:Nat}{f:Bool}
theorem KA{k N:Nat}{W:List Nat}(h:W.length=N)(h0:N≠0):sl8 k W=.slice (some ⟨k,0,some N⟩) N 1:=by subst h;unfold sl8;rw[if_neg h0]
theorem Cy{N:Nat}{W:List Nat}(h:W.length=N)(h0:N≠0):W5 W=[.cells N true (u8s W)]:=by subst h;unfold W5;rw[if_neg h0]
theorem G8(k:Nat):sl8 k []=.slice none 0 0:=rfl
theorem Cz:W5 []=[]:=rfl
theorem W6{n:Nat}{t:List Nat}(hn:t.length=n)(h0:n≠0)(hs:n<=1048576):St.append ⟨hp,L,H,d⟩ true 1 (.slice none 0 0) n (u8s t)=some (.slice (some ⟨hp.length,0,some n⟩) n 1,⟨hp++[.cells n true (u8s t)],L,H,d⟩):=by subst hn;exact J0 (by intro h;rw[h] at h0;exact h0 rfl) hs
theorem aaa{b n a:Nat}{t u:List Nat}(hn:t.length=n)(ha:u.length=a)(hb:hp[b]?=some (.cells a true (u8s u)))(hL:L<=b)(hh:H.contains b=false)(hs:a+n<=1048576) :
  St.append ⟨hp,L,H,d⟩ true 1 (.slice (some ⟨b,0,some a⟩) a 1) n (u8s t)=some (.slice (some ⟨b,0,some (a+n)⟩) (a+n) 1,⟨hp.set b (.cells (a+n) true (u8s (u++t))),L,H,d⟩):=by subst hn;subst ha;have:=J2 (d:=d) (l:=t) hb hL hh hs;simp only[aB] at this;exact this
end
end TsJ
namespace TsK
open Go Go.RowKit AM fO LtA SyP TmM TsA TsB TsC TsD TsE TsF TsG TsH TsI TsJ Bt
end TsK
namespace TsM
open Go Go.RowKit AM fO LtA SyP TmM TsA TsB TsC TsD TsE TsF TsG TsH TsI TsJ TsK Bt
end TsM
namespace TtA
open Go Go.RowKit AM fO LtA SyP TmM TsA TsB TsI Bt
def wv(x:List Nat)(i:Nat):List Nat:=(List.range x.length).map fun p=>if p < i\/x.length - i<=p then x.getD (x.length - 1 - p) 0 else x.getD p 0
theorem qA(x:List Nat)(i:Nat):(wv x i).length=x.length:=by simp[wv]
theorem qB{x:List Nat}{i p:Nat}(hp:p < x.length):(wv x i)[p]?=some (if p < i\/x.length - i<=p then x.getD (x.length - 1 - p) 0 else x.getD p 0):=by simp[wv,hp]
theorem PK{x:List Nat}{p:Nat}(hp:p < x.length):x[p]?=some (x.getD p 0):=by rw[aE,aq hp];rfl
theorem SW(x:List Nat):wv x 0=x:=by
 apply bK;intro p;by_cases hp:p < x.length
 ·rw[qB hp,if_neg om,PK hp]
 ·rw[aQ (by rw[qA];omega),aQ om]
theorem W7{x:List Nat}{i:Nat}(h:x.length<=2*i+1):wv x i=x.reverse:=by
 apply bK;intro p;by_cases hp:p < x.length
 ·rw[qB hp,List.getElem?_reverse hp,PK om];congr 1;by_cases h1:p < i\/x.length - i<=p
  ·rw[if_pos h1]
  ·rw[if_neg h1];congr 1;omega
 ·rw[aQ (by rw[qA];omega),aQ (by rw[eP];omega)]
theorem SX{x:List Nat}{i:Nat}(h:i < x.length - 1 - i):((wv x i).set i (x.getD (x.length - 1 - i) 0)).set (x.length - 1 - i) (x.getD i 0)=wv x (i+1):=by
 apply bK;intro p;by_cases hp:p < x.length
 ·rw[cr,cr,qB hp,qB hp];simp only[aG,qA];by_cases h1:x.length - 1 - i=p
  ·rw[if_pos h1,if_pos om,if_pos om];congr 2;omega
  ·rw[if_neg h1];by_cases h2:i=p
   ·subst h2;rw[if_pos rfl,if_pos om,if_pos om]
   ·rw[if_neg h2];by_cases h3:p < i\/x.length - i<=p
    ·rw[if_pos h3,if_pos om]
    ·rw[if_neg h3,if_neg om]
 ·rw[aQ (by simp[qA];omega),aQ (by rw[qA];omega)]
section
variable{hp:List Blk}{L:Nat}{H d:List Nat}
theorem vk{x:List Nat}{v:Value}(hR:Rd ⟨hp,L,H,[]⟩ v x)(h0:x≠[])(hxs:x.length<=100000)(hF:Fit hp.length L H) :
  fS env (.func 118) [v] ⟨hp,L,H,d⟩=some (.slice (some ⟨hp.length,0,some x.length⟩) x.length 1,⟨hp++[.cells x.length true (u8s x)],L,H,d⟩):=by
 rw[fF 118 _ _ afd];have hN:=hR.app (nw:=[.cells 0 true []]) (L':=L) (d':=[]);have hnews:=hN.news;have ha:=J1 (hp:=hp) (L:=L) (H:=H) (d:=[]) (l:=x) hF om;have hs0:small 0=true:=by decide
 obtain⟨a,e,rfl⟩:=hR.len;have ha0:∃ q,a=some q:=by
  rcases hR.form with ⟨h1,h2⟩ | ⟨b,o,g,e',pl,cs,h1,_⟩
  ·exact absurd h2 h0
  ·cases h1;exact⟨_,rfl⟩
 obtain⟨q,rfl⟩:=ha0;simp(disch:=first|exact dis|fail) only[sy,simprocAttr,-List.reduceReplicate,hF.all,V6,hs0,hnews,ha,G5 (zE.plain _ _)]
theorem KB{x:List Nat}{b g n e:Nat}(hn:n=x.length)(hn1:n<=100000)(hx:By x)(hb:b < hp.length)(hL:L<=b)(hh:H.contains b=false)(hF:Fit hp.length L H):∀ (k i:Nat),i+k=n->∃ fr,
  fW env zZ [2,3,0] hp.length [(2,.int .i64 i),(3,.int .i64 ((n:Int) - 1 - i)),(0,.slice (some ⟨b,0,some g⟩) n e)] ⟨hp.set b (.cells g true (u8s (wv x i))),L,H,[]⟩
   = some (.exit 0,fr,⟨hp.set b (.cells g true (u8s x.reverse)),L,H,[]⟩)
 | k,i,e1=>by
  by_cases h:(i:Int) < (n:Int) - 1 - i
  ·cases k with
   | zero=>omega
   | succ k=>
    obtain⟨fr,ih⟩:=KB (g:=g) (e:=e) hn hn1 hx hb hL hh hF k (i+1) om;have h2:0<=(i:Int)/\(i:Int) < (n:Int):=om
    have e2:(n:Int) - 1 - (i:Int)=((n - 1 - i:Nat):Int):=om
    have h3:0<=((n - 1 - i:Nat):Int)/\((n - 1 - i:Nat):Int) < (n:Int):=om
    rw[fC zZ.eq_1];have e3:(n:Int) - 1 - ((i+1:Nat):Int)=((n - 1 - i:Nat):Int) - 1:=om
    rw[e2] at h ⊢;rw[e3] at ih;have hl:(u8s (wv x i)).length=n:=by rw[fH,qA,hn]
    have r1:(u8s (wv x i))[i]?=some (.int .u8 (x.getD i 0:Nat)):=by rw[j0,qB om,if_neg om];rfl
    have r2:(u8s (wv x i))[n - 1 - i]?=some (.int .u8 (x.getD (n - 1 - i) 0:Nat)):=by rw[j0,qB om,if_neg om];rfl
    have hst:=SX (x:=x) (i:=i) om;rw[<- hn] at hst;have ahY:((u8s (wv x i)).set i (.int .u8 (x.getD (n - 1 - i) 0:Nat))).set (n - 1 - i) (.int .u8 (x.getD i 0:Nat))=u8s (wv x (i+1)):=by rw[PD,PD,hst]
    have hg1:∀ B:Blk,(hp.set b B)[b]?=some B:=fun B=>aD hb;have hss:∀ A B:Blk,(hp.set b A).set b B=hp.set b B:=fun A B=>bG ..;have hs2:i+1<=n:=om
    have hs3:n - 1 - i+1<=n:=om
    simp only[aC,aI] at ih;have hnl:¬ b < L:=om
    simp(disch:=first|exact dis|fail) only[sy,simprocAttr,-List.reduceReplicate,hF.all,h,h2,h3,hg1,hss,hh,hl,r1,r2,hs2,hs3,ahY,hnl,ih];exact⟨fr,rfl⟩
  ·rw[W7 om];rw[fC zZ.eq_1];simp(disch:=first|exact dis|fail) only[sy,simprocAttr,-List.reduceReplicate,hF.all,h];exact⟨_,rfl⟩
theorem W8{x:List Nat}{b g n e:Nat}(hn:n=x.length)(hn1:n<=100000)(hx:By x)(hb:hp[b]?=some (.cells g true (u8s x)))(hL:L<=b)(hh:H.contains b=false)(hF:Fit hp.length L H) :
  fS env (.func 135) [.slice (some ⟨b,0,some g⟩) n e] ⟨hp,L,H,d⟩=some (.tuple #[],⟨hp.set b (.cells g true (u8s x.reverse)),L,H,d⟩):=by rw[fF 135 _ _ afl];have hbl:=(af.1 hb).1;obtain⟨fr,h⟩:=KB (hp:=hp) (L:=L) (H:=H) (g:=g) (e:=e) hn hn1 hx hbl hL hh hF n 0 om;rw[SW,jt hb] at h;simp only[aN,Int.sub_zero] at h;simp(disch:=first|exact dis|fail) only[sy,simprocAttr,-List.reduceReplicate,hF.all,Wc,h]
theorem sX{x:List Nat}{v:Value}(hR:Rd ⟨hp,L,H,[]⟩ v x)(h0:x≠[])(hxs:x.length<=100000)(hF:Fit hp.length L H) :
  fS env (.func 68) [v] ⟨hp,L,H,d⟩=some (.slice (some ⟨hp.length,0,some x.length⟩) x.length 1,⟨hp++[.cells x.length true (u8s x.reverse)],L,H,d⟩):=by rw[fF 68 _ _ ahR];have h1:=fun d=>vk (d:=d) hR h0 hxs hF;have h2:=fun d=>W8 (hp:=hp++[.cells x.length true (u8s x)]) (L:=L) (H:=H) (d:=d) (e:=1) (n:=x.length) rfl hxs hR.by_ (gA _) hF.1 hF.lS (hF.mono (by simp));simp only[gZ] at h2;simp(disch:=first|exact dis|fail) only[sy,simprocAttr,-List.reduceReplicate,hF.all,ac6,h1,h2,G5 (zE.plain _ _)]
end
end TtA
namespace TtB
open Go Go.RowKit AM fO LtA SyP TmM TsA TsB TsE TsI TsJ TtA Bt
def uF(x:List Nat):List Nat->Nat->List Nat->Nat->List Nat×Nat
 | [],_,acc,idx=>(acc,idx)
 | i::o,row,acc,idx=>if i=0 then uF x o (row+1) acc row else uF x o (row+1) (acc++[x.getD (i - 1) 0]) idx
section
variable{hp:List Blk}{L:Nat}{H d:List Nat}
theorem G9{k n:Nat}{cs:List Value}{c0:Blk}{nw:List Blk}{v:Value}{i1 i2 i3:Int}{m:Nat}(hk:nw[k]?=some (.cells n true cs))(hv:∀ r∈refs v,r < hp.length) :
  kS (hp.length+1) [(3,.int .i64 i1),(9,.int .i64 i2),(8,.int .i64 i3),(7,.slice (some ⟨hp.length,0,some 0⟩) m 1),(0,v),(2,.slice (some ⟨hp.length+1+k,0,some n⟩) n 1)] ⟨hp++c0::nw,L,H,[]⟩
   = some ([(3,.int .i64 i1),(9,.int .i64 i2),(8,.int .i64 i3),(7,.slice (some ⟨hp.length,0,some 0⟩) m 1),(0,v),(2,.slice (some ⟨hp.length+1,0,some n⟩) n 1)],⟨hp++[c0,.cells n true cs],L,H,[]⟩):=by
 unfold kS;have e:hp++c0::nw=(hp++[c0])++nw:=by simp
 have hl:(hp++[c0]).length=hp.length+1:=by simp
 have G:=vf (h:=hp++[c0]) (nw:=nw) (k:=k) (L:=L) (H:=H) (d:=[]) (vs:=List.map (·.2) [(3,.int .i64 i1),(9,.int .i64 i2),(8,.int .i64 i3),(7,.slice (some ⟨hp.length,0,some 0⟩) m 1),(0,v),(2,.slice (some ⟨hp.length+1+k,0,some n⟩) n 1)]) hk (by
  intro u hu r hr;rw[hl];simp only[aK,br,aJ,bJ,or_false] at hu;rcases hu with rfl | rfl | rfl | rfl | rfl | rfl
  ·simp[refs,fU,fJ] at hr
  ·simp[refs,fU,fJ] at hr
  ·simp[refs,fU,fJ] at hr
  ·simp[refs,fU,fJ] at hr;omega
  ·have:=hv r hr;omega
  ·simp[refs,fU,fJ] at hr;omega) ⟨.slice (some ⟨hp.length+1+k,0,some n⟩) n 1,by simp,by rw[hl];simp[refs,fU,fJ]⟩ rfl
 rw[hl] at G;rw[e,G];have o0:AM.one (hp.length+1) (hp.length+1+k) hp.length=hp.length:=oh om;have o2:AM.one (hp.length+1) (hp.length+1+k) (hp.length+1+k)=hp.length+1:=iZ;have o3:ren (AM.one (hp.length+1) (hp.length+1+k)) v=v:=xQ fun r hr=>oh (by have:=hv r hr;omega);simp only[bq,aK,br,cU,eC,o3];simp only[ren,ke,iX,o0,o2,aR,aS,aV]
theorem SY{x:Nat} : St.append ⟨hp,L,H,d⟩ true 1 (.slice none 0 0) 1 [.int .u8 (x:Int)]=some (.slice (some ⟨hp.length,0,some 1⟩) 1 1,⟨hp++[.cells 1 true (u8s [x])],L,H,d⟩):=W6 (t:=[x]) rfl (by decide) (by decide)
theorem W9{b a x:Nat}{u:List Nat}(ha:u.length=a)(hb:hp[b]?=some (.cells a true (u8s u)))(hL:L<=b)(hh:H.contains b=false)(hs:a+1<=1048576) :
  St.append ⟨hp,L,H,d⟩ true 1 (.slice (some ⟨b,0,some a⟩) a 1) 1 [.int .u8 (x:Int)]=some (.slice (some ⟨b,0,some (a+1)⟩) (a+1) 1,⟨hp.set b (.cells (a+1) true (u8s (u++[x]))),L,H,d⟩):=aaa (t:=[x]) rfl ha hb hL hh hs
def Xa(hp:List Blk)(v:Value)(m:Nat)(idx row:Nat)(sl:Value):Fr:=[(3,.int .i64 idx),(9,.int .i64 row),(8,.int .i64 m),(7,.slice (some ⟨hp.length,0,some 0⟩) m 1),(0,v),(2,sl)]
theorem He{x o:List Nat}{a:Option Addr}{e n:Nat}(hR:Rd ⟨hp,L,H,[]⟩ (.slice a n e) x)(hxs:x.length<=100000)(hos:o.length<=100001)(ho:∀ i∈o,i<=x.length)(hF:Fit hp.length L H):∀ (k row:Nat) (acc:List Nat) (idx:Nat),row+k=o.length->acc.length<=row->∃ fr,
  fW env Cl [3,9,8,7,0,2] (hp.length+1) (Xa hp (.slice a n e) o.length idx row (sl8 (hp.length+1) acc)) ⟨hp++.cells 0 true (is o)::W5 acc,L,H,[]⟩
   = some (.exit 0,fr,⟨hp++.cells 0 true (is o)::W5 (uF x (o.drop row) row acc idx).1,L,H,[]⟩)/\fr.get 2=some (sl8 (hp.length+1) (uF x (o.drop row) row acc idx).1)/\fr.get 3=some (.int .i64 (uF x (o.drop row) row acc idx).2)
 | 0,row,acc,idx,e1,hacc=>by
  rw[c9 om];have h1:¬ (row:Int) < o.length:=om
  unfold Xa uF;rw[fC Cl.eq_1];simp(disch:=first|exact dis|fail) only[sy,simprocAttr,-List.reduceReplicate,hF.all,h1];exact⟨_,rfl,rfl,rfl⟩
 | k+1,row,acc,idx,e1,hacc=>by
  have hi:row < o.length:=om
  rw[bC hi];have hoi:=ho _ (bN hi);have hv:∀ r∈refs (.slice a n e),r < hp.length:=hR.refs;have h1:(row:Int) < o.length:=om
  have h2:0<=(row:Int)/\(row:Int) < o.length:=om
  have hc:(is o)[row]?=some (.int .i64 (o[row]:Nat)):=by simp[is,hi]
  have hF2:=hF.1;unfold uF;by_cases h0:o[row]=0
  ·obtain⟨fr,ih⟩:=He hR hxs hos ho hF k (row+1) acc row om om;rw[if_pos h0];refine⟨fr,?_⟩;refine⟨Eq.trans ?_ ih.1,ih.2⟩;rw[h0] at hc;unfold Xa;rw[fC Cl.eq_1];simp only[aC,aI,aN] at hc ⊢;by_cases ha0:acc=[]
   ·subst ha0;simp(disch:=first|exact dis|fail) only[sy,simprocAttr,-List.reduceReplicate,hF.all,G8,Cz,h1,h2,hc]
   ·have hao:¬ acc.length=0:=by cases acc<;>simp at ha0 ⊢
    rw[KA rfl hao,Cy rfl hao];have hg:=fun c0 i1 i2=>G9 (hp:=hp) (L:=L) (H:=H) (k:=0) (n:=acc.length) (cs:=u8s acc) (c0:=c0) (nw:=[.cells acc.length true (u8s acc)]) (i1:=i1) (i2:=i2) (i3:=(o.length:Int)) (m:=o.length) rfl hv;simp only[bY] at hg;simp(disch:=first|exact dis|fail) only[sy,simprocAttr,-List.reduceReplicate,hF.all,h1,h2,hc,hg]
  ·obtain⟨fr,ih⟩:=He hR hxs hos ho hF k (row+1) (acc++[x.getD (o[row] - 1) 0]) idx om (by simp;omega);rw[if_neg h0];refine⟨fr,?_⟩;refine⟨Eq.trans ?_ ih.1,ih.2⟩;obtain⟨b,of,g,pl,cs,rfl,rfl,hh,hb,hcx⟩:=hR.at_ (show o[row] - 1 < x.length by omega);have hbl:=(af.1 hb).1;have hgd:x[o[row] - 1]'(by omega)=x.getD (o[row] - 1) 0:=by rw[aE,aq om];rfl
   rw[hgd] at hcx;clear hgd;generalize hcc:x.getD (o[row] - 1) 0=cc at *;generalize hii:o[row]=i at *;have h3:¬ (i:Int)=0:=om
   have h4:(i:Int) - 1=((i - 1:Nat):Int):=om
   have h5:0<=((i - 1:Nat):Int)/\((i - 1:Nat):Int) < x.length:=om
   have hs1:small 1=true:=by decide
   unfold Xa;rw[fC Cl.eq_1];simp only[aC,aI];by_cases ha0:acc=[]
   ·subst ha0;have hN:([]++[cc]:List Nat).length=1:=rfl;rw[KA hN (by decide),Cy hN (by decide)];have ha:=fun nw=>SY (hp:=hp++nw) (L:=L) (H:=H) (d:=[]) (x:=cc);simp only[aB] at ha;have hg:=fun c0 c1 i1 i2=>G9 (hp:=hp) (L:=L) (H:=H) (k:=1) (n:=1) (cs:=u8s [cc]) (c0:=c0) (nw:=[c1,.cells 1 true (u8s [cc])]) (i1:=i1) (i2:=i2) (i3:=(o.length:Int)) (m:=o.length) rfl hv;simp only[cA,Nat.reduceAdd] at hg;simp(disch:=first|exact dis|fail) only[sy,simprocAttr,-List.reduceReplicate,hF.all,G8,Cz,h1,h2,h3,h4,h5,hs1,hc,hb,hh,hcx,ha,hg]
   ·have hao:¬ acc.length=0:=by cases acc<;>simp at ha0 ⊢
    have hN:(acc++[cc]:List Nat).length=acc.length+1:=by simp
    rw[KA rfl hao,Cy rfl hao,KA hN om,Cy hN om];have ha:=fun c0 nw=>W9 (hp:=hp++c0::.cells acc.length true (u8s acc)::nw) (L:=L) (H:=H) (d:=[]) (b:=hp.length+1) (x:=cc) rfl (by rw[iE];rfl) om (hF.nv 1) om;have hg:=fun c0 c1 i1 i2=>G9 (hp:=hp) (L:=L) (H:=H) (k:=0) (n:=acc.length+1) (cs:=u8s (acc++[cc])) (c0:=c0) (nw:=[.cells (acc.length+1) true (u8s (acc++[cc])),c1]) (i1:=i1) (i2:=i2) (i3:=(o.length:Int)) (m:=o.length) rfl hv;simp only[bY] at hg;simp(disch:=first|exact dis|fail) only[sy,simprocAttr,-List.reduceReplicate,hF.all,h1,h2,h3,h4,h5,hs1,hc,hb,hh,hcx,ha,hg]
end
end TtB
namespace TtC
open Go Go.RowKit AM fO LtA SyP TmM TsA TsB TsE TsI TsJ TtA TtB Bt
def o8(a b:Int):Int:=if a < b then -1 else if b < a then 1 else 0
def kT(p q:Int×Int):Int:=if o8 p.1 q.1≠0 then o8 p.1 q.1 else o8 p.2 q.2
section
variable{hp:List Blk}{L:Nat}{H d:List Nat}
theorem Xb(a:Int)(hF:Fit hp.length L H):fS env (.func 182) [.int .i64 a] ⟨hp,L,H,d⟩=some (.bool false,⟨hp,L,H,d⟩):=by rw[fF 182 _ _ afv];simp(disch:=first|exact dis|fail) only[sy,simprocAttr,-List.reduceReplicate,hF.all,Wh]
theorem KC(a b:Int)(hF:Fit hp.length L H):fS env (.func 132) [.int .i64 a,.int .i64 b] ⟨hp,L,H,d⟩=some (.int .i64 (o8 a b),⟨hp,L,H,d⟩):=by
 rw[fF 132 _ _ afi];have hn:=fun a d=>Xb (hp:=hp) (L:=L) (H:=H) (d:=d) a hF;unfold o8;by_cases h1:a < b
 ·rw[if_pos h1];simp(disch:=first|exact dis|fail) only[sy,simprocAttr,-List.reduceReplicate,hF.all,J9,hn,h1]
 ·rw[if_neg h1];by_cases h2:b < a
  ·rw[if_pos h2];have h2':a > b:=h2;simp(disch:=first|exact dis|fail) only[sy,simprocAttr,-List.reduceReplicate,hF.all,J9,hn,h1,h2']
  ·rw[if_neg h2];have h2':¬ a > b:=h2;simp(disch:=first|exact dis|fail) only[sy,simprocAttr,-List.reduceReplicate,hF.all,J9,hn,h1,h2']
theorem aab{a b:Int}{k e:Nat}(hb:hp[k]?=some (.cells 0 true [.int .i64 a,.int .i64 b]))(hh:H.contains k=false)(hF:Fit hp.length L H) :
  fS env (.func 224) [.slice (some ⟨k,0,some 0⟩) 2 e] ⟨hp,L,H,d⟩=some (.int .i64 (if a≠0 then a else b),⟨hp,L,H,d⟩):=by
 rw[fF 224 _ _ afG];by_cases h1:a=0
 ·subst h1;rw[if_neg (by simp)];by_cases h2:b=0
  ·subst h2;simp(disch:=first|exact dis|fail) only[sy,simprocAttr,-List.reduceReplicate,hF.all,Ke];rw[fC rF.eq_1];simp(disch:=first|exact dis|fail) only[sy,simprocAttr,-List.reduceReplicate,hF.all,hb,hh];rw[fC rF.eq_1];simp(disch:=first|exact dis|fail) only[sy,simprocAttr,-List.reduceReplicate,hF.all,hb,hh];rw[fC rF.eq_1];simp(disch:=first|exact dis|fail) only[sy,simprocAttr,-List.reduceReplicate,hF.all,hb,hh]
  ·simp(disch:=first|exact dis|fail) only[sy,simprocAttr,-List.reduceReplicate,hF.all,Ke];rw[fC rF.eq_1];simp(disch:=first|exact dis|fail) only[sy,simprocAttr,-List.reduceReplicate,hF.all,hb,hh];rw[fC rF.eq_1];simp(disch:=first|exact dis|fail) only[sy,simprocAttr,-List.reduceReplicate,hF.all,hb,hh,h2]
 ·rw[if_pos h1];simp(disch:=first|exact dis|fail) only[sy,simprocAttr,-List.reduceReplicate,hF.all,Ke];rw[fC rF.eq_1];simp(disch:=first|exact dis|fail) only[sy,simprocAttr,-List.reduceReplicate,hF.all,hb,hh,h1]
theorem jj(p q:Int×Int)(hF:Fit hp.length L H):fS env (.func 223) [.agg #[.int .i64 p.1,.int .i64 p.2],.agg #[.int .i64 q.1,.int .i64 q.2]] ⟨hp,L,H,d⟩=some (.int .i64 (kT p q),⟨hp,L,H,d⟩):=by
 rw[fF 223 _ _ afF];have hc:=fun a b hp L H d hF=>KC (hp:=hp) (L:=L) (H:=H) (d:=d) a b hF;have ho:=fun a b c0 c1 L' d hF'=>aab (hp:=hp++[c0,c1,.cells 0 true [.int .i64 a,.int .i64 b]]) (L:=L') (H:=H) (d:=d) (k:=hp.length+2) (e:=1) (a:=a) (b:=b) (by rw[iE];rfl) (hF.nv 2) hF';have hs:small 2=true:=by decide
 unfold kT;simp(disch:=first|exact dis|fail) only[sy,simprocAttr,-List.reduceReplicate,hF.all,Pq,hc,ho,hs]
end
end TtC
namespace TtD
open Go Go.RowKit AM fO LtA SyP TmM TsA TsB TsE TsI TsJ TtA TtB TtC Bt
abbrev Pr:=Int×Int
def ltP(p q:Pr):Bool:=decide (kT p q < 0)
def prL:List Pr->List Value
 | []=>[]
 | p::l=>.int .i64 p.1::.int .i64 p.2::prL l
def prs(d:Array Pr):List Value:=prL d.toList
theorem rL:∀ (l:List Pr),(prL l).length=2*l.length
 | []=>rfl
 | p::l=>by rw[prL];simp only[az,rL l];omega
theorem jH(d:Array Pr):(prs d).length=2*d.size:=by rw[prs,rL,bZ]
theorem Xc:∀ (l:List Pr) (i:Nat) (h:i < l.length),((prL l).drop (2*i)).take 2=[.int .i64 l[i].1,.int .i64 l[i].2]
 | p::l,0,h=>rfl
 | p::l,i+1,h=>by rw[prL,show 2*(i+1)=2*i+1+1 by omega,cC,cC];exact Xc l i (by simpa using h)
theorem iw(d:Array Pr){i:Nat}(h:i < d.size):((prs d).drop (2*i)).take 2=[.int .i64 d[i]!.1,.int .i64 d[i]!.2]:=by rw[prs,Xc _ i (by simpa using h)];simp[h]
theorem PL:∀ (l:List Pr) (i:Nat) (p:Pr),i < l.length->putAt (prL l) (2*i) [.int .i64 p.1,.int .i64 p.2]=prL (l.set i p)
 | q::l,0,p,_=>rfl
 | q::l,i+1,p,h=>by
  have ih:=PL l i p (by simpa using h);apply bK;intro j;rw[kF _ _ _ _ (by rw[rL];simp only[az,aT] at *;omega)];rw[cV,prL,prL,<- ih];rcases j with _ | _ | j
  ·rw[if_neg om];rfl
  ·rw[if_neg om];rfl
  ·simp only[cJ];rw[kF _ _ _ _ (by rw[rL];simp only[az,aT] at *;omega)];by_cases hj:2*i<=j/\j < 2*i+[Value.int .i64 p.1,Value.int .i64 p.2].length
   ·rw[if_pos hj,if_pos om];congr 1;omega
   ·rw[if_neg hj,if_neg om]
theorem PM(d:Array Pr){i:Nat}(p:Pr)(h:i < d.size):putAt (prs d) (2*i) [.int .i64 p.1,.int .i64 p.2]=prs (d.setIfInBounds i p):=by rw[prs,prs,PL _ _ _ (by simpa using h)];simp
theorem Xd:∀ (l:List Pr),(prL l).all AM.sc=true
 | []=>rfl
 | p::l=>by rw[prL];simp only[ct,AM.sc,Xd l];rfl
theorem uf(d:Array Pr){i j:Nat}(hi:i < d.size)(hj:j < d.size):putAt (putAt (prs d) (2*i) [.int .i64 d[j]!.1,.int .i64 d[j]!.2]) (2*j) [.int .i64 d[i]!.1,.int .i64 d[i]!.2]=prs (Go.Sort.swp d i j):=by rw[PM d _ hi,PM _ _ (by simpa using hj)];rfl
end TtD
namespace TtE
open Go Go.RowKit AM fO LtA SyP TmM TsA TsB TsE TsI TsJ TtA TtB TtC TtD Bt
def fM:Value:=.func (.func 223) #[] #[]
section
variable{hp:List Blk}{L:Nat}{H d:List Nat}
theorem swp_size(d:Array Pr)(i j:Nat):(Go.Sort.swp d i j).size=d.size:=by simp[Go.Sort.swp]
theorem qC{b g e a i n:Nat}(hb:b < hp.length)(hL:L<=b)(hh:H.contains b=false)(he:e=0\/e=2)(hn:n<=100000)(be:Nat)(hF:Fit hp.length L H):∀ (j:Nat) (W:Array Pr),W.size=n->j < n->∃ fr,
  fW env Ak [9,2,1,3,8,0] hp.length [(9,.int .i64 j),(2,.int .i64 be),(1,.int .i64 a),(3,fM),(8,.int .i64 i),(0,.slice (some ⟨b,0,some g⟩) n e)] ⟨hp.set b (.cells g true (prs W)),L,H,[]⟩
   = some (.exit 2,fr,⟨hp.set b (.cells g true (prs (Go.Sort.insInner ltP a j W))),L,H,[]⟩)
   /\ fr.get 2=some (.int .i64 be)/\fr.get 1=some (.int .i64 a)/\fr.get 3=some fM/\fr.get 8=some (.int .i64 i)/\fr.get 0=some (.slice (some ⟨b,0,some g⟩) n e)
 | 0,W,hD,hj=>by
  have h1:¬ (0:Int) > (a:Int):=om
  unfold Go.Sort.insInner;rw[fC Ak.eq_1];simp only[aN];simp(disch:=first|exact dis|fail) only[sy,simprocAttr,-List.reduceReplicate,hF.all,h1];exact⟨_,rfl,rfl,rfl,rfl,rfl,rfl⟩
 | j+1,W,hD,hj=>by
  unfold Go.Sort.insInner;rw[fC Ak.eq_1];have hl:=fun p q hp L H d hF=>jj (hp:=hp) (L:=L) (H:=H) (d:=d) p q hF;have hlen:(prs W).length=2*n:=by rw[jH,hD]
  have r1:=iw W (i:=j+1) om;have r0:=iw W (i:=j) om;have h2:0<=((j+1:Nat):Int)/\((j+1:Nat):Int) < (n:Int):=om
  have h3:0<=(j:Int)/\(j:Int) < (n:Int):=om
  have e1:((j+1:Nat):Int) - 1=(j:Int):=om
  have hg1:∀ B:Blk,(hp.set b B)[b]?=some B:=fun B=>aD hb;have hss:∀ A B:Blk,(hp.set b A).set b B=hp.set b B:=fun A B=>bG ..;have s1:(j+1)*2+2<=2*n:=om
  have s0:j*2+2<=2*n:=om
  rw[bE] at r1 r0;have hnl:¬ b < L:=om
  by_cases ha:j+1 > a
  ·have h1:((j+1:Nat):Int) > (a:Int):=om
   by_cases hlt:ltP W[j+1]! W[j]! = true
   ·have hc:kT W[j+1]! W[j]! < 0:=of_decide_eq_true hlt;have hsw:=uf W (i:=j+1) (j:=j) om om;rw[bE 2 (j+1),bE 2 j] at hsw;simp only[putAt] at hsw;obtain⟨fr,ih,ih2⟩:=qC (b:=b) (g:=g) (e:=e) (a:=a) (i:=i) hb hL hh he hn be hF j (Go.Sort.swp W (j+1) j) (by rw[swp_size,hD]) om;have n4:(decide (j+1 > a)&&ltP W[j+1]! W[j]!)=true:=by rw[hlt];simpa using ha
    rw[if_pos n4];refine⟨fr,?_,ih2⟩;simp(disch:=first|exact dis|fail) only[sy,simprocAttr,-List.reduceReplicate,hF.all,fM,h1,h2,h3,e1,hg1,hss,hh,hlen,r1,r0,s1,s0,hnl,hl,hc,hsw];simp only[fM] at ih;exact ih
   ·have hc:¬ kT W[j+1]! W[j]! < 0:=fun h=>hlt (decide_eq_true h);have n4:¬ (decide (j+1 > a)&&ltP W[j+1]! W[j]!)=true:=by intro h;rw[au] at h;exact hlt h.2
    rw[if_neg n4];simp(disch:=first|exact dis|fail) only[sy,simprocAttr,-List.reduceReplicate,hF.all,fM,h1,h2,h3,e1,hg1,hss,hh,hlen,r1,r0,s1,s0,hl,hc];exact⟨_,rfl,rfl,rfl,rfl,rfl,rfl⟩
  ·have h1:¬ ((j+1:Nat):Int) > (a:Int):=om
   have n4:¬ (decide (j+1 > a)&&ltP W[j+1]! W[j]!)=true:=by intro h;rw[au] at h;exact ha (of_decide_eq_true h.1)
   rw[if_neg n4];simp(disch:=first|exact dis|fail) only[sy,simprocAttr,-List.reduceReplicate,hF.all,fM,h1,h2,h3,e1,hg1,hss,hh,hlen];exact⟨_,rfl,rfl,rfl,rfl,rfl,rfl⟩
theorem uG(a:Nat):∀ (j:Nat) (W:Array Pr),(Go.Sort.insInner ltP a j W).size=W.size
 | 0,W=>rfl
 | j+1,W=>by
  unfold Go.Sort.insInner;split
  ·rw[uG a j,swp_size]
  ·rfl
theorem qD{b g e a n be:Nat}(hb:b < hp.length)(hL:L<=b)(hh:H.contains b=false)(he:e=0\/e=2)(hn:n<=100000)(hbe:be<=n)(hF:Fit hp.length L H):∀ (k i:Nat) (W:Array Pr),W.size=n->be - i=k->i<=200000->∃ fr,
  fW env Al [3,1,2,8,0] hp.length [(3,fM),(1,.int .i64 a),(2,.int .i64 be),(8,.int .i64 i),(0,.slice (some ⟨b,0,some g⟩) n e)] ⟨hp.set b (.cells g true (prs W)),L,H,[]⟩
   = some (.exit 0,fr,⟨hp.set b (.cells g true (prs (Go.Sort.insOuter ltP a be i W))),L,H,[]⟩)
 | 0,i,W,hD,hk,hi=>by
  have h1:¬ (i:Int) < (be:Int):=om
  unfold Go.Sort.insOuter;rw[if_neg om];rw[fC Al.eq_1];simp(disch:=first|exact dis|fail) only[sy,simprocAttr,-List.reduceReplicate,hF.all,h1];exact⟨_,rfl⟩
 | k+1,i,W,hD,hk,hi=>by
  have h1:(i:Int) < (be:Int):=om
  obtain⟨fr1,e1,e2,e3,e4,e5,e6⟩:=qC (g:=g) (e:=e) (a:=a) (i:=i) hb hL hh he hn be hF i W hD om;obtain⟨fr,ih⟩:=qD (g:=g) (e:=e) (a:=a) hb hL hh he hn hbe hF k (i+1) (Go.Sort.insInner ltP a i W) (by rw[uG,hD]) om om;unfold Go.Sort.insOuter;rw[if_pos om];rw[fC Al.eq_1];simp only[fM,aC,aI] at e1 e4 ih ⊢;simp(disch:=first|exact dis|fail) only[sy,simprocAttr,-List.reduceReplicate,hF.all,h1,e1,e2,e3,e4,e5,e6,ih];exact⟨_,rfl⟩
theorem sY{b g e a n be:Nat}{W:Array Pr}(hb:hp[b]?=some (.cells g true (prs W)))(hD:W.size=n)(hL:L<=b)(hh:H.contains b=false)(he:e=0\/e=2)(hn:n<=100000)(hbe:be<=n)(ha:a<=100000)(hF:Fit hp.length L H) :
  fS env (.func 269) [.slice (some ⟨b,0,some g⟩) n e,.int .i64 a,.int .i64 be,fM] ⟨hp,L,H,d⟩=some (.tuple #[],⟨hp.set b (.cells g true (prs (Go.Sort.insertionSort ltP W a be))),L,H,d⟩):=by rw[fF 269 _ _ afW];have hbl:=(af.1 hb).1;obtain⟨fr,h⟩:=qD (hp:=hp) (L:=L) (H:=H) (g:=g) (e:=e) (a:=a) hbl hL hh he hn hbe hF (be - (a+1)) (a+1) W hD rfl om;rw[jt hb] at h;simp only[fM,aC,aI] at h ⊢;unfold Go.Sort.insertionSort;simp(disch:=first|exact dis|fail) only[sy,simprocAttr,-List.reduceReplicate,hF.all,Wy,h]
end
end TtE
namespace TtF
open Go Go.RowKit AM fO LtA SyP TmM TsA TsB TsE TsI TsJ TtA TtB TtC TtD TtE Bt
section
variable{hp:List Blk}{L:Nat}{H d:List Nat}
theorem sZ{b g e n x y q s:Nat}{W:Array Pr}(hb:hp[b]?=some (.cells g true (prs W)))(hD:W.size=n)(hh:H.contains b=false)(he:e=0\/e=2)(hn:n<=100000)(hx:x < n)(hy:y < n)
  (hq:hp[q]?=some (.cells 0 true [.int .i64 s])) (hqL:L<=q) (hqh:H.contains q=false) (hs:s<=100000) (hF:Fit hp.length L H) :
  fS env (.func 291) [.slice (some ⟨b,0,some g⟩) n e,.int .i64 x,.int .i64 y,.pointer (some ⟨q,0,some 0⟩),fM] ⟨hp,L,H,d⟩=some (.tuple #[.int .i64 (Go.Sort.order2 ltP W x y s).1,.int .i64 (Go.Sort.order2 ltP W x y s).2.1],⟨hp.set q (.cells 0 true [.int .i64 (Go.Sort.order2 ltP W x y s).2.2]),L,H,d⟩):=by
 rw[fF 291 _ _ age];have hbl:=(af.1 hb).1;have hql:=(af.1 hq).1;have hl:=fun p q hp L H d hF=>jj (hp:=hp) (L:=L) (H:=H) (d:=d) p q hF;have hlen:(prs W).length=2*n:=by rw[jH,hD]
 have r1:=iw W (i:=x) om;have r0:=iw W (i:=y) om;rw[bE] at r1 r0;have h2:0<=(x:Int)/\(x:Int) < (n:Int):=om
 have h3:0<=(y:Int)/\(y:Int) < (n:Int):=om
 have s1:x*2+2<=2*n:=om
 have s0:y*2+2<=2*n:=om
 have hnl:¬ q < L:=om
 unfold Go.Sort.order2;by_cases hlt:ltP W[y]! W[x]! = true
 ·have hc:kT W[y]! W[x]! < 0:=of_decide_eq_true hlt;simp only[if_pos hlt,aC,aI];simp(disch:=first|exact dis|fail) only[sy,simprocAttr,-List.reduceReplicate,hF.all,PB,fM,hb,hh,hq,hqh,h2,h3,hlen,r1,r0,s1,s0,hnl,hl,hc]
 ·have hc:¬ kT W[y]! W[x]! < 0:=fun h=>hlt (decide_eq_true h);simp only[if_neg hlt];rw[jt hq];simp(disch:=first|exact dis|fail) only[sy,simprocAttr,-List.reduceReplicate,hF.all,PB,fM,hb,hh,hq,hqh,h2,h3,hlen,r1,r0,s1,s0,hnl,hl,hc]
theorem EK{b g e n:Nat}(hb:b < hp.length)(hL:L<=b)(hh:H.contains b=false)(he:e=0\/e=2)(hn:n<=100000)(hF:Fit hp.length L H):∀ (k i j:Nat) (W:Array Pr),W.size=n->j - i<=k->j < n->i<=200000->∃ fr,
  fW env Ao [8,9,0] hp.length [(8,.int .i64 i),(9,.int .i64 j),(0,.slice (some ⟨b,0,some g⟩) n e)] ⟨hp.set b (.cells g true (prs W)),L,H,[]⟩
   = some (.exit 0,fr,⟨hp.set b (.cells g true (prs (Go.Sort.reverseLoop i j W))),L,H,[]⟩)
 | k,i,j,W,hD,hk,hj,hi=>by
  by_cases hij:i < j
  ·cases k with
   | zero=>omega
   | succ k=>
    obtain⟨fr,ih⟩:=EK (g:=g) (e:=e) hb hL hh he hn hF k (i+1) (j - 1) (Go.Sort.swp W i j) (by rw[swp_size,hD]) om om om;have hlen:(prs W).length=2*n:=by rw[jH,hD]
    have r1:=iw W (i:=i) om;have r0:=iw W (i:=j) om;rw[bE] at r1 r0;have h1:(i:Int) < (j:Int):=om
    have h2:0<=(i:Int)/\(i:Int) < (n:Int):=om
    have h3:0<=(j:Int)/\(j:Int) < (n:Int):=om
    have s1:i*2+2<=2*n:=om
    have s0:j*2+2<=2*n:=om
    have hnl:¬ b < L:=om
    have hg1:∀ B:Blk,(hp.set b B)[b]?=some B:=fun B=>aD hb;have hss:∀ A B:Blk,(hp.set b A).set b B=hp.set b B:=fun A B=>bG ..;have hsw:=uf W (i:=i) (j:=j) om om;rw[bE 2 i,bE 2 j] at hsw;simp only[putAt] at hsw;have e1:(j:Int) - 1=((j - 1:Nat):Int):=om
    rw[Go.Sort.reverseLoop,if_pos hij];rw[fC Ao.eq_1];simp only[aC,aI] at ih;simp(disch:=first|exact dis|fail) only[sy,simprocAttr,-List.reduceReplicate,hF.all,h1,h2,h3,hg1,hss,hh,hlen,r1,r0,s1,s0,hnl,hsw,e1,ih];exact⟨_,rfl⟩
  ·have h1:¬ (i:Int) < (j:Int):=om
   rw[Go.Sort.reverseLoop,if_neg hij];rw[fC Ao.eq_1];simp(disch:=first|exact dis|fail) only[sy,simprocAttr,-List.reduceReplicate,hF.all,h1];exact⟨_,rfl⟩
theorem DN{b g e a n be:Nat}{W:Array Pr}(hb:hp[b]?=some (.cells g true (prs W)))(hD:W.size=n)(hL:L<=b)(hh:H.contains b=false)(he:e=0\/e=2)(hn:n<=100000)(hbe:be<=n)(aiw:1<=be)(ha:a<=100000)(hF:Fit hp.length L H) :
  fS env (.func 273) [.slice (some ⟨b,0,some g⟩) n e,.int .i64 a,.int .i64 be,fM] ⟨hp,L,H,d⟩=some (.tuple #[],⟨hp.set b (.cells g true (prs (Go.Sort.reverseRange W a be))),L,H,d⟩):=by
 rw[fF 273 _ _ af0];have hbl:=(af.1 hb).1;obtain⟨fr,h⟩:=EK (hp:=hp) (L:=L) (H:=H) (g:=g) (e:=e) hbl hL hh he hn hF n a (be - 1) W hD om om om;rw[jt hb] at h;have e1:(be:Int) - 1=((be - 1:Nat):Int):=om
 unfold Go.Sort.reverseRange;simp(disch:=first|exact dis|fail) only[sy,simprocAttr,-List.reduceReplicate,hF.all,WA,fM,e1,h]
theorem s9{W:Array Pr}{x y s:Nat} : (Go.Sort.order2 ltP W x y s).2.2<=s+1:=by unfold Go.Sort.order2;split<;>simp
theorem EL{W:Array Pr}{x y s n:Nat}(hx:x < n)(hy:y < n):(Go.Sort.order2 ltP W x y s).1 < n/\(Go.Sort.order2 ltP W x y s).2.1 < n:=by unfold Go.Sort.order2;split<;>exact⟨by assumption,by assumption⟩
theorem zc{b g e n x y z q s:Nat}{W:Array Pr}(hb:hp[b]?=some (.cells g true (prs W)))(hD:W.size=n)(hh:H.contains b=false)(he:e=0\/e=2)(hn:n<=100000)(hx:x < n)(hy:y < n)(hz:z < n)
  (hq:hp[q]?=some (.cells 0 true [.int .i64 s])) (hqL:L<=q) (hqh:H.contains q=false) (hbq:b≠q) (hs:s<=90000) (hF:Fit hp.length L H) :
  fS env (.func 290) [.slice (some ⟨b,0,some g⟩) n e,.int .i64 x,.int .i64 y,.int .i64 z,.pointer (some ⟨q,0,some 0⟩),fM] ⟨hp,L,H,d⟩=some (.int .i64 (Go.Sort.median ltP W x y z s).1,⟨hp.set q (.cells 0 true [.int .i64 (Go.Sort.median ltP W x y z s).2]),L,H,d⟩):=by
 rw[fF 290 _ _ agd];have hql:=(af.1 hq).1;unfold Go.Sort.median;simp only;have k1:=fun d=>sZ (d:=d) hb hD hh he hn hx hy hq hqL hqh om hF;have t1:=s9 (W:=W) (x:=x) (y:=y) (s:=s);have l1:=EL (W:=W) (s:=s) hx hy;generalize Go.Sort.order2 ltP W x y s=A at *;obtain⟨a1,a2,a3⟩:=A;simp only at t1 l1 k1 ⊢;have hb1:(hp.set q (.cells 0 true [.int .i64 a3]))[b]?=some (.cells g true (prs W)):=by rw[aZ (Ne.symm hbq)];exact hb
 have k2:=fun d=>sZ (hp:=hp.set q (.cells 0 true [.int .i64 a3])) (d:=d) hb1 hD hh he hn l1.2 hz (aD hql) hqL hqh om (by rw[aG];exact hF);have t2:=s9 (W:=W) (x:=a2) (y:=z) (s:=a3);have l2:=EL (W:=W) (s:=a3) l1.2 hz;generalize Go.Sort.order2 ltP W a2 z a3=B at *;obtain⟨b1,b2,b3⟩:=B;simp only[bG] at t2 l2 k2 ⊢;have hb2:(hp.set q (.cells 0 true [.int .i64 b3]))[b]?=some (.cells g true (prs W)):=by rw[aZ (Ne.symm hbq)];exact hb
 have k3:=fun d=>sZ (hp:=hp.set q (.cells 0 true [.int .i64 b3])) (d:=d) hb2 hD hh he hn l1.1 l2.1 (aD hql) hqL hqh om (by rw[aG];exact hF);generalize Go.Sort.order2 ltP W a1 b1 b3=C at *;obtain⟨c1,c2,c3⟩:=C;simp only[bG] at k3 ⊢;simp only[fM] at k1 k2 k3 ⊢;simp(disch:=first|exact dis|fail) only[sy,simprocAttr,-List.reduceReplicate,hF.all,WI,k1,k2,k3]
end
end TtF
namespace TtG
open Go Go.RowKit AM fO LtA SyP TmM TsA TsB TsE TsI TsJ TtA TtB TtC TtD TtE TtF Bt
section
variable{hp:List Blk}{L:Nat}{H d:List Nat}
theorem ug{b g e n hi first:Nat}(hb:b < hp.length)(hL:L<=b)(hh:H.contains b=false)(he:e=0\/e=2)(hn:n<=100000)(hfh:first+hi<=n)(hF:Fit hp.length L H):∀ (k root:Nat) (W:Array Pr),W.size=n->hi - root<=k->root<=200000->∃ fr ex,(ex=Ex.exit 0\/ex=Ex.ret) /\
  fW env GW [10,0,3,4,2] hp.length [(10,.int .i64 root),(0,.slice (some ⟨b,0,some g⟩) n e),(3,.int .i64 first),(4,fM),(2,.int .i64 hi)] ⟨hp.set b (.cells g true (prs W)),L,H,[]⟩
   = some (ex,fr,⟨hp.set b (.cells g true (prs (Go.Sort.siftDown ltP hi first root W))),L,H,[]⟩)
 | k,root,W,hD,hk,hr=>by
  have hl:=fun p q hp L H d hF=>jj (hp:=hp) (L:=L) (H:=H) (d:=d) p q hF;have hlen:(prs W).length=2*n:=by rw[jH,hD]
  have hg1:∀ B:Blk,(hp.set b B)[b]?=some B:=fun B=>aD hb;have hss:∀ A B:Blk,(hp.set b A).set b B=hp.set b B:=fun A B=>bG ..;have hnl:¬ b < L:=om
  have e1:(2:Int)*(root:Int)+1=((2*root+1:Nat):Int):=om
  have e2:((2*root+1:Nat):Int)+1=((2*root+2:Nat):Int):=om
  rw[Go.Sort.siftDown];rw[fC GW.eq_1];by_cases h1:2*root+1>=hi
  ·rw[dif_pos h1];have g1:((2*root+1:Nat):Int)>=(hi:Int):=om
   simp(disch:=first|exact dis|fail) only[sy,simprocAttr,-List.reduceReplicate,hF.all,fM,e1,g1];exact⟨_,_,.inl rfl,rfl⟩
  ·rw[dif_neg h1];cases k with
   | zero=>omega
   | succ k=>
    have g1:¬ ((2*root+1:Nat):Int)>=(hi:Int):=om
    have q1:=iw W (i:=first+root) om;have q2:=iw W (i:=first+(2*root+1)) om;rw[bE] at q1 q2;have f1:(first:Int)+(root:Int)=((first+root:Nat):Int):=om
    have f2:(first:Int)+((2*root+1:Nat):Int)=((first+(2*root+1):Nat):Int):=om
    have f3:(first:Int)+((2*root+2:Nat):Int)=((first+(2*root+2):Nat):Int):=om
    have f4:((first+(2*root+1):Nat):Int)+1=((first+(2*root+2):Nat):Int):=om
    have b1:0<=((first+root:Nat):Int)/\((first+root:Nat):Int) < (n:Int):=om
    have b2:0<=((first+(2*root+1):Nat):Int)/\((first+(2*root+1):Nat):Int) < (n:Int):=om
    have s1:(first+root)*2+2<=2*n:=om
    have s2:(first+(2*root+1))*2+2<=2*n:=om
    have sw1:=uf W (i:=first+root) (j:=first+(2*root+1)) om om;rw[bE 2 (first+root),bE 2 (first+(2*root+1))] at sw1;simp only[putAt] at sw1;by_cases h2:2*root+1+1 < hi
    ·have g2:((2*root+2:Nat):Int) < (hi:Int):=om
     have q3:=iw W (i:=first+(2*root+2)) om;rw[bE] at q3;have b3:0<=((first+(2*root+2):Nat):Int)/\((first+(2*root+2):Nat):Int) < (n:Int):=om
     have s3:(first+(2*root+2))*2+2<=2*n:=om
     have ee:first+(2*root+1)+1=first+(2*root+2):=om
     rw[ee];by_cases h3:ltP W[first+(2*root+1)]! W[first+(2*root+2)]! = true
     ·have c3:kT W[first+(2*root+1)]! W[first+(2*root+2)]! < 0:=of_decide_eq_true h3;rw[if_pos (by rw[h3];simpa using h2)];by_cases h4:ltP W[first+root]! W[first+(2*root+2)]! = true
      ·have c4:kT W[first+root]! W[first+(2*root+2)]! < 0:=of_decide_eq_true h4;rw[if_neg (by rw[h4];simp),dif_pos om];have sw2:=uf W (i:=first+root) (j:=first+(2*root+2)) om om;rw[bE 2 (first+root),bE 2 (first+(2*root+2))] at sw2;simp only[putAt] at sw2;obtain⟨fr,ex,hx,ih⟩:=ug (g:=g) (e:=e) hb hL hh he hn hfh hF k (2*root+2) (Go.Sort.swp W (first+root) (first+(2*root+2))) (by rw[swp_size,hD]) om om;simp only[fM] at ih;refine⟨fr,ex,hx,?_⟩;simp(disch:=first|exact dis|fail) only[sy,simprocAttr,-List.reduceReplicate,hF.all,fM,e1,e2,g1,g2,f1,f2,f3,f4,b1,b2,b3,s1,s2,s3,q1,q2,q3,hg1,hss,hh,hlen,hnl,hl,c3,c4,sw2,ih]
      ·have c4:¬ kT W[first+root]! W[first+(2*root+2)]! < 0:=fun h=>h4 (decide_eq_true h);rw[if_pos (by simpa using h4)];simp(disch:=first|exact dis|fail) only[sy,simprocAttr,-List.reduceReplicate,hF.all,fM,e1,e2,g1,g2,f1,f2,f3,f4,b1,b2,b3,s1,s2,s3,q1,q2,q3,hg1,hss,hh,hlen,hnl,hl,c3,c4];exact⟨_,_,.inr rfl,rfl⟩
     ·have c3:¬ kT W[first+(2*root+1)]! W[first+(2*root+2)]! < 0:=fun h=>h3 (decide_eq_true h);rw[if_neg (by intro h;rw[au] at h;exact h3 h.2)];by_cases h4:ltP W[first+root]! W[first+(2*root+1)]! = true
      ·have c4:kT W[first+root]! W[first+(2*root+1)]! < 0:=of_decide_eq_true h4;rw[if_neg (by rw[h4];simp)];obtain⟨fr,ex,hx,ih⟩:=ug (g:=g) (e:=e) hb hL hh he hn hfh hF k (2*root+1) (Go.Sort.swp W (first+root) (first+(2*root+1))) (by rw[swp_size,hD]) om om;simp only[fM] at ih;refine⟨fr,ex,hx,?_⟩;simp(disch:=first|exact dis|fail) only[sy,simprocAttr,-List.reduceReplicate,hF.all,fM,e1,e2,g1,g2,f1,f2,f3,f4,b1,b2,b3,s1,s2,s3,q1,q2,q3,hg1,hss,hh,hlen,hnl,hl,c3,c4,sw1,ih]
      ·have c4:¬ kT W[first+root]! W[first+(2*root+1)]! < 0:=fun h=>h4 (decide_eq_true h);rw[if_pos (by simpa using h4)];simp(disch:=first|exact dis|fail) only[sy,simprocAttr,-List.reduceReplicate,hF.all,fM,e1,e2,g1,g2,f1,f2,f3,f4,b1,b2,b3,s1,s2,s3,q1,q2,q3,hg1,hss,hh,hlen,hnl,hl,c3,c4];exact⟨_,_,.inr rfl,rfl⟩
    ·have g2:¬ ((2*root+2:Nat):Int) < (hi:Int):=om
     rw[if_neg (by intro h;rw[au] at h;exact h2 (of_decide_eq_true h.1))];by_cases h4:ltP W[first+root]! W[first+(2*root+1)]! = true
     ·have c4:kT W[first+root]! W[first+(2*root+1)]! < 0:=of_decide_eq_true h4;rw[if_neg (by rw[h4];simp)];obtain⟨fr,ex,hx,ih⟩:=ug (g:=g) (e:=e) hb hL hh he hn hfh hF k (2*root+1) (Go.Sort.swp W (first+root) (first+(2*root+1))) (by rw[swp_size,hD]) om om;simp only[fM] at ih;refine⟨fr,ex,hx,?_⟩;simp(disch:=first|exact dis|fail) only[sy,simprocAttr,-List.reduceReplicate,hF.all,fM,e1,e2,g1,g2,f1,f2,f3,f4,b1,b2,s1,s2,q1,q2,hg1,hss,hh,hlen,hnl,hl,c4,sw1,ih]
     ·have c4:¬ kT W[first+root]! W[first+(2*root+1)]! < 0:=fun h=>h4 (decide_eq_true h);rw[if_pos (by simpa using h4)];simp(disch:=first|exact dis|fail) only[sy,simprocAttr,-List.reduceReplicate,hF.all,fM,e1,e2,g1,g2,f1,f2,f3,f4,b1,b2,s1,s2,q1,q2,hg1,hss,hh,hlen,hnl,hl,c4];exact⟨_,_,.inr rfl,rfl⟩
theorem EM{b g e n hi first root:Nat}{W:Array Pr}(hb:hp[b]?=some (.cells g true (prs W)))(hD:W.size=n)(hL:L<=b)(hh:H.contains b=false)(he:e=0\/e=2)(hn:n<=100000)(hfh:first+hi<=n)(hr:root<=100000)(hF:Fit hp.length L H) :
  fS env (.func 286) [.slice (some ⟨b,0,some g⟩) n e,.int .i64 root,.int .i64 hi,.int .i64 first,fM] ⟨hp,L,H,d⟩=some (.tuple #[],⟨hp.set b (.cells g true (prs (Go.Sort.siftDown ltP hi first root W))),L,H,d⟩):=by
 rw[fF 286 _ _ af9];have hbl:=(af.1 hb).1;obtain⟨fr,ex,hx,h⟩:=ug (hp:=hp) (L:=L) (H:=H) (g:=g) (e:=e) (first:=first) hbl hL hh he hn hfh hF hi root W hD om om;rw[jt hb] at h;simp only[fM] at h ⊢;rcases hx with rfl | rfl
 ·simp(disch:=first|exact dis|fail) only[sy,simprocAttr,-List.reduceReplicate,hF.all,PA,h]
 ·simp(disch:=first|exact dis|fail) only[sy,simprocAttr,-List.reduceReplicate,hF.all,PA,h]
theorem qE(hi first:Nat):∀ (k root:Nat) (W:Array Pr),hi - root<=k->(Go.Sort.siftDown ltP hi first root W).size=W.size
 | 0,root,W,h=>by rw[Go.Sort.siftDown,dif_pos om]
 | k+1,root,W,h=>by
  rw[Go.Sort.siftDown];split
  ·rfl
  ·split
   ·split
    ·rfl
    ·split
     ·rw[qE hi first k _ _ om,swp_size]
     ·rfl
   ·split
    ·rfl
    ·rw[qE hi first k _ _ om,swp_size]
theorem CA{b g e n hi first:Nat}(hb:b < hp.length)(hL:L<=b)(hh:H.contains b=false)(he:e=0\/e=2)(hn:n<=100000)(hfh:first+hi<=n)(hF:Fit hp.length L H):∀ (k:Nat) (W:Array Pr),W.size=n->k<=100000->∃ fr,
  fW env An [11,9,0,10,8,3] hp.length [(11,.int .i64 ((k:Int) - 1)),(9,.int .i64 0),(0,.slice (some ⟨b,0,some g⟩) n e),(10,.int .i64 hi),(8,.int .i64 first),(3,fM)] ⟨hp.set b (.cells g true (prs W)),L,H,[]⟩
   = some (.exit 0,fr,⟨hp.set b (.cells g true (prs (Go.Sort.heapBuild ltP hi first k W))),L,H,[]⟩)/\fr.get 9=some (.int .i64 0)/\fr.get 0=some (.slice (some ⟨b,0,some g⟩) n e)/\fr.get 10=some (.int .i64 hi)/\fr.get 8=some (.int .i64 first)/\fr.get 3=some fM
 | 0,W,hD,hk=>by
  rw[Go.Sort.heapBuild];rw[fC An.eq_1];have e0:((0:Nat):Int) - 1 = -1:=rfl;rw[e0];have h1:¬ (-1:Int)>=0:=by decide
  simp(disch:=first|exact dis|fail) only[sy,simprocAttr,-List.reduceReplicate,hF.all,h1];exact⟨_,rfl,rfl,rfl,rfl,rfl,rfl⟩
 | k+1,W,hD,hk=>by
  obtain⟨fr,ih,ih2⟩:=CA (g:=g) (e:=e) (first:=first) hb hL hh he hn hfh hF k (Go.Sort.siftDown ltP hi first k W) (by rw[qE hi first hi k W om,hD]) om;have hs:=fun d=>EM (hp:=hp.set b (.cells g true (prs W))) (L:=L) (H:=H) (d:=d) (g:=g) (e:=e) (root:=k) (aD hb) hD hL hh he hn hfh om (by rw[aG];exact hF);rw[Go.Sort.heapBuild];have e1:((k+1:Nat):Int) - 1=(k:Int):=om
  have h1:(k:Int)>=0:=om
  simp only[bG,fM] at hs ih ih2 ⊢;rw[fC An.eq_1,e1];refine⟨fr,?_,ih2⟩;simp(disch:=first|exact dis|fail) only[sy,simprocAttr,-List.reduceReplicate,hF.all,h1,hs,ih]
theorem KD{b g e n first:Nat}(hb:b < hp.length)(hL:L<=b)(hh:H.contains b=false)(he:e=0\/e=2)(hn:n<=100000)(hF:Fit hp.length L H):∀ (k:Nat) (W:Array Pr),W.size=n->first+k<=n->∃ fr,
  fW env Am [12,0,9,8,3] hp.length [(12,.int .i64 ((k:Int) - 1)),(0,.slice (some ⟨b,0,some g⟩) n e),(9,.int .i64 0),(8,.int .i64 first),(3,fM)] ⟨hp.set b (.cells g true (prs W)),L,H,[]⟩
   = some (.exit 2,fr,⟨hp.set b (.cells g true (prs (Go.Sort.heapPop ltP first k W))),L,H,[]⟩)
 | 0,W,hD,hk=>by
  rw[Go.Sort.heapPop];rw[fC Am.eq_1];have e0:((0:Nat):Int) - 1 = -1:=rfl;rw[e0];have h1:¬ (-1:Int)>=0:=by decide
  simp(disch:=first|exact dis|fail) only[sy,simprocAttr,-List.reduceReplicate,hF.all,h1];exact⟨_,rfl⟩
 | k+1,W,hD,hk=>by
  have hsz:(Go.Sort.swp W first (first+k)).size=n:=by rw[swp_size,hD]
  obtain⟨fr,ih⟩:=KD (g:=g) (e:=e) (first:=first) hb hL hh he hn hF k (Go.Sort.siftDown ltP k first 0 (Go.Sort.swp W first (first+k))) (by rw[qE k first k 0 _ om,hsz]) om;have hs:=fun d=>EM (hp:=hp.set b (.cells g true (prs (Go.Sort.swp W first (first+k))))) (L:=L) (H:=H) (d:=d) (g:=g) (e:=e) (hi:=k) (first:=first) (root:=0) (aD hb) hsz hL hh he hn om om (by rw[aG];exact hF);rw[Go.Sort.heapPop];have e1:((k+1:Nat):Int) - 1=(k:Int):=om
  have h1:(k:Int)>=0:=om
  have hlen:(prs W).length=2*n:=by rw[jH,hD]
  have hg1:∀ B:Blk,(hp.set b B)[b]?=some B:=fun B=>aD hb;have hss:∀ A B:Blk,(hp.set b A).set b B=hp.set b B:=fun A B=>bG ..;have hnl:¬ b < L:=om
  have q1:=iw W (i:=first) om;have q2:=iw W (i:=first+k) om;rw[bE] at q1 q2;have f1:(first:Int)+(k:Int)=((first+k:Nat):Int):=om
  have b1:0<=(first:Int)/\(first:Int) < (n:Int):=om
  have b2:0<=((first+k:Nat):Int)/\((first+k:Nat):Int) < (n:Int):=om
  have s1:first*2+2<=2*n:=om
  have s2:(first+k)*2+2<=2*n:=om
  have sw1:=uf W (i:=first) (j:=first+k) om om;rw[bE 2 first,bE 2 (first+k)] at sw1;simp only[putAt] at sw1;simp only[bG,fM,aN] at hs ih ⊢;rw[fC Am.eq_1,e1];refine⟨fr,?_⟩;simp(disch:=first|exact dis|fail) only[sy,simprocAttr,-List.reduceReplicate,hF.all,h1,f1,b1,b2,s1,s2,q1,q2,hg1,hss,hh,hlen,hnl,sw1,hs,ih]
theorem tc(hi first:Nat):∀ (k:Nat) (W:Array Pr),(Go.Sort.heapBuild ltP hi first k W).size=W.size
 | 0,W=>rfl
 | k+1,W=>by rw[Go.Sort.heapBuild,tc hi first k,qE hi first hi k W om]
theorem SZ{b g e n a be:Nat}{W:Array Pr}(hb:hp[b]?=some (.cells g true (prs W)))(hD:W.size=n)(hL:L<=b)(hh:H.contains b=false)(he:e=0\/e=2)(hn:n<=100000)(hab:a < be)(hbe:be<=n)(hF:Fit hp.length L H) :
  fS env (.func 270) [.slice (some ⟨b,0,some g⟩) n e,.int .i64 a,.int .i64 be,fM] ⟨hp,L,H,d⟩=some (.tuple #[],⟨hp.set b (.cells g true (prs (Go.Sort.heapSort ltP W a be))),L,H,d⟩):=by
 rw[fF 270 _ _ afX];have hbl:=(af.1 hb).1;obtain⟨fr,h,h9,h0,h10,h8,h3⟩:=CA (hp:=hp) (L:=L) (H:=H) (g:=g) (e:=e) (hi:=be - a) (first:=a) hbl hL hh he hn om hF ((be - a - 1) / 2+1) W hD om;obtain⟨fr2,hq⟩:=KD (hp:=hp) (L:=L) (H:=H) (g:=g) (e:=e) (first:=a) hbl hL hh he hn hF (be - a) (Go.Sort.heapBuild ltP (be - a) a ((be - a - 1) / 2+1) W) (by rw[tc,hD]) om;rw[jt hb] at h;have e1:(be:Int) - (a:Int)=((be - a:Nat):Int):=om
 have e2:((be - a:Nat):Int) - 1=((be - a - 1:Nat):Int):=om
 have e3:Int.tdiv ((be - a - 1:Nat):Int) 2=(((be - a - 1) / 2:Nat):Int):=by rw[cD om];omega
 have e4:(((be - a - 1) / 2+1:Nat):Int) - 1=(((be - a - 1) / 2:Nat):Int):=om
 rw[e4] at h;rw[e2] at hq;unfold Go.Sort.heapSort;simp only[fM] at h h3 hq ⊢;simp(disch:=first|exact dis|fail) only[sy,simprocAttr,-List.reduceReplicate,hF.all,Wz,e1,e2,e3,h,h9,h0,h10,h8,h3,hq]
end
end TtG
namespace TtH
open Go Go.RowKit AM fO LtA SyP TmM TsA TsB TsE TsI TsJ TtA TtB TtC TtD TtE TtF TtG Bt
section
variable{hp:List Blk}{L:Nat}{H d:List Nat}
theorem KE{b g e n x q s:Nat}{W:Array Pr}(hb:hp[b]?=some (.cells g true (prs W)))(hD:W.size=n)(hh:H.contains b=false)(he:e=0\/e=2)(hn:n<=100000)(hx:1<=x)(hx2:x+1 < n)
  (hq:hp[q]?=some (.cells 0 true [.int .i64 s])) (hqL:L<=q) (hqh:H.contains q=false) (hbq:b≠q) (hs:s<=90000) (hF:Fit hp.length L H) :
  fS env (.func 289) [.slice (some ⟨b,0,some g⟩) n e,.int .i64 x,.pointer (some ⟨q,0,some 0⟩),fM] ⟨hp,L,H,d⟩=some (.int .i64 (Go.Sort.medianAdjacent ltP W x s).1,⟨hp.set q (.cells 0 true [.int .i64 (Go.Sort.medianAdjacent ltP W x s).2]),L,H,d⟩):=by
 rw[fF 289 _ _ agc];have k:=fun d=>zc (d:=d) (x:=x - 1) (y:=x) (z:=x+1) hb hD hh he hn om om hx2 hq hqL hqh hbq hs hF;have e1:(x:Int) - 1=((x - 1:Nat):Int):=om
 unfold Go.Sort.medianAdjacent;simp only[fM,aC,aI] at k ⊢;simp(disch:=first|exact dis|fail) only[sy,simprocAttr,-List.reduceReplicate,hF.all,WH,e1,k]
end
end TtH
namespace TtI
open Go Go.RowKit AM fO LtA SyP TmM TsA TsB TsE TsI TsJ TtA TtB TtC TtD TtE TtF TtG TtH Bt
theorem KF{a b:Int} : o8 a b < 0↔a < b:=by
 unfold o8;split
 ·simp only[*];simp
 ·split<;>simp<;>omega
theorem EN{a b:Int} : o8 a b=0↔a=b:=by
 unfold o8;split
 ·simp;omega
 ·split<;>simp<;>omega
theorem Hf{p q:Pr} : ltP p q=true↔p.1 < q.1\/p.1=q.1/\p.2 < q.2:=by
 unfold ltP kT;rw[decide_eq_true_eq];by_cases h:o8 p.1 q.1=0
 ·rw[if_neg (by simpa using h),KF];have:=EN.1 h;omega
 ·rw[if_pos h,KF];have:p.1≠q.1:=fun e=>h (EN.2 e);omega
theorem PN{p q:Pr} : ltP p q=false↔¬ (p.1 < q.1\/p.1=q.1/\p.2 < q.2):=by rw[<- Hf];simp
theorem rM:Go.Sort.SWO ltP where
 irrefl x:=by rw[PN];omega
 trans x y z h1 h2:=by rw[Hf] at *;omega
 ntrans x y z h1 h2:=by rw[PN] at *;omega
theorem td:∀ (j:Nat) (W:Array Pr),(Go.Sort.shiftDown ltP j W).size=W.size
 | 0,W=>rfl
 | j+1,W=>by
  rw[Go.Sort.shiftDown];split
  ·rfl
  ·rw[td j,swp_size]
theorem rN(b:Nat):∀ (k j:Nat) (W:Array Pr),b - j<=k->(Go.Sort.shiftUp ltP b j W).size=W.size
 | 0,j,W,h=>by rw[Go.Sort.shiftUp,if_neg om]
 | k+1,j,W,h=>by
  rw[Go.Sort.shiftUp];split
  ·split
   ·rfl
   ·rw[rN b k _ _ om,swp_size]
  ·rfl
theorem uH(b:Nat)(W:Array Pr):∀ (k i:Nat),b - i<=k->i<=b->i<=Go.Sort.scanSorted ltP W b i/\Go.Sort.scanSorted ltP W b i<=b
 | 0,i,h,h2=>by
  rw[Go.Sort.scanSorted,if_neg (by simp;omega)];omega
 | k+1,i,h,h2=>by
  rw[Go.Sort.scanSorted];split
  ·rename_i hc;simp only[au,decide_eq_true_eq] at hc;have:=uH b W k (i+1) om om;omega
  ·omega
theorem uI(a:Nat):∀ (k i j:Nat) (W:Array Pr),j+1 - i<=k->(Go.Sort.partLoop ltP a i j W).2.size=W.size
 | k,i,j,W,h=>by
  rw[Go.Sort.partLoop_eq];split
  ·rfl
  ·rename_i hc;have g:=Go.Sort.partLoop_guard ltP a i j W hc;cases k with
   | zero=>omega
   | succ k=>rw[uI a k _ _ _ om,swp_size]
end TtI
namespace TtJ
open Go Go.RowKit AM fO LtA SyP TmM TsA TsB TsE TsI TsJ TtA TtB TtC TtD TtE TtF TtG TtH TtI Bt
def uJ:Go.Sort.Hint->Nat
 | .unknown=>0
 | .increasing=>1
 | .decreasing=>2
def EO(s:Nat):Go.Sort.Hint:=if s=0 then .increasing else if s=12 then .decreasing else .unknown
theorem th{W:Array Pr}{x y z s:Nat} : (Go.Sort.median ltP W x y z s).2<=s+3:=by unfold Go.Sort.median;have h1:=s9 (W:=W) (x:=x) (y:=y) (s:=s);have h2:=s9 (W:=W) (x:=(Go.Sort.order2 ltP W x y s).2.1) (y:=z) (s:=(Go.Sort.order2 ltP W x y s).2.2);have h3:=s9 (W:=W) (x:=(Go.Sort.order2 ltP W x y s).1) (y:=(Go.Sort.order2 ltP W (Go.Sort.order2 ltP W x y s).2.1 z (Go.Sort.order2 ltP W x y s).2.2).1) (s:=(Go.Sort.order2 ltP W (Go.Sort.order2 ltP W x y s).2.1 z (Go.Sort.order2 ltP W x y s).2.2).2.2);simp only;omega
section
variable{hp:List Blk}{L:Nat}{H d:List Nat}
theorem NK{b g e n a be:Nat}{W:Array Pr}(hb:hp[b]?=some (.cells g true (prs W)))(hD:W.size=n)(hh:H.contains b=false)(he:e=0\/e=2)(hn:n<=100000)(hab:a < be)(hbe:be<=n)(hF:Fit hp.length L H) :
  fS env (.func 272) [.slice (some ⟨b,0,some g⟩) n e,.int .i64 a,.int .i64 be,fM] ⟨hp,L,H,d⟩=some (.tuple #[.int .i64 (Go.Sort.choosePivot ltP W a be).1,.int .i64 (uJ (Go.Sort.choosePivot ltP W a be).2)],⟨hp,L,H,d⟩):=by
 rw[fF 272 _ _ afZ];have hbl:=(af.1 hb).1;have hbh:∀ B:Blk,(hp++[B])[b]?=some (.cells g true (prs W)):=fun B=>by rw[lT hbl];exact hb
 have iK:∀ A B:Blk,(hp++[A]).set hp.length B=hp++[B]:=fun A B=>gZ ..;have hF1:∀ B:Blk,Fit (hp++[B]).length L H:=fun B=>hF.mono (by simp);have kA:=fun(x s:Nat) (hx:1<=x) (hx2:x+1 < n) (hs:s<=90000) d=>KE (hp:=hp++[.cells 0 true [.int .i64 s]]) (d:=d) (q:=hp.length) (x:=x) (s:=s) (hbh _) hD hh he hn hx hx2 (gA ..) hF.1 hF.lS om hs (hF1 _);have kM:=fun(x y z s:Nat) (hx:x < n) (hy:y < n) (hz:z < n) (hs:s<=90000) d=>zc (hp:=hp++[.cells 0 true [.int .i64 s]]) (d:=d) (q:=hp.length) (x:=x) (y:=y) (z:=z) (s:=s) (hbh _) hD hh he hn hx hy hz (gA ..) hF.1 hF.lS om hs (hF1 _);simp only[iK,fM] at kA kM;have e1:(be:Int) - (a:Int)=((be - a:Nat):Int):=om
 have e2:Int.tdiv ((be - a:Nat):Int) 4=(((be - a) / 4:Nat):Int):=by rw[cD om];omega
 have ei:(a:Int)+((((be - a) / 4:Nat)):Int)=((a+(be - a) / 4*1:Nat):Int):=om
 have ej:(a:Int)+((((be - a) / 4:Nat)):Int)*2=((a+(be - a) / 4*2:Nat):Int):=om
 have ek:(a:Int)+((((be - a) / 4:Nat)):Int)*3=((a+(be - a) / 4*3:Nat):Int):=om
 have hi:a+(be - a) / 4*1 < n:=om
 have hj:a+(be - a) / 4*2 < n:=om
 have hk:a+(be - a) / 4*3 < n:=om
 have b1:((be - a) / 4:Nat)<=100000:=om
 have b2:be - a<=100000:=om
 by_cases h8:be - a>=8
 ·have g8:((be - a:Nat):Int)>=8:=om
  by_cases h50:be - a>=50
  ·have g50:((be - a:Nat):Int)>=50:=om
   have DA:Go.Sort.choosePivot ltP W a be=(let ri:=Go.Sort.medianAdjacent ltP W (a+(be - a) / 4*1) 0
    let rj:=Go.Sort.medianAdjacent ltP W (a+(be - a) / 4*2) ri.2;let rk:=Go.Sort.medianAdjacent ltP W (a+(be - a) / 4*3) rj.2;let r:=Go.Sort.median ltP W ri.1 rj.1 rk.1 rk.2
    (r.1,EO r.2)):=by unfold Go.Sort.choosePivot;simp only[if_pos h8,if_pos h50];rfl
   rw[DA];clear DA;simp only;generalize hx:a+(be - a) / 4*1=x at *;generalize hy:a+(be - a) / 4*2=y at *;generalize hz:a+(be - a) / 4*3=z at *;have m1:=kA x 0 om om om;have t1:(Go.Sort.medianAdjacent ltP W x 0).2<=0+3:=th;have u1:=Go.Sort.medianAdjacent_mem ltP W x 0;generalize Go.Sort.medianAdjacent ltP W x 0=r1 at *;obtain⟨x1,s1⟩:=r1;simp only at t1 u1 m1 ⊢;have m2:=kA y s1 om om om;have t2:(Go.Sort.medianAdjacent ltP W y s1).2<=s1+3:=th;have u2:=Go.Sort.medianAdjacent_mem ltP W y s1;generalize Go.Sort.medianAdjacent ltP W y s1=r2 at *;obtain⟨y1,s2⟩:=r2;simp only at t2 u2 m2 ⊢;have m3:=kA z s2 om om om;have t3:(Go.Sort.medianAdjacent ltP W z s2).2<=s2+3:=th;have u3:=Go.Sort.medianAdjacent_mem ltP W z s2;generalize Go.Sort.medianAdjacent ltP W z s2=r3 at *;obtain⟨z1,s3⟩:=r3;simp only at t3 u3 m3 ⊢;have m4:=kM x1 y1 z1 s3 om om om om;have t4:(Go.Sort.median ltP W x1 y1 z1 s3).2<=s3+3:=th;generalize Go.Sort.median ltP W x1 y1 z1 s3=r4 at *;obtain⟨w,s4⟩:=r4;simp only[aN] at t4 m1 m2 m3 m4 ⊢;clear kA kM;by_cases z0:s4=0
   ·subst z0;simp only[aN] at m4;simp(disch:=first|exact dis|fail) only[sy,simprocAttr,-List.reduceReplicate,hF.all,yW,fM,e1,e2,ei,ej,ek,g8,g50,m1,m2,m3,m4];rfl
   ·have y0:¬ (s4:Int)=0:=om
    by_cases z2:s4=12
    ·subst z2;simp(disch:=first|exact dis|fail) only[sy,simprocAttr,-List.reduceReplicate,hF.all,yW,fM,e1,e2,ei,ej,ek,g8,g50,m1,m2,m3,m4];rfl
    ·have y2:¬ (s4:Int)=12:=om
     have hs:EO s4=.unknown:=by unfold EO;rw[if_neg z0,if_neg z2]
     rw[hs];simp(disch:=first|exact dis|fail) only[sy,simprocAttr,-List.reduceReplicate,hF.all,yW,fM,e1,e2,ei,ej,ek,g8,g50,m1,m2,m3,m4,y0,y2];rfl
  ·have g50:¬ ((be - a:Nat):Int)>=50:=om
   have DA:Go.Sort.choosePivot ltP W a be=(let r:=Go.Sort.median ltP W (a+(be - a) / 4*1) (a+(be - a) / 4*2) (a+(be - a) / 4*3) 0
    (r.1,EO r.2)):=by unfold Go.Sort.choosePivot;simp only[if_pos h8,if_neg h50];rfl
   rw[DA];clear DA;simp only;generalize hx:a+(be - a) / 4*1=x at *;generalize hy:a+(be - a) / 4*2=y at *;generalize hz:a+(be - a) / 4*3=z at *;have m4:=kM x y z 0 om om om om;have t4:(Go.Sort.median ltP W x y z 0).2<=0+3:=th;generalize Go.Sort.median ltP W x y z 0=r4 at *;obtain⟨w,s4⟩:=r4;simp only[aN] at t4 m4 ⊢;clear kA kM;by_cases z0:s4=0
   ·subst z0;simp only[aN] at m4;simp(disch:=first|exact dis|fail) only[sy,simprocAttr,-List.reduceReplicate,hF.all,yW,fM,e1,e2,ei,ej,ek,g8,g50,m4];rfl
   ·have y0:¬ (s4:Int)=0:=om
    have z2:¬ s4=12:=om
    have y2:¬ (s4:Int)=12:=om
    have hs:EO s4=.unknown:=by unfold EO;rw[if_neg z0,if_neg z2]
    rw[hs];simp(disch:=first|exact dis|fail) only[sy,simprocAttr,-List.reduceReplicate,hF.all,yW,fM,e1,e2,ei,ej,ek,g8,g50,m4,y0,y2];rfl
 ·have g8:¬ ((be - a:Nat):Int)>=8:=om
  have DA:Go.Sort.choosePivot ltP W a be=(a+(be - a) / 4*2,.increasing):=by unfold Go.Sort.choosePivot;simp only[if_neg h8];rfl
  rw[DA];clear DA kA kM;simp only;simp(disch:=first|exact dis|fail) only[sy,simprocAttr,-List.reduceReplicate,hF.all,yW,fM,e1,e2,ei,ej,ek,g8];rfl
end
end TtJ
namespace TtK
open Go Go.RowKit AM fO LtA SyP TmM TsA TsB TsE TsI TsJ TtA TtB TtC TtD TtE TtF TtG TtH TtI TtJ Bt
section
variable{hp:List Blk}{L:Nat}{H d:List Nat}
theorem up4{b g e n a j:Nat}{W:Array Pr}(hb:hp[b]?=some (.cells g true (prs W)))(hD:W.size=n)(hh:H.contains b=false)(he:e=0\/e=2)(hn:n<=100000)(ha:a < n)(hj:j < n)(hF:Fit hp.length L H):∀ (k i:Nat),j+1 - i<=k->i<=200000->∃ fr,
  fW env GV [12,4,1,0,13] hp.length [(12,.int .i64 i),(4,fM),(1,.int .i64 a),(0,.slice (some ⟨b,0,some g⟩) n e),(13,.int .i64 j)] ⟨hp,L,H,[]⟩
   = some (.exit 0,fr,⟨hp,L,H,[]⟩)/\fr.get 12=some (.int .i64 (Go.Sort.scanUp (fun x=>ltP x W[a]!) W j i:Nat))/\fr.get 4=some (fM)/\fr.get 1=some (.int .i64 a)/\fr.get 0=some ((.slice (some ⟨b,0,some g⟩) n e))/\fr.get 13=some (.int .i64 j)
 | k,i,hk,hi=>by
  rw[Go.Sort.scanUp,fC GV.eq_1];by_cases hij:i<=j
  ·cases k with
   | zero=>omega
   | succ k=>
   have h1:(i:Int)<=(j:Int):=om
   have hl:=fun p q hp L H d hF=>jj (hp:=hp) (L:=L) (H:=H) (d:=d) p q hF;have hlen:(prs W).length=2*n:=by rw[jH,hD]
   have r1:=iw W (i:=i) om;have r0:=iw W (i:=a) om;have h2:0<=((i:Nat):Int)/\((i:Nat):Int) < (n:Int):=om
   have h3:0<=(a:Int)/\(a:Int) < (n:Int):=om
   have s1:(i)*2+2<=2*n:=om
   have s0:a*2+2<=2*n:=om
   rw[bE] at r1 r0;by_cases hlt:ltP W[i]! W[a]! = true
   ·have hc:kT W[i]! W[a]! < 0:=of_decide_eq_true hlt;obtain⟨fr,ih,ih2⟩:=up4 hb hD hh he hn ha hj hF k (i+1) om om;simp only[aC,aI] at ih;rw[if_pos (by show(decide (i<=j)&&ltP W[i]! W[a]!)=true;rw[hlt,decide_eq_true hij];rfl)];refine⟨fr,?_,ih2⟩;simp only[fM] at ih ⊢;simp(disch:=first|exact dis|fail) only[sy,simprocAttr,-List.reduceReplicate,hF.all,h1,h2,h3,hb,hh,hlen,r1,r0,s1,s0,hl,hc,ih]
   ·have hc:¬ kT W[i]! W[a]! < 0:=fun h=>hlt (decide_eq_true h);replace hlt:ltP W[i]! W[a]! = false:=by simpa using hlt
    rw[if_neg (by show ¬ (decide (i<=j)&&ltP W[i]! W[a]!)=true;rw[hlt];simp)];simp only[fM];simp(disch:=first|exact dis|fail) only[sy,simprocAttr,-List.reduceReplicate,hF.all,h1,h2,h3,hb,hh,hlen,r1,r0,s1,s0,hl,hc];exact⟨_,rfl,rfl,rfl,rfl,rfl,rfl⟩
  ·have h1:¬ (i:Int)<=(j:Int):=om
   rw[if_neg (by rw[decide_eq_false hij];simp)];simp(disch:=first|exact dis|fail) only[sy,simprocAttr,-List.reduceReplicate,hF.all,h1];exact⟨_,rfl,rfl,rfl,rfl,rfl,rfl⟩
theorem abX{b g e n a i:Nat}{W:Array Pr}(hb:hp[b]?=some (.cells g true (prs W)))(hD:W.size=n)(hh:H.contains b=false)(he:e=0\/e=2)(hn:n<=100000)(ha:a < n)(hi:a < i)(hF:Fit hp.length L H):∀ (j:Nat),j < n->∃ fr,
  fW env Aw [13,0,1,12,4] hp.length [(13,.int .i64 j),(0,.slice (some ⟨b,0,some g⟩) n e),(1,.int .i64 a),(12,.int .i64 i),(4,fM)] ⟨hp,L,H,[]⟩
   = some (.exit 2,fr,⟨hp,L,H,[]⟩)/\fr.get 12=some (.int .i64 i)/\fr.get 4=some (fM)/\fr.get 1=some (.int .i64 a)/\fr.get 0=some ((.slice (some ⟨b,0,some g⟩) n e))/\fr.get 13=some (.int .i64 (Go.Sort.scanDown (fun x=>!ltP x W[a]!) W i j:Nat))
 | 0,hj=>by
  have h1:¬ (i:Int)<=0:=om
  rw[fC Aw.eq_1];simp only[aN,Go.Sort.scanDown];simp(disch:=first|exact dis|fail) only[sy,simprocAttr,-List.reduceReplicate,hF.all,h1];exact⟨_,rfl,rfl,rfl,rfl,rfl,rfl⟩
 | j+1,hj=>by
  rw[Go.Sort.scanDown,fC Aw.eq_1];by_cases hij:i<=j+1
  ·have h1:(i:Int)<=((j+1:Nat):Int):=om
   have e1:((j+1:Nat):Int) - 1=(j:Int):=om
   have hl:=fun p q hp L H d hF=>jj (hp:=hp) (L:=L) (H:=H) (d:=d) p q hF;have hlen:(prs W).length=2*n:=by rw[jH,hD]
   have r1:=iw W (i:=j+1) om;have r0:=iw W (i:=a) om;have h2:0<=((j+1:Nat):Int)/\((j+1:Nat):Int) < (n:Int):=om
   have h3:0<=(a:Int)/\(a:Int) < (n:Int):=om
   have s1:(j+1)*2+2<=2*n:=om
   have s0:a*2+2<=2*n:=om
   rw[bE] at r1 r0;by_cases hlt:ltP W[j+1]! W[a]! = true
   ·have hc:kT W[j+1]! W[a]! < 0:=of_decide_eq_true hlt;rw[if_neg (by show ¬ (decide (i<=j+1)&&!ltP W[j+1]! W[a]!)=true;rw[hlt];simp)];simp only[fM];simp(disch:=first|exact dis|fail) only[sy,simprocAttr,-List.reduceReplicate,hF.all,h1,h2,h3,e1,hb,hh,hlen,r1,r0,s1,s0,hl,hc];exact⟨_,rfl,rfl,rfl,rfl,rfl,rfl⟩
   ·have hc:¬ kT W[j+1]! W[a]! < 0:=fun h=>hlt (decide_eq_true h);replace hlt:ltP W[j+1]! W[a]! = false:=by simpa using hlt
    obtain⟨fr,ih,ih2⟩:=abX hb hD hh he hn ha hi hF j om;rw[if_pos (by show(decide (i<=j+1)&&!ltP W[j+1]! W[a]!)=true;rw[hlt,decide_eq_true hij];rfl)];refine⟨fr,?_,ih2⟩;simp only[fM] at ih ⊢;simp(disch:=first|exact dis|fail) only[sy,simprocAttr,-List.reduceReplicate,hF.all,h1,h2,h3,e1,hb,hh,hlen,r1,r0,s1,s0,hl,hc,ih]
  ·have h1:¬ (i:Int)<=((j+1:Nat):Int):=om
   rw[if_neg (by rw[decide_eq_false hij];simp)];simp(disch:=first|exact dis|fail) only[sy,simprocAttr,-List.reduceReplicate,hF.all,h1];exact⟨_,rfl,rfl,rfl,rfl,rfl,rfl⟩
theorem up1{b g e n a j:Nat}{W:Array Pr}(hb:hp[b]?=some (.cells g true (prs W)))(hD:W.size=n)(hh:H.contains b=false)(he:e=0\/e=2)(hn:n<=100000)(ha:a < n)(hj:j < n)(hF:Fit hp.length L H):∀ (k i:Nat),j+1 - i<=k->i<=200000->∃ fr,
  fW env GU [12,4,1,0,13] hp.length [(12,.int .i64 i),(4,fM),(1,.int .i64 a),(0,.slice (some ⟨b,0,some g⟩) n e),(13,.int .i64 j)] ⟨hp,L,H,[]⟩
   = some (.exit 6,fr,⟨hp,L,H,[]⟩)/\fr.get 12=some (.int .i64 (Go.Sort.scanUp (fun x=>ltP x W[a]!) W j i:Nat))/\fr.get 4=some (fM)/\fr.get 1=some (.int .i64 a)/\fr.get 0=some ((.slice (some ⟨b,0,some g⟩) n e))/\fr.get 13=some (.int .i64 j)
 | k,i,hk,hi=>by
  rw[Go.Sort.scanUp,fC GU.eq_1];by_cases hij:i<=j
  ·cases k with
   | zero=>omega
   | succ k=>
   have h1:(i:Int)<=(j:Int):=om
   have hl:=fun p q hp L H d hF=>jj (hp:=hp) (L:=L) (H:=H) (d:=d) p q hF;have hlen:(prs W).length=2*n:=by rw[jH,hD]
   have r1:=iw W (i:=i) om;have r0:=iw W (i:=a) om;have h2:0<=((i:Nat):Int)/\((i:Nat):Int) < (n:Int):=om
   have h3:0<=(a:Int)/\(a:Int) < (n:Int):=om
   have s1:(i)*2+2<=2*n:=om
   have s0:a*2+2<=2*n:=om
   rw[bE] at r1 r0;by_cases hlt:ltP W[i]! W[a]! = true
   ·have hc:kT W[i]! W[a]! < 0:=of_decide_eq_true hlt;obtain⟨fr,ih,ih2⟩:=up1 hb hD hh he hn ha hj hF k (i+1) om om;simp only[aC,aI] at ih;rw[if_pos (by show(decide (i<=j)&&ltP W[i]! W[a]!)=true;rw[hlt,decide_eq_true hij];rfl)];refine⟨fr,?_,ih2⟩;simp only[fM] at ih ⊢;simp(disch:=first|exact dis|fail) only[sy,simprocAttr,-List.reduceReplicate,hF.all,h1,h2,h3,hb,hh,hlen,r1,r0,s1,s0,hl,hc,ih]
   ·have hc:¬ kT W[i]! W[a]! < 0:=fun h=>hlt (decide_eq_true h);replace hlt:ltP W[i]! W[a]! = false:=by simpa using hlt
    rw[if_neg (by show ¬ (decide (i<=j)&&ltP W[i]! W[a]!)=true;rw[hlt];simp)];simp only[fM];simp(disch:=first|exact dis|fail) only[sy,simprocAttr,-List.reduceReplicate,hF.all,h1,h2,h3,hb,hh,hlen,r1,r0,s1,s0,hl,hc];exact⟨_,rfl,rfl,rfl,rfl,rfl,rfl⟩
  ·have h1:¬ (i:Int)<=(j:Int):=om
   rw[if_neg (by rw[decide_eq_false hij];simp)];simp(disch:=first|exact dis|fail) only[sy,simprocAttr,-List.reduceReplicate,hF.all,h1];exact⟨_,rfl,rfl,rfl,rfl,rfl,rfl⟩
theorem abY{b g e n a i:Nat}{W:Array Pr}(hb:hp[b]?=some (.cells g true (prs W)))(hD:W.size=n)(hh:H.contains b=false)(he:e=0\/e=2)(hn:n<=100000)(ha:a < n)(hi:a < i)(hF:Fit hp.length L H):∀ (j:Nat),j < n->∃ fr,
  fW env Au [13,0,1,12,4] hp.length [(13,.int .i64 j),(0,.slice (some ⟨b,0,some g⟩) n e),(1,.int .i64 a),(12,.int .i64 i),(4,fM)] ⟨hp,L,H,[]⟩
   = some (.exit 8,fr,⟨hp,L,H,[]⟩)/\fr.get 12=some (.int .i64 i)/\fr.get 4=some (fM)/\fr.get 1=some (.int .i64 a)/\fr.get 0=some ((.slice (some ⟨b,0,some g⟩) n e))/\fr.get 13=some (.int .i64 (Go.Sort.scanDown (fun x=>!ltP x W[a]!) W i j:Nat))
 | 0,hj=>by
  have h1:¬ (i:Int)<=0:=om
  rw[fC Au.eq_1];simp only[aN,Go.Sort.scanDown];simp(disch:=first|exact dis|fail) only[sy,simprocAttr,-List.reduceReplicate,hF.all,h1];exact⟨_,rfl,rfl,rfl,rfl,rfl,rfl⟩
 | j+1,hj=>by
  rw[Go.Sort.scanDown,fC Au.eq_1];by_cases hij:i<=j+1
  ·have h1:(i:Int)<=((j+1:Nat):Int):=om
   have e1:((j+1:Nat):Int) - 1=(j:Int):=om
   have hl:=fun p q hp L H d hF=>jj (hp:=hp) (L:=L) (H:=H) (d:=d) p q hF;have hlen:(prs W).length=2*n:=by rw[jH,hD]
   have r1:=iw W (i:=j+1) om;have r0:=iw W (i:=a) om;have h2:0<=((j+1:Nat):Int)/\((j+1:Nat):Int) < (n:Int):=om
   have h3:0<=(a:Int)/\(a:Int) < (n:Int):=om
   have s1:(j+1)*2+2<=2*n:=om
   have s0:a*2+2<=2*n:=om
   rw[bE] at r1 r0;by_cases hlt:ltP W[j+1]! W[a]! = true
   ·have hc:kT W[j+1]! W[a]! < 0:=of_decide_eq_true hlt;rw[if_neg (by show ¬ (decide (i<=j+1)&&!ltP W[j+1]! W[a]!)=true;rw[hlt];simp)];simp only[fM];simp(disch:=first|exact dis|fail) only[sy,simprocAttr,-List.reduceReplicate,hF.all,h1,h2,h3,e1,hb,hh,hlen,r1,r0,s1,s0,hl,hc];exact⟨_,rfl,rfl,rfl,rfl,rfl,rfl⟩
   ·have hc:¬ kT W[j+1]! W[a]! < 0:=fun h=>hlt (decide_eq_true h);replace hlt:ltP W[j+1]! W[a]! = false:=by simpa using hlt
    obtain⟨fr,ih,ih2⟩:=abY hb hD hh he hn ha hi hF j om;rw[if_pos (by show(decide (i<=j+1)&&!ltP W[j+1]! W[a]!)=true;rw[hlt,decide_eq_true hij];rfl)];refine⟨fr,?_,ih2⟩;simp only[fM] at ih ⊢;simp(disch:=first|exact dis|fail) only[sy,simprocAttr,-List.reduceReplicate,hF.all,h1,h2,h3,e1,hb,hh,hlen,r1,r0,s1,s0,hl,hc,ih]
  ·have h1:¬ (i:Int)<=((j+1:Nat):Int):=om
   rw[if_neg (by rw[decide_eq_false hij];simp)];simp(disch:=first|exact dis|fail) only[sy,simprocAttr,-List.reduceReplicate,hF.all,h1];exact⟨_,rfl,rfl,rfl,rfl,rfl,rfl⟩
theorem agk{b g e n a j:Nat}{W:Array Pr}(hb:hp[b]?=some (.cells g true (prs W)))(hD:W.size=n)(hh:H.contains b=false)(he:e=0\/e=2)(hn:n<=100000)(ha:a < n)(hj:j < n)(hF:Fit hp.length L H):∀ (k i:Nat),j+1 - i<=k->i<=200000->∃ fr,
  fW env GS [11,0,1,4,12] hp.length [(11,.int .i64 i),(0,.slice (some ⟨b,0,some g⟩) n e),(1,.int .i64 a),(4,fM),(12,.int .i64 j)] ⟨hp,L,H,[]⟩
   = some (.exit 2,fr,⟨hp,L,H,[]⟩)/\fr.get 11=some (.int .i64 (Go.Sort.scanUp (fun x=>!ltP W[a]! x) W j i:Nat))/\fr.get 4=some (fM)/\fr.get 1=some (.int .i64 a)/\fr.get 0=some ((.slice (some ⟨b,0,some g⟩) n e))/\fr.get 12=some (.int .i64 j)
 | k,i,hk,hi=>by
  rw[Go.Sort.scanUp,fC GS.eq_1];by_cases hij:i<=j
  ·cases k with
   | zero=>omega
   | succ k=>
   have h1:(i:Int)<=(j:Int):=om
   have hl:=fun p q hp L H d hF=>jj (hp:=hp) (L:=L) (H:=H) (d:=d) p q hF;have hlen:(prs W).length=2*n:=by rw[jH,hD]
   have r1:=iw W (i:=i) om;have r0:=iw W (i:=a) om;have h2:0<=((i:Nat):Int)/\((i:Nat):Int) < (n:Int):=om
   have h3:0<=(a:Int)/\(a:Int) < (n:Int):=om
   have s1:(i)*2+2<=2*n:=om
   have s0:a*2+2<=2*n:=om
   rw[bE] at r1 r0;by_cases hlt:ltP W[a]! W[i]! = true
   ·have hc:kT W[a]! W[i]! < 0:=of_decide_eq_true hlt;rw[if_neg (by show ¬ (decide (i<=j)&&!ltP W[a]! W[i]!)=true;rw[hlt];simp)];simp only[fM];simp(disch:=first|exact dis|fail) only[sy,simprocAttr,-List.reduceReplicate,hF.all,h1,h2,h3,hb,hh,hlen,r1,r0,s1,s0,hl,hc];exact⟨_,rfl,rfl,rfl,rfl,rfl,rfl⟩
   ·have hc:¬ kT W[a]! W[i]! < 0:=fun h=>hlt (decide_eq_true h);replace hlt:ltP W[a]! W[i]! = false:=by simpa using hlt
    obtain⟨fr,ih,ih2⟩:=agk hb hD hh he hn ha hj hF k (i+1) om om;simp only[aC,aI] at ih;rw[if_pos (by show(decide (i<=j)&&!ltP W[a]! W[i]!)=true;rw[hlt,decide_eq_true hij];rfl)];refine⟨fr,?_,ih2⟩;simp only[fM] at ih ⊢;simp(disch:=first|exact dis|fail) only[sy,simprocAttr,-List.reduceReplicate,hF.all,h1,h2,h3,hb,hh,hlen,r1,r0,s1,s0,hl,hc,ih]
  ·have h1:¬ (i:Int)<=(j:Int):=om
   rw[if_neg (by rw[decide_eq_false hij];simp)];simp(disch:=first|exact dis|fail) only[sy,simprocAttr,-List.reduceReplicate,hF.all,h1];exact⟨_,rfl,rfl,rfl,rfl,rfl,rfl⟩
theorem Xe{b g e n a i:Nat}{W:Array Pr}(hb:hp[b]?=some (.cells g true (prs W)))(hD:W.size=n)(hh:H.contains b=false)(he:e=0\/e=2)(hn:n<=100000)(ha:a < n)(hi:a < i)(hF:Fit hp.length L H):∀ (j:Nat),j < n->∃ fr,
  fW env Ar [12,11,4,1,0] hp.length [(12,.int .i64 j),(11,.int .i64 i),(4,fM),(1,.int .i64 a),(0,.slice (some ⟨b,0,some g⟩) n e)] ⟨hp,L,H,[]⟩
   = some (.exit 4,fr,⟨hp,L,H,[]⟩)/\fr.get 11=some (.int .i64 i)/\fr.get 4=some (fM)/\fr.get 1=some (.int .i64 a)/\fr.get 0=some ((.slice (some ⟨b,0,some g⟩) n e))/\fr.get 12=some (.int .i64 (Go.Sort.scanDown (fun x=>ltP W[a]! x) W i j:Nat))
 | 0,hj=>by
  have h1:¬ (i:Int)<=0:=om
  rw[fC Ar.eq_1];simp only[aN,Go.Sort.scanDown];simp(disch:=first|exact dis|fail) only[sy,simprocAttr,-List.reduceReplicate,hF.all,h1];exact⟨_,rfl,rfl,rfl,rfl,rfl,rfl⟩
 | j+1,hj=>by
  rw[Go.Sort.scanDown,fC Ar.eq_1];by_cases hij:i<=j+1
  ·have h1:(i:Int)<=((j+1:Nat):Int):=om
   have e1:((j+1:Nat):Int) - 1=(j:Int):=om
   have hl:=fun p q hp L H d hF=>jj (hp:=hp) (L:=L) (H:=H) (d:=d) p q hF;have hlen:(prs W).length=2*n:=by rw[jH,hD]
   have r1:=iw W (i:=j+1) om;have r0:=iw W (i:=a) om;have h2:0<=((j+1:Nat):Int)/\((j+1:Nat):Int) < (n:Int):=om
   have h3:0<=(a:Int)/\(a:Int) < (n:Int):=om
   have s1:(j+1)*2+2<=2*n:=om
   have s0:a*2+2<=2*n:=om
   rw[bE] at r1 r0;by_cases hlt:ltP W[a]! W[j+1]! = true
   ·have hc:kT W[a]! W[j+1]! < 0:=of_decide_eq_true hlt;obtain⟨fr,ih,ih2⟩:=Xe hb hD hh he hn ha hi hF j om;rw[if_pos (by show(decide (i<=j+1)&&ltP W[a]! W[j+1]!)=true;rw[hlt,decide_eq_true hij];rfl)];refine⟨fr,?_,ih2⟩;simp only[fM] at ih ⊢;simp(disch:=first|exact dis|fail) only[sy,simprocAttr,-List.reduceReplicate,hF.all,h1,h2,h3,e1,hb,hh,hlen,r1,r0,s1,s0,hl,hc,ih]
   ·have hc:¬ kT W[a]! W[j+1]! < 0:=fun h=>hlt (decide_eq_true h);replace hlt:ltP W[a]! W[j+1]! = false:=by simpa using hlt
    rw[if_neg (by show ¬ (decide (i<=j+1)&&ltP W[a]! W[j+1]!)=true;rw[hlt];simp)];simp only[fM];simp(disch:=first|exact dis|fail) only[sy,simprocAttr,-List.reduceReplicate,hF.all,h1,h2,h3,e1,hb,hh,hlen,r1,r0,s1,s0,hl,hc];exact⟨_,rfl,rfl,rfl,rfl,rfl,rfl⟩
  ·have h1:¬ (i:Int)<=((j+1:Nat):Int):=om
   rw[if_neg (by rw[decide_eq_false hij];simp)];simp(disch:=first|exact dis|fail) only[sy,simprocAttr,-List.reduceReplicate,hF.all,h1];exact⟨_,rfl,rfl,rfl,rfl,rfl,rfl⟩
end
end TtK
namespace TtL
open Go Go.RowKit AM fO LtA SyP TmM TsA TsB TsE TsI TsJ TtA TtB TtC TtD TtE TtF TtG TtH TtI TtJ TtK Bt
section
variable{hp:List Blk}{L:Nat}{H d:List Nat}
theorem iM{n x y:Nat}{W:Array Pr}(hD:W.size=n)(hx:x < n)(hy:y < n) :
  ((prs W).drop (x*2)).take 2=[.int .i64 W[x]!.1,.int .i64 W[x]!.2]/\((prs W).drop (y*2)).take 2=[.int .i64 W[y]!.1,.int .i64 W[y]!.2]/\(0<=(x:Int)/\(x:Int) < (n:Int))/\(0<=(y:Int)/\(y:Int) < (n:Int))/\x*2+2<=2*n/\y*2+2<=2*n
  /\ (prs W).length=2*n:=by have r1:=iw W (i:=x) om;have r0:=iw W (i:=y) om;rw[bE] at r1 r0;exact⟨r1,r0,om,om,om,om,by rw[jH,hD]⟩
theorem kB{n x y:Nat}{W:Array Pr}(hD:W.size=n)(hx:x < n)(hy:y < n):putAt (putAt (prs W) (x*2) [.int .i64 W[y]!.1,.int .i64 W[y]!.2]) (y*2) [.int .i64 W[x]!.1,.int .i64 W[x]!.2]=prs (Go.Sort.swp W x y):=by have:=uf W (i:=x) (j:=y) om om;rwa [bE 2 x,bE 2 y] at this
theorem ze(a:Nat):∀ (k i j:Nat) (W:Array Pr),j+1 - i<=k->(Go.Sort.partLoop ltP a i j W).1<=j
 | k,i,j,W,h=>by
  rw[Go.Sort.partLoop_eq];have h2:=Go.Sort.scanDown_le (fun x=>!ltP x W[a]!) W (Go.Sort.scanUp (fun x=>ltP x W[a]!) W j i) j;split
  ·exact h2
  ·rename_i hc;have g:=Go.Sort.partLoop_guard ltP a i j W hc;cases k with
   | zero=>omega
   | succ k=>
    have:=ze a k _ _ (Go.Sort.swp W (Go.Sort.scanUp (fun x=>ltP x W[a]!) W j i) (Go.Sort.scanDown (fun x=>!ltP x W[a]!) W (Go.Sort.scanUp (fun x=>ltP x W[a]!) W j i) j)) (Nat.le_of_lt_succ (bg g h));omega
theorem EP{b g e a n:Nat}(hb:b < hp.length)(hL:L<=b)(hh:H.contains b=false)(he:e=0\/e=2)(hn:n<=100000)(ha:a < n)(hF:Fit hp.length L H):∀ (k i j:Nat) (W:Array Pr),W.size=n->j+1 - i<=k->a < i->i<=n+1->j < n->∃ fr,
  fW env Av [12,4,1,0,13] hp.length [(12,.int .i64 i),(4,fM),(1,.int .i64 a),(0,.slice (some ⟨b,0,some g⟩) n e),(13,.int .i64 j)] ⟨hp.set b (.cells g true (prs W)),L,H,[]⟩
   = some (.exit 4,fr,⟨hp.set b (.cells g true (prs (Go.Sort.partLoop ltP a i j W).2)),L,H,[]⟩)/\fr.get 13=some (.int .i64 ((Go.Sort.partLoop ltP a i j W).1:Nat))/\fr.get 0=some (.slice (some ⟨b,0,some g⟩) n e)/\fr.get 1=some (.int .i64 a)
 | k,i,j,W,hD,hk,hai,hin,hj=>by
  have hg1:∀ B:Blk,(hp.set b B)[b]?=some B:=fun B=>aD hb;have hss:∀ A B:Blk,(hp.set b A).set b B=hp.set b B:=fun A B=>bG ..;have hnl:¬ b < L:=om
  have hl2:∀ B:Blk,(hp.set b B).length=hp.length:=fun B=>aG ..;have G:=Go.Sort.partLoop_guard ltP a i j W;rw[Go.Sort.partLoop_eq];obtain⟨fu,u0,u1,u2,u3,u4,u5⟩:=up1 (hp:=hp.set b (.cells g true (prs W))) (L:=L) (H:=H) (g:=g) (e:=e) (a:=a) (j:=j) (hg1 _) hD hh he hn ha hj (by rw[hl2];exact hF) (j+1 - i) i (av _) om;have hge:=Go.Sort.scanUp_ge (fun x=>ltP x W[a]!) W j i;generalize Go.Sort.scanUp (fun x=>ltP x W[a]!) W j i=i2 at *;obtain⟨fd,d0,d1,d2,d3,d4,d5⟩:=abY (hp:=hp.set b (.cells g true (prs W))) (L:=L) (H:=H) (g:=g) (e:=e) (a:=a) (i:=i2) (hg1 _) hD hh he hn ha om (by rw[hl2];exact hF) j hj;have hle:=Go.Sort.scanDown_le (fun x=>!ltP x W[a]!) W i2 j;generalize Go.Sort.scanDown (fun x=>!ltP x W[a]!) W i2 j=j2 at *;simp only[hl2,fM] at u0 u2 d0 d2 ⊢;by_cases hij:i2 > j2
  ·have h1:(i2:Int) > (j2:Int):=om
   rw[if_pos hij,fC Av.eq_1];simp(disch:=first|exact dis|fail) only[sy,simprocAttr,-List.reduceReplicate,hF.all,u0,u1,u2,u3,u4,u5,d0,d1,d2,d3,d4,d5,h1];exact⟨_,rfl,by assumption,by assumption,by assumption⟩
  ·have h1:¬ (i2:Int) > (j2:Int):=om
   replace G:=G hij;cases k with
   | zero=>omega
   | succ k=>
    obtain⟨fr,ih,ih2⟩:=EP (g:=g) (e:=e) hb hL hh he hn ha hF k (i2+1) (j2 - 1) (Go.Sort.swp W i2 j2) (by rw[swp_size,hD]) om om om om;obtain⟨w1,w2,w3,w4,w5,w6,w7⟩:=iM hD (x:=i2) (y:=j2) om om;have sw:=kB hD (x:=i2) (y:=j2) om om;simp only[putAt] at sw;have e1:(j2:Int) - 1=((j2 - 1:Nat):Int):=om
    rw[if_neg hij,fC Av.eq_1];refine⟨fr,?_,ih2⟩;simp only[aC,aI,fM] at ih;simp(disch:=first|exact dis|fail) only[sy,simprocAttr,-List.reduceReplicate,hF.all,u0,u1,u2,u3,u4,u5,d0,d1,d2,d3,d4,d5,h1,e1,hg1,hss,hh,hnl,w1,w2,w3,w4,w5,w6,w7,sw,ih]
theorem zf{b g e a n:Nat}(hb:b < hp.length)(hL:L<=b)(hh:H.contains b=false)(he:e=0\/e=2)(hn:n<=100000)(ha:a < n)(hF:Fit hp.length L H):∀ (k i j:Nat) (W:Array Pr),W.size=n->j+1 - i<=k->a < i->i<=n+1->j < n->∃ fr,
  fW env As [11,4,1,0,12] hp.length [(11,.int .i64 i),(4,fM),(1,.int .i64 a),(0,.slice (some ⟨b,0,some g⟩) n e),(12,.int .i64 j)] ⟨hp.set b (.cells g true (prs W)),L,H,[]⟩
   = some (.exit 0,fr,⟨hp.set b (.cells g true (prs (Go.Sort.partEqLoop ltP a i j W).2)),L,H,[]⟩)/\fr.get 11=some (.int .i64 ((Go.Sort.partEqLoop ltP a i j W).1:Nat))/\fr.get 0=some (.slice (some ⟨b,0,some g⟩) n e)/\fr.get 1=some (.int .i64 a)
 | k,i,j,W,hD,hk,hai,hin,hj=>by
  have hg1:∀ B:Blk,(hp.set b B)[b]?=some B:=fun B=>aD hb;have hss:∀ A B:Blk,(hp.set b A).set b B=hp.set b B:=fun A B=>bG ..;have hnl:¬ b < L:=om
  have hl2:∀ B:Blk,(hp.set b B).length=hp.length:=fun B=>aG ..;have G:=Go.Sort.partEqLoop_guard ltP a i j W;rw[Go.Sort.partEqLoop_eq];obtain⟨fu,u0,u1,u2,u3,u4,u5⟩:=agk (hp:=hp.set b (.cells g true (prs W))) (L:=L) (H:=H) (g:=g) (e:=e) (a:=a) (j:=j) (hg1 _) hD hh he hn ha hj (by rw[hl2];exact hF) (j+1 - i) i (av _) om;have hge:=Go.Sort.scanUp_ge (fun x=>!ltP W[a]! x) W j i;generalize Go.Sort.scanUp (fun x=>!ltP W[a]! x) W j i=i2 at *;obtain⟨fd,d0,d1,d2,d3,d4,d5⟩:=Xe (hp:=hp.set b (.cells g true (prs W))) (L:=L) (H:=H) (g:=g) (e:=e) (a:=a) (i:=i2) (hg1 _) hD hh he hn ha om (by rw[hl2];exact hF) j hj;have hle:=Go.Sort.scanDown_le (fun x=>ltP W[a]! x) W i2 j;generalize Go.Sort.scanDown (fun x=>ltP W[a]! x) W i2 j=j2 at *;simp only[hl2,fM] at u0 u2 d0 d2 ⊢;by_cases hij:i2 > j2
  ·have h1:(i2:Int) > (j2:Int):=om
   rw[if_pos hij,fC As.eq_1];simp(disch:=first|exact dis|fail) only[sy,simprocAttr,-List.reduceReplicate,hF.all,u0,u1,u2,u3,u4,u5,d0,d1,d2,d3,d4,d5,h1];exact⟨_,rfl,by assumption,by assumption,by assumption⟩
  ·have h1:¬ (i2:Int) > (j2:Int):=om
   replace G:=G hij;cases k with
   | zero=>omega
   | succ k=>
    obtain⟨fr,ih,ih2⟩:=zf (g:=g) (e:=e) hb hL hh he hn ha hF k (i2+1) (j2 - 1) (Go.Sort.swp W i2 j2) (by rw[swp_size,hD]) om om om om;obtain⟨w1,w2,w3,w4,w5,w6,w7⟩:=iM hD (x:=i2) (y:=j2) om om;have sw:=kB hD (x:=i2) (y:=j2) om om;simp only[putAt] at sw;have e1:(j2:Int) - 1=((j2 - 1:Nat):Int):=om
    rw[if_neg hij,fC As.eq_1];refine⟨fr,?_,ih2⟩;simp only[aC,aI,fM] at ih;simp(disch:=first|exact dis|fail) only[sy,simprocAttr,-List.reduceReplicate,hF.all,u0,u1,u2,u3,u4,u5,d0,d1,d2,d3,d4,d5,h1,e1,hg1,hss,hh,hnl,w1,w2,w3,w4,w5,w6,w7,sw,ih]
theorem KG{b g e n a be pv:Nat}{W:Array Pr}(hb:hp[b]?=some (.cells g true (prs W)))(hD:W.size=n)(hL:L<=b)(hh:H.contains b=false)(he:e=0\/e=2)(hn:n<=100000)(hab:a < be)(hbe:be<=n)(hp2:pv < be)(hF:Fit hp.length L H) :
  fS env (.func 275) [.slice (some ⟨b,0,some g⟩) n e,.int .i64 a,.int .i64 be,.int .i64 pv,fM] ⟨hp,L,H,d⟩=some (.int .i64 ((Go.Sort.partitionEqual ltP W a be pv).1:Nat),⟨hp.set b (.cells g true (prs (Go.Sort.partitionEqual ltP W a be pv).2)),L,H,d⟩):=by
 rw[fF 275 _ _ af2];have hbl:=(af.1 hb).1;have hg1:∀ B:Blk,(hp.set b B)[b]?=some B:=fun B=>aD hbl;have hss:∀ A B:Blk,(hp.set b A).set b B=hp.set b B:=fun A B=>bG ..;have hnl:¬ b < L:=om
 obtain⟨w1,w2,w3,w4,w5,w6,w7⟩:=iM hD (x:=a) (y:=pv) om om;have sw:=kB hD (x:=a) (y:=pv) om om;simp only[putAt] at sw;have e1:(be:Int) - 1=((be - 1:Nat):Int):=om
 obtain⟨fr,l0,l1,l2⟩:=zf (hp:=hp) (L:=L) (H:=H) (g:=g) (e:=e) (a:=a) hbl hL hh he hn om hF (be - 1+1 - (a+1)) (a+1) (be - 1) (Go.Sort.swp W a pv) (by rw[swp_size,hD]) (av _) om om om;unfold Go.Sort.partitionEqual;simp only[aC,aI,fM] at l0 ⊢;simp(disch:=first|exact dis|fail) only[sy,simprocAttr,-List.reduceReplicate,hF.all,WB,hb,hg1,hss,hh,hnl,w1,w2,w3,w4,w5,w6,w7,sw,e1,l0,l1]
theorem oC{b g e n a be pv:Nat}{W:Array Pr}(hb:hp[b]?=some (.cells g true (prs W)))(hD:W.size=n)(hL:L<=b)(hh:H.contains b=false)(he:e=0\/e=2)(hn:n<=100000)(hab:a < be)(hbe:be<=n)(hp2:pv < be)(hF:Fit hp.length L H) :
  fS env (.func 276) [.slice (some ⟨b,0,some g⟩) n e,.int .i64 a,.int .i64 be,.int .i64 pv,fM] ⟨hp,L,H,d⟩=some (.tuple #[.int .i64 ((Go.Sort.partition ltP W a be pv).1:Nat),.bool (Go.Sort.partition ltP W a be pv).2.1],⟨hp.set b (.cells g true (prs (Go.Sort.partition ltP W a be pv).2.2)),L,H,d⟩):=by
 rw[fF 276 _ _ af3];have hbl:=(af.1 hb).1;have hg1:∀ B:Blk,(hp.set b B)[b]?=some B:=fun B=>aD hbl;have hss:∀ A B:Blk,(hp.set b A).set b B=hp.set b B:=fun A B=>bG ..;have hl2:∀ B:Blk,(hp.set b B).length=hp.length:=fun B=>aG ..;have hnl:¬ b < L:=om
 obtain⟨w1,w2,w3,w4,w5,w6,w7⟩:=iM hD (x:=a) (y:=pv) om om;have sw:=kB hD (x:=a) (y:=pv) om om;simp only[putAt] at sw;have e1:(be:Int) - 1=((be - 1:Nat):Int):=om
 unfold Go.Sort.partition;simp only;have hD1:(Go.Sort.swp W a pv).size=n:=by rw[swp_size,hD]
 generalize Go.Sort.swp W a pv=W1 at *;obtain⟨fu,u0,u1,u2,u3,u4,u5⟩:=up4 (hp:=hp.set b (.cells g true (prs W1))) (L:=L) (H:=H) (g:=g) (e:=e) (a:=a) (j:=be - 1) (hg1 _) hD1 hh he hn om om (by rw[hl2];exact hF) (be - 1+1 - (a+1)) (a+1) (av _) om;have hge:=Go.Sort.scanUp_ge (fun x=>ltP x W1[a]!) W1 (be - 1) (a+1);generalize Go.Sort.scanUp (fun x=>ltP x W1[a]!) W1 (be - 1) (a+1)=i2 at *;obtain⟨fd,d0,d1,d2,d3,d4,d5⟩:=abX (hp:=hp.set b (.cells g true (prs W1))) (L:=L) (H:=H) (g:=g) (e:=e) (a:=a) (i:=i2) (hg1 _) hD1 hh he hn om om (by rw[hl2];exact hF) (be - 1) om;have hle:=Go.Sort.scanDown_le (fun x=>!ltP x W1[a]!) W1 i2 (be - 1);generalize Go.Sort.scanDown (fun x=>!ltP x W1[a]!) W1 i2 (be - 1)=j2 at *;by_cases hij:i2 > j2
 ·have h1:(i2:Int) > (j2:Int):=om
  obtain⟨x1,x2,x3,x4,x5,x6,x7⟩:=iM hD1 (x:=j2) (y:=a) om om;have sx:=kB hD1 (x:=j2) (y:=a) om om;simp only[putAt] at sx;rw[if_pos hij];simp only[aC,aI,hl2,fM] at u0 u2 d0 d2 ⊢;simp(disch:=first|exact dis|fail) only[sy,simprocAttr,-List.reduceReplicate,hF.all,Pz,hb,hg1,hss,hh,hnl,w1,w2,w3,w4,w5,w6,w7,sw,e1,u0,u1,u2,u3,u4,u5,d0,d1,d2,d3,d4,d5,h1,x1,x2,x3,x4,x5,x6,x7,sx]
 ·have h1:¬ (i2:Int) > (j2:Int):=om
  obtain⟨x1,x2,x3,x4,x5,x6,x7⟩:=iM hD1 (x:=i2) (y:=j2) om om;have sx:=kB hD1 (x:=i2) (y:=j2) om om;simp only[putAt] at sx;rw[if_neg hij];have hD2:(Go.Sort.swp W1 i2 j2).size=n:=by rw[swp_size,hD1]
  generalize Go.Sort.swp W1 i2 j2=W2 at *;have e2:(j2:Int) - 1=((j2 - 1:Nat):Int):=om
  obtain⟨fr,l0,l1,l2,l3⟩:=EP (hp:=hp) (L:=L) (H:=H) (g:=g) (e:=e) (a:=a) hbl hL hh he hn om hF (j2 - 1+1 - (i2+1)) (i2+1) (j2 - 1) W2 hD2 (av _) om om om;have hm:=ze a (j2 - 1+1 - (i2+1)) (i2+1) (j2 - 1) W2 (av _);have hD3:(Go.Sort.partLoop ltP a (i2+1) (j2 - 1) W2).2.size=n:=by rw[uI a _ _ _ _ (av _),hD2]
  generalize Go.Sort.partLoop ltP a (i2+1) (j2 - 1) W2=R at *;obtain⟨m,W3⟩:=R;simp only at hm hD3 l0 l1 ⊢;obtain⟨y1,y2,y3,y4,y5,y6,y7⟩:=iM hD3 (x:=m) (y:=a) om om;have syy:=kB hD3 (x:=m) (y:=a) om om;simp only[putAt] at syy;simp only[aC,aI,hl2,fM] at l0 u0 u2 d0 d2 ⊢;simp(disch:=first|exact dis|fail) only[sy,simprocAttr,-List.reduceReplicate,hF.all,Pz,hb,hg1,hss,hh,hnl,w1,w2,w3,w4,w5,w6,w7,sw,e1,e2,u0,u1,u2,u3,u4,u5,d0,d1,d2,d3,d4,d5,h1,x1,x2,x3,x4,x5,x6,x7,sx,l0,l1,l2,l3,y1,y2,y3,y4,y5,y6,y7,syy]
end
end TtL
namespace TtM
open Go Go.RowKit AM fO LtA SyP TmM TsA TsB TsE TsI TsJ TtA TtB TtC TtD TtE TtF TtG TtH TtI TtJ TtK TtL Bt
section
variable{hp:List Blk}{L:Nat}{H d:List Nat}
theorem zg{b g e n a be t:Nat}{W:Array Pr}(hb:hp[b]?=some (.cells g true (prs W)))(hD:W.size=n)(hh:H.contains b=false)(he:e=0\/e=2)(hn:n<=100000)(hbe:be<=n)(hF:Fit hp.length L H):∀ (k i:Nat),be - i<=k->1<=i->i<=200000->∃ fr,
  fW env GR [9,2,3,0,1,10] hp.length [(9,.int .i64 i),(2,.int .i64 be),(3,fM),(0,.slice (some ⟨b,0,some g⟩) n e),(1,.int .i64 a),(10,.int .i64 t)] ⟨hp,L,H,[]⟩
   = some (.exit 2,fr,⟨hp,L,H,[]⟩)/\fr.get 9=some (.int .i64 (Go.Sort.scanSorted ltP W be i:Nat))/\fr.get 2=some (.int .i64 be)/\fr.get 3=some fM/\fr.get 0=some (.slice (some ⟨b,0,some g⟩) n e)/\fr.get 1=some (.int .i64 a)/\fr.get 10=some (.int .i64 t)
 | k,i,hk,hi,hi2=>by
  rw[Go.Sort.scanSorted,fC GR.eq_1];by_cases hij:i < be
  ·cases k with
   | zero=>omega
   | succ k=>
   have h1:(i:Int) < (be:Int):=om
   have hl:=fun p q hp L H d hF=>jj (hp:=hp) (L:=L) (H:=H) (d:=d) p q hF;have hlen:(prs W).length=2*n:=by rw[jH,hD]
   have r1:=iw W (i:=i) om;have r0:=iw W (i:=i - 1) om;have e1:(i:Int) - 1=((i - 1:Nat):Int):=om
   have h2:0<=(i:Int)/\(i:Int) < (n:Int):=om
   have h3:0<=((i - 1:Nat):Int)/\((i - 1:Nat):Int) < (n:Int):=om
   have s1:i*2+2<=2*n:=om
   have s0:(i - 1)*2+2<=2*n:=om
   rw[bE] at r1 r0;by_cases hlt:ltP W[i]! W[i - 1]! = true
   ·have hc:kT W[i]! W[i - 1]! < 0:=of_decide_eq_true hlt;rw[if_neg (by rw[hlt];simp)];simp only[fM];simp(disch:=first|exact dis|fail) only[sy,simprocAttr,-List.reduceReplicate,hF.all,h1,h2,h3,e1,hb,hh,hlen,r1,r0,s1,s0,hl,hc];exact⟨_,rfl,rfl,rfl,rfl,rfl,rfl,rfl⟩
   ·have hc:¬ kT W[i]! W[i - 1]! < 0:=fun h=>hlt (decide_eq_true h);replace hlt:ltP W[i]! W[i - 1]! = false:=by simpa using hlt
    obtain⟨fr,ih,ih2⟩:=zg (a:=a) (t:=t) hb hD hh he hn hbe hF k (i+1) om om om;simp only[aC,aI] at ih;rw[if_pos (by rw[hlt,decide_eq_true hij];rfl)];refine⟨fr,?_,ih2⟩;simp only[fM] at ih ⊢;simp(disch:=first|exact dis|fail) only[sy,simprocAttr,-List.reduceReplicate,hF.all,h1,h2,h3,e1,hb,hh,hlen,r1,r0,s1,s0,hl,hc,ih]
  ·have h1:¬ (i:Int) < (be:Int):=om
   rw[if_neg (by rw[decide_eq_false hij];simp)];simp(disch:=first|exact dis|fail) only[sy,simprocAttr,-List.reduceReplicate,hF.all,h1];exact⟨_,rfl,rfl,rfl,rfl,rfl,rfl,rfl⟩
theorem CB{b g e n a be t i:Nat}(hb:b < hp.length)(hL:L<=b)(hh:H.contains b=false)(he:e=0\/e=2)(hn:n<=100000)(hF:Fit hp.length L H):∀ (j:Nat) (W:Array Pr),W.size=n->j < n->∃ fr,
  fW env Ap [11,10,9,1,0,3,2] hp.length [(11,.int .i64 j),(10,.int .i64 t),(9,.int .i64 i),(1,.int .i64 a),(0,.slice (some ⟨b,0,some g⟩) n e),(3,fM),(2,.int .i64 be)] ⟨hp.set b (.cells g true (prs W)),L,H,[]⟩
   = some (.exit 4,fr,⟨hp.set b (.cells g true (prs (Go.Sort.shiftDown ltP j W))),L,H,[]⟩)/\fr.get 10=some (.int .i64 t)/\fr.get 9=some (.int .i64 i)/\fr.get 1=some (.int .i64 a)/\fr.get 0=some (.slice (some ⟨b,0,some g⟩) n e)/\fr.get 3=some fM/\fr.get 2=some (.int .i64 be)
 | 0,W,hD,hj=>by
  rw[Go.Sort.shiftDown,fC Ap.eq_1];simp only[aN];simp(disch:=first|exact dis|fail) only[sy,simprocAttr,-List.reduceReplicate,hF.all,hb];exact⟨_,rfl,rfl,rfl,rfl,rfl,rfl,rfl⟩
 | j+1,W,hD,hj=>by
  rw[Go.Sort.shiftDown,fC Ap.eq_1];have hl:=fun p q hp L H d hF=>jj (hp:=hp) (L:=L) (H:=H) (d:=d) p q hF;have hg1:∀ B:Blk,(hp.set b B)[b]?=some B:=fun B=>aD hb;have hss:∀ A B:Blk,(hp.set b A).set b B=hp.set b B:=fun A B=>bG ..;have hnl:¬ b < L:=om
  have h1:((j+1:Nat):Int)>=1:=om
  have e1:((j+1:Nat):Int) - 1=(j:Int):=om
  obtain⟨w1,w2,w3,w4,w5,w6,w7⟩:=iM hD (x:=j+1) (y:=j) om om;by_cases hlt:ltP W[j+1]! W[j]! = true
  ·have hc:kT W[j+1]! W[j]! < 0:=of_decide_eq_true hlt;have sw:=kB hD (x:=j+1) (y:=j) om om;simp only[putAt] at sw;obtain⟨fr,ih,ih2⟩:=CB (b:=b) (g:=g) (e:=e) (a:=a) (be:=be) (t:=t) (i:=i) hb hL hh he hn hF j (Go.Sort.swp W (j+1) j) (by rw[swp_size,hD]) om;rw[if_neg (by rw[hlt];simp)];refine⟨fr,?_,ih2⟩;simp only[fM] at ih ⊢;simp(disch:=first|exact dis|fail) only[sy,simprocAttr,-List.reduceReplicate,hF.all,h1,e1,hg1,hss,hh,hnl,w1,w2,w3,w4,w5,w6,w7,hl,hc,sw,ih]
  ·have hc:¬ kT W[j+1]! W[j]! < 0:=fun h=>hlt (decide_eq_true h);rw[if_pos (by simpa using hlt)];simp only[fM];simp(disch:=first|exact dis|fail) only[sy,simprocAttr,-List.reduceReplicate,hF.all,h1,e1,hg1,hss,hh,hnl,w1,w2,w3,w4,w5,w6,w7,hl,hc];exact⟨_,rfl,rfl,rfl,rfl,rfl,rfl,rfl⟩
theorem CC{b g e n a be t i:Nat}(hb:b < hp.length)(hL:L<=b)(hh:H.contains b=false)(he:e=0\/e=2)(hn:n<=100000)(hbe:be<=n)(hF:Fit hp.length L H):∀ (k j:Nat) (W:Array Pr),W.size=n->be - j<=k->1<=j->j<=200000->∃ fr,
  fW env GQ [12,10,9,1,0,3,2] hp.length [(12,.int .i64 j),(10,.int .i64 t),(9,.int .i64 i),(1,.int .i64 a),(0,.slice (some ⟨b,0,some g⟩) n e),(3,fM),(2,.int .i64 be)] ⟨hp.set b (.cells g true (prs W)),L,H,[]⟩
   = some (.exit 6,fr,⟨hp.set b (.cells g true (prs (Go.Sort.shiftUp ltP be j W))),L,H,[]⟩)/\fr.get 10=some (.int .i64 t)/\fr.get 9=some (.int .i64 i)/\fr.get 1=some (.int .i64 a)/\fr.get 0=some (.slice (some ⟨b,0,some g⟩) n e)/\fr.get 3=some fM/\fr.get 2=some (.int .i64 be)
 | k,j,W,hD,hk,hj,hj2=>by
  rw[Go.Sort.shiftUp,fC GQ.eq_1];by_cases hij:j < be
  ·cases k with
   | zero=>omega
   | succ k=>
    have hl:=fun p q hp L H d hF=>jj (hp:=hp) (L:=L) (H:=H) (d:=d) p q hF;have hg1:∀ B:Blk,(hp.set b B)[b]?=some B:=fun B=>aD hb;have hss:∀ A B:Blk,(hp.set b A).set b B=hp.set b B:=fun A B=>bG ..;have hnl:¬ b < L:=om
    have h1:(j:Int) < (be:Int):=om
    have e1:(j:Int) - 1=((j - 1:Nat):Int):=om
    obtain⟨w1,w2,w3,w4,w5,w6,w7⟩:=iM hD (x:=j) (y:=j - 1) om om;rw[if_pos hij];by_cases hlt:ltP W[j]! W[j - 1]! = true
    ·have hc:kT W[j]! W[j - 1]! < 0:=of_decide_eq_true hlt;have sw:=kB hD (x:=j) (y:=j - 1) om om;simp only[putAt] at sw;obtain⟨fr,ih,ih2⟩:=CC (b:=b) (g:=g) (e:=e) (a:=a) (be:=be) (t:=t) (i:=i) hb hL hh he hn hbe hF k (j+1) (Go.Sort.swp W j (j - 1)) (by rw[swp_size,hD]) om om om;rw[if_neg (by rw[hlt];simp)];refine⟨fr,?_,ih2⟩;simp only[fM,aC,aI] at ih ⊢;simp(disch:=first|exact dis|fail) only[sy,simprocAttr,-List.reduceReplicate,hF.all,h1,e1,hg1,hss,hh,hnl,w1,w2,w3,w4,w5,w6,w7,hl,hc,sw,ih]
    ·have hc:¬ kT W[j]! W[j - 1]! < 0:=fun h=>hlt (decide_eq_true h);rw[if_pos (by simpa using hlt)];simp only[fM];simp(disch:=first|exact dis|fail) only[sy,simprocAttr,-List.reduceReplicate,hF.all,h1,e1,hg1,hss,hh,hnl,w1,w2,w3,w4,w5,w6,w7,hl,hc];exact⟨_,rfl,rfl,rfl,rfl,rfl,rfl,rfl⟩
  ·have h1:¬ (j:Int) < (be:Int):=om
   rw[if_neg hij];simp(disch:=first|exact dis|fail) only[sy,simprocAttr,-List.reduceReplicate,hF.all,h1];exact⟨_,rfl,rfl,rfl,rfl,rfl,rfl,rfl⟩
def agl(fr:Fr)(ex:Ex)(f:Bool):Prop:=(ex=.exit 0/\f=false)\/(ex=.ret/\fr.get 8=some (.bool f))
theorem wz{b g e n a be:Nat}(hb:b < hp.length)(hL:L<=b)(hh:H.contains b=false)(he:e=0\/e=2)(hn:n<=100000)(hbe:be<=n)(hab:a < be)(hF:Fit hp.length L H):∀ (s t i:Nat) (W:Array Pr),s+t=5->W.size=n->a < i->i<=be->∃ fr ex,
  fW env Aq [9,1,0,3,2,10] hp.length [(9,.int .i64 i),(1,.int .i64 a),(0,.slice (some ⟨b,0,some g⟩) n e),(3,fM),(2,.int .i64 be),(10,.int .i64 t)] ⟨hp.set b (.cells g true (prs W)),L,H,[]⟩
   = some (ex,fr,⟨hp.set b (.cells g true (prs (Go.Sort.partialIns ltP a be s i W).1)),L,H,[]⟩)/\agl fr ex (Go.Sort.partialIns ltP a be s i W).2
 | 0,t,i,W,hst,hD,hai,hib=>by
  have h1:¬ (t:Int) < 5:=om
  rw[Go.Sort.partialIns,fC Aq.eq_1];simp(disch:=first|exact dis|fail) only[sy,simprocAttr,-List.reduceReplicate,hF.all,h1];exact⟨_,_,rfl,.inl ⟨rfl,rfl⟩⟩
 | s+1,t,i,W,hst,hD,hai,hib=>by
  have hg1:∀ B:Blk,(hp.set b B)[b]?=some B:=fun B=>aD hb;have hss:∀ A B:Blk,(hp.set b A).set b B=hp.set b B:=fun A B=>bG ..;have hl2:∀ B:Blk,(hp.set b B).length=hp.length:=fun B=>aG ..;have hnl:¬ b < L:=om
  have h1:(t:Int) < 5:=om
  rw[Go.Sort.partialIns,fC Aq.eq_1];obtain⟨fu,u0,u1,u2,u3,u4,u5,u6⟩:=zg (hp:=hp.set b (.cells g true (prs W))) (L:=L) (H:=H) (g:=g) (e:=e) (a:=a) (be:=be) (t:=t) (hg1 _) hD hh he hn hbe (by rw[hl2];exact hF) (be - i) i (av _) om om;have hsb:=uH be W (be - i) i (av _) hib;simp only;generalize Go.Sort.scanSorted ltP W be i=i2 at *;simp only[hl2,fM] at u0 u3 ⊢;by_cases hib2:i2=be
  ·have g1:(i2:Int)=(be:Int):=om
   rw[if_pos hib2];simp(disch:=first|exact dis|fail) only[sy,simprocAttr,-List.reduceReplicate,hF.all,h1,u0,u1,u2,u3,u4,u5,u6,g1];exact⟨_,_,rfl,.inr ⟨rfl,rfl⟩⟩
  ·have g1:¬ (i2:Int)=(be:Int):=om
   rw[if_neg hib2];have e1:(be:Int) - (a:Int)=((be - a:Nat):Int):=om
   by_cases h50:be - a < 50
   ·have g2:((be - a:Nat):Int) < 50:=om
    rw[if_pos h50];simp(disch:=first|exact dis|fail) only[sy,simprocAttr,-List.reduceReplicate,hF.all,h1,e1,u0,u1,u2,u3,u4,u5,u6,g1,g2];exact⟨_,_,rfl,.inr ⟨rfl,rfl⟩⟩
   ·have g2:¬ ((be - a:Nat):Int) < 50:=om
    rw[if_neg h50];have e2:(i2:Int) - 1=((i2 - 1:Nat):Int):=om
    have e3:(i2:Int) - (a:Int)=((i2 - a:Nat):Int):=om
    have e4:(be:Int) - (i2:Int)=((be - i2:Nat):Int):=om
    obtain⟨w1,w2,w3,w4,w5,w6,w7⟩:=iM hD (x:=i2) (y:=i2 - 1) om om;have sw:=kB hD (x:=i2) (y:=i2 - 1) om om;simp only[putAt] at sw;have hD1:(Go.Sort.swp W i2 (i2 - 1)).size=n:=by rw[swp_size,hD]
    generalize Go.Sort.swp W i2 (i2 - 1)=W1 at *;have hdn:=CB (hp:=hp) (L:=L) (H:=H) (g:=g) (e:=e) (a:=a) (be:=be) (t:=t) (i:=i2) hb hL hh he hn hF (i2 - 1) W1 hD1 om;have hD2:(Go.Sort.shiftDown ltP (i2 - 1) W1).size=n:=by rw[td,hD1]
    generalize Go.Sort.shiftDown ltP (i2 - 1) W1=W2 at *;obtain⟨fd,d0,d1,d2,d3,d4,d5,d6⟩:=hdn;have e5:(i2:Int)+1=((i2+1:Nat):Int):=om
    simp only[fM] at d0 d5;by_cases c1:i2 - a>=2
    ·have g3:((i2 - a:Nat):Int)>=2:=om
     rw[if_pos c1];by_cases c2:be - i2>=2
     ·have g4:((be - i2:Nat):Int)>=2:=om
      rw[if_pos c2];have hup:=CC (hp:=hp) (L:=L) (H:=H) (g:=g) (e:=e) (a:=a) (be:=be) (t:=t) (i:=i2) hb hL hh he hn hbe hF (be - (i2+1)) (i2+1) W2 hD2 (av _) om om;have hD3:(Go.Sort.shiftUp ltP be (i2+1) W2).size=n:=by rw[rN be _ _ _ (av _),hD2]
      generalize Go.Sort.shiftUp ltP be (i2+1) W2=W3 at *;obtain⟨fe,p0,p1,p2,p3,p4,p5,p6⟩:=hup;obtain⟨fr,ex,ih,ih2⟩:=wz (g:=g) (e:=e) hb hL hh he hn hbe hab hF s (t+1) i2 W3 om hD3 om om;refine⟨fr,ex,?_,ih2⟩;simp only[fM,aC,aI] at p0 p5 ih;simp(disch:=first|exact dis|fail) only[sy,simprocAttr,-List.reduceReplicate,hF.all,h1,e1,e2,e3,e4,u0,u1,u2,u3,u4,u5,u6,g1,g2,g3,g4,hg1,hss,hh,hnl,w1,w2,w3,w4,w5,w6,w7,sw,d0,d1,d2,d3,d4,d5,d6,p0,p1,p2,p3,p4,p5,p6,ih]
     ·have g4:¬ ((be - i2:Nat):Int)>=2:=om
      rw[if_neg c2];obtain⟨fr,ex,ih,ih2⟩:=wz (g:=g) (e:=e) hb hL hh he hn hbe hab hF s (t+1) i2 W2 om hD2 om om;refine⟨fr,ex,?_,ih2⟩;simp only[fM,aC,aI] at ih;simp(disch:=first|exact dis|fail) only[sy,simprocAttr,-List.reduceReplicate,hF.all,h1,e1,e2,e3,e4,u0,u1,u2,u3,u4,u5,u6,g1,g2,g3,g4,hg1,hss,hh,hnl,w1,w2,w3,w4,w5,w6,w7,sw,d0,d1,d2,d3,d4,d5,d6,ih]
    ·have g3:¬ ((i2 - a:Nat):Int)>=2:=om
     rw[if_neg c1];by_cases c2:be - i2>=2
     ·have g4:((be - i2:Nat):Int)>=2:=om
      rw[if_pos c2];have hup:=CC (hp:=hp) (L:=L) (H:=H) (g:=g) (e:=e) (a:=a) (be:=be) (t:=t) (i:=i2) hb hL hh he hn hbe hF (be - (i2+1)) (i2+1) W1 hD1 (av _) om om;have hD3:(Go.Sort.shiftUp ltP be (i2+1) W1).size=n:=by rw[rN be _ _ _ (av _),hD1]
      generalize Go.Sort.shiftUp ltP be (i2+1) W1=W3 at *;obtain⟨fe,p0,p1,p2,p3,p4,p5,p6⟩:=hup;obtain⟨fr,ex,ih,ih2⟩:=wz (g:=g) (e:=e) hb hL hh he hn hbe hab hF s (t+1) i2 W3 om hD3 om om;refine⟨fr,ex,?_,ih2⟩;simp only[fM,aC,aI] at p0 p5 ih;simp(disch:=first|exact dis|fail) only[sy,simprocAttr,-List.reduceReplicate,hF.all,h1,e1,e2,e3,e4,u0,u1,u2,u3,u4,u5,u6,g1,g2,g3,g4,hg1,hss,hh,hnl,w1,w2,w3,w4,w5,w6,w7,sw,p0,p1,p2,p3,p4,p5,p6,ih]
     ·exfalso;omega
theorem Hg{b g e n a be:Nat}{W:Array Pr}(hb:hp[b]?=some (.cells g true (prs W)))(hD:W.size=n)(hL:L<=b)(hh:H.contains b=false)(he:e=0\/e=2)(hn:n<=100000)(hab:a < be)(hbe:be<=n)(hF:Fit hp.length L H) :
  fS env (.func 274) [.slice (some ⟨b,0,some g⟩) n e,.int .i64 a,.int .i64 be,fM] ⟨hp,L,H,d⟩=some (.bool (Go.Sort.partialInsertionSort ltP W a be).2,⟨hp.set b (.cells g true (prs (Go.Sort.partialInsertionSort ltP W a be).1)),L,H,d⟩):=by
 rw[fF 274 _ _ af1];have hbl:=(af.1 hb).1;obtain⟨fr,ex,h,h2⟩:=wz (hp:=hp) (L:=L) (H:=H) (g:=g) (e:=e) hbl hL hh he hn hbe hab hF 5 0 (a+1) W rfl hD om om;rw[jt hb] at h;change _=some (ex,fr,(⟨hp.set b (.cells g true (prs (Go.Sort.partialInsertionSort ltP W a be).1)),L,H,[]⟩:St)) at h;change agl fr ex (Go.Sort.partialInsertionSort ltP W a be).2 at h2;generalize Go.Sort.partialInsertionSort ltP W a be=R at *;obtain⟨W1,f⟩:=R;simp only at h h2;simp only[fM,aC,aI,aN] at h ⊢;rcases h2 with ⟨rfl,rfl⟩ | ⟨rfl,h2⟩
 ·simp(disch:=first|exact dis|fail) only[sy,simprocAttr,-List.reduceReplicate,hF.all,Py,h]
 ·simp(disch:=first|exact dis|fail) only[sy,simprocAttr,-List.reduceReplicate,hF.all,Py,h,h2]
end
end TtM
namespace TtN
open Go Go.RowKit AM fO LtA SyP TmM TsA TsB TsE TsI TsJ TtA TtB TtC TtD TtE TtF TtG TtH TtI TtJ TtK TtL TtM Bt
theorem aac(x y:UInt64):acR 64 (x.toNat:Int) (y.toNat:Int)=((x ^^^ y).toNat:Int):=by unfold acR;rw[BitVec.ofInt_natCast,BitVec.ofInt_natCast,BitVec.toNat_xor,BitVec.toNat_ofNat,BitVec.toNat_ofNat,UInt64.toNat_xor,eJ x.toNat_lt,eJ y.toNat_lt]
theorem aad{x y:Nat}(hx:x < 18446744073709551616)(hy:y < 18446744073709551616):Sx 64 (x:Int) (y:Int)=((x&&&y:Nat):Int):=by unfold Sx;rw[BitVec.ofInt_natCast,BitVec.ofInt_natCast,BitVec.toNat_and,BitVec.toNat_ofNat,BitVec.toNat_ofNat,eJ (by simpa using hx),eJ (by simpa using hy)]
theorem wrap_u64(x:UInt64):IntKind.u64.wrap (x.toNat:Int)=(x.toNat:Int):=by have:=x.toNat_lt;exact ae8 om om
theorem agm(x:UInt64):IntKind.u64.wrap ((x.toNat:Int)*8192)=((x <<< 13).toNat:Int):=by rw[abQ,UInt64.toNat_shiftLeft,eM,show(13:UInt64).toNat%64=13 from rfl];omega
theorem agn(x:UInt64):IntKind.u64.wrap ((x.toNat:Int)*131072)=((x <<< 17).toNat:Int):=by rw[abQ,UInt64.toNat_shiftLeft,eM,show(17:UInt64).toNat%64=17 from rfl];omega
theorem ahZ(x:UInt64):(x.toNat:Int).fdiv 128=((x >>> 7).toNat:Int):=by rw[UInt64.toNat_shiftRight,Nat.shiftRight_eq_div_pow,show(7:UInt64).toNat%64=7 from rfl,cZ _ om];omega
def adi:ByteArray:=⟨#[0,1,2,2,3,3,3,3,4,4,4,4,4,4,4,4,5,5,5,5,5,5,5,5,5,5,5,5,5,5,5,5,6,6,6,6,6,6,6,6,6,6,6,6,6,6,6,6,6,6,6,6,6,6,6,6,6,6,6,6,6,6,6,6,7,7,7,7,7,7,7,7,7,7,7,7,7,7,7,7,7,7,7,7,7,7,7,7,7,7,7,7,7,7,7,7,7,7,7,7,7,7,7,7,7,7,7,7,7,7,7,7,7,7,7,7,7,7,7,7,7,7,7,7,7,7,7,7,8,8,8,8,8,8,8,8,8,8,8,8,8,8,8,8,8,8,8,8,8,8,8,8,8,8,8,8,8,8,8,8,8,8,8,8,8,8,8,8,8,8,8,8,8,8,8,8,8,8,8,8,8,8,8,8,8,8,8,8,8,8,8,8,8,8,8,8,8,8,8,8,8,8,8,8,8,8,8,8,8,8,8,8,8,8,8,8,8,8,8,8,8,8,8,8,8,8,8,8,8,8,8,8,8,8,8,8,8,8,8,8,8,8,8,8,8,8,8,8,8,8,8,8,8,8,8,8]⟩
theorem S0:adi.size=256:=by decide +kernel
theorem aae:∀ x < 256,adi.data.toList[x]?=some (UInt8.ofNat (Go.Sort.bitsLen x)):=by decide +kernel
theorem vm:∀ x < 256,Go.Sort.bitsLen x<=8:=by decide +kernel
section
variable{hp:List Blk}{L:Nat}{H d:List Nat}
theorem qF{r:UInt64}{q:Nat}(hq:hp[q]?=some (.cells 0 true [.int .u64 (r.toNat:Int)]))(hqL:L<=q)(hqh:H.contains q=false)(hF:Fit hp.length L H) :
  fS env (.func 288) [.pointer (some ⟨q,0,some 0⟩)] ⟨hp,L,H,d⟩=some (.int .u64 ((Go.Sort.xorNext r).toNat:Int),⟨hp.set q (.cells 0 true [.int .u64 ((Go.Sort.xorNext r).toNat:Int)]),L,H,d⟩):=by
 rw[fF 288 _ _ agb];have hql:=(af.1 hq).1;have hg1:∀ B:Blk,(hp.set q B)[q]?=some B:=fun B=>aD hql;have hss:∀ A B:Blk,(hp.set q A).set q B=hp.set q B:=fun A B=>bG ..;have hnl:¬ q < L:=om
 unfold Go.Sort.xorNext;simp only;simp(disch:=first|exact dis|fail) only[sy,simprocAttr,-List.reduceReplicate,hF.all,WG,hq,hqh,hg1,hss,hnl,agm,agn,ahZ,aac,wrap_u64]
set_option maxRecDepth 100000 in
theorem NL{x:Nat}(hx:x < 256)(hF:Fit hp.length L H):fS env (.func 278) [.int .u64 x] ⟨hp,L,H,d⟩=some (.int .i64 (Go.Sort.bitsLen x:Nat),⟨hp,L,H,d⟩):=by
 rw[fF 278 _ _ af4];have g1:¬ (x:Int)>=4294967296:=om
 have g2:¬ (x:Int)>=65536:=om
 have g3:¬ (x:Int)>=256:=om
 have h2:0<=(x:Int)/\(x:Int) < 256:=om
 have h3:=aae x hx;have h4:=vm x hx;have h5:((UInt8.ofNat (Go.Sort.bitsLen x)).toNat:Int)=(Go.Sort.bitsLen x:Int):=by rw[UInt8.toNat_ofNat'];omega
 have hS:(⟨#[0,1,2,2,3,3,3,3,4,4,4,4,4,4,4,4,5,5,5,5,5,5,5,5,5,5,5,5,5,5,5,5,6,6,6,6,6,6,6,6,6,6,6,6,6,6,6,6,6,6,6,6,6,6,6,6,6,6,6,6,6,6,6,6,7,7,7,7,7,7,7,7,7,7,7,7,7,7,7,7,7,7,7,7,7,7,7,7,7,7,7,7,7,7,7,7,7,7,7,7,7,7,7,7,7,7,7,7,7,7,7,7,7,7,7,7,7,7,7,7,7,7,7,7,7,7,7,7,8,8,8,8,8,8,8,8,8,8,8,8,8,8,8,8,8,8,8,8,8,8,8,8,8,8,8,8,8,8,8,8,8,8,8,8,8,8,8,8,8,8,8,8,8,8,8,8,8,8,8,8,8,8,8,8,8,8,8,8,8,8,8,8,8,8,8,8,8,8,8,8,8,8,8,8,8,8,8,8,8,8,8,8,8,8,8,8,8,8,8,8,8,8,8,8,8,8,8,8,8,8,8,8,8,8,8,8,8,8,8,8,8,8,8,8,8,8,8,8,8,8,8,8,8,8,8,8]⟩:ByteArray)=adi:=rfl;simp(disch:=first|exact dis|fail) only[sy,simprocAttr,-List.reduceReplicate,hF.all,WC,↓hS,S0,g1,g2,g3,h2,h3,h5]
end
end TtN
namespace TtO
open Go Go.RowKit AM fO LtA SyP TmM TsA TsB TsE TsI TsJ TtA TtB TtC TtD TtE TtF TtG TtH TtI TtJ TtK TtL TtM TtN Bt
section
variable{hp:List Blk}{L:Nat}{H d:List Nat}
theorem ER{x:Nat}(hx:x < 256)(hF:Fit hp.length L H):fS env (.func 256) [.int .u64 x] ⟨hp,L,H,d⟩=some (.int .i64 (Go.Sort.bitsLen x:Nat),⟨hp,L,H,d⟩):=by rw[fF 256 _ _ afR];have k:=fun d=>NL (hp:=hp) (L:=L) (H:=H) (d:=d) hx hF;simp(disch:=first|exact dis|fail) only[sy,simprocAttr,-List.reduceReplicate,hF.all,Wu,k]
theorem Xf{x:Nat}(hx:x < 256)(hF:Fit hp.length L H):fS env (.func 287) [.int .i64 x] ⟨hp,L,H,d⟩=some (.int .u64 ((1 <<< Go.Sort.bitsLen x:Nat):Int),⟨hp,L,H,d⟩):=by
 rw[fF 287 _ _ aga];have k:=fun d=>ER (hp:=hp) (L:=L) (H:=H) (d:=d) hx hF;have h8:=vm x hx;generalize Go.Sort.bitsLen x=y at *;have g1:¬ (y:Int) < 0:=om
 have g2:min y 64=y:=om
 have g3:IntKind.u64.wrap (2 ^ y)=((1 <<< y:Nat):Int):=by
  rw[eM,dH];have:∀ y ≤ 8,IntKind.u64.wrap (2 ^ y)=((2 ^ y:Nat):Int):=by decide +kernel
  exact this y h8
 simp(disch:=first|exact dis|fail) only[sy,simprocAttr,-List.reduceReplicate,hF.all,WE,k,g1,g2,g3]
def S3(hp:List Blk)(b g n e a l m idx:Nat):Fr:=[(11,.int .i64 idx),(9,.pointer (some ⟨hp.length,0,some 0⟩)),(10,.int .u64 m),(8,.int .i64 l),(1,.int .i64 a),(0,.slice (some ⟨b,0,some g⟩) n e)]
def Xg(hp:List Blk)(b g:Nat)(st:UInt64×Array Pr):List Blk:=hp.set b (.cells g true (prs st.2))++[.cells 0 true [.int .u64 (st.1.toNat:Int)]]
theorem Hh{b g n e a l idx:Nat}(hb:b < hp.length)(hL:L<=b)(hh:H.contains b=false)(he:e=0\/e=2)(hn:n<=255)(hl8:8<=l)(hln:a+l<=n)(hF:Fit hp.length L H)(st:UInt64×Array Pr)(hD:st.2.size=n)(hix:idx < n)(hi2:idx<=a+l / 4*2+1) :
  fW env rH [11,9,10,8,1,0] (hp.length+1) (S3 hp b g n e a l (1 <<< Go.Sort.bitsLen l) idx) ⟨Xg hp b g st,L,H,[]⟩
   = fW env rH [11,9,10,8,1,0] (hp.length+1) (S3 hp b g n e a l (1 <<< Go.Sort.bitsLen l) (idx+1)) ⟨Xg hp b g (Go.Sort.breakStep a l (1 <<< Go.Sort.bitsLen l) st idx),L,H,[]⟩:=by
 obtain⟨r,W⟩:=st;simp only at hD;have hgq:∀ B c:Blk,(hp.set b B++[c])[hp.length]?=some c:=fun B c=>by have:=gA (h:=hp.set b B) (nw:=[]) c;rwa [aG] at this
 have hsq:∀ B c c':Blk,(hp.set b B++[c]).set hp.length c'=hp.set b B++[c']:=fun B c c'=>by have:=gZ (h:=hp.set b B) (nw:=[]) c' c;rwa [aG] at this
 have hgb:∀ B c:Blk,(hp.set b B++[c])[b]?=some B:=fun B c=>by rw[lT (by rw[aG];exact hb)];exact aD hb
 have hsb:∀ A B c:Blk,(hp.set b A++[c]).set b B=hp.set b B++[c]:=fun A B c=>by rw[JY (by rw[aG];exact hb),bG]
 have hnl:¬ b < L:=om
 have k:=fun d=>qF (hp:=hp.set b (.cells g true (prs W))++[.cells 0 true [.int .u64 (r.toNat:Int)]]) (L:=L) (H:=H) (d:=d) (r:=r) (hgq _ _) hF.1 hF.lS (hF.mono (by simp));simp only[hsq] at k;unfold Go.Sort.breakStep Xg S3;simp only;generalize Go.Sort.xorNext r=r1 at *;have hm:1 <<< Go.Sort.bitsLen l<=2*l:=by have:=Go.Sort.two_pow_bitsLen_le (n:=l) om;rw[eM,dH];exact this
 have hm1:1<=1 <<< Go.Sort.bitsLen l:=by rw[eM,dH];exact Nat.one_le_two_pow
 generalize 1 <<< Go.Sort.bitsLen l=m at *;have ha:r1.toNat&&&(m - 1)<=m - 1:=Nat.and_le_right;have e1:(m:Int) - 1=((m - 1:Nat):Int):=om
 have e2:Sx 64 (r1.toNat:Int) ((m - 1:Nat):Int)=((r1.toNat&&&(m - 1):Nat):Int):=aad r1.toNat_lt om;generalize hq:r1.toNat&&&(m - 1)=q at *;clear hq;have e3:Int.tdiv (l:Int) 4=((l / 4:Nat):Int):=by rw[cD om];omega
 have g1:(idx:Int)<=(a:Int)+((l / 4:Nat):Int)*2+1:=om
 have b1:l / 4<=255:=om
 have b2:a<=255:=om
 by_cases c1:q>=l
 ·have g2:(q:Int)>=(l:Int):=om
  have e4:(q:Int) - (l:Int)=((q - l:Nat):Int):=om
  rw[if_pos c1];obtain⟨y,hy⟩:∃ y,y=a+(q - l):=⟨_,rfl⟩;rw[<- hy];have e5:(a:Int)+((q - l:Nat):Int)=(y:Int):=om
  obtain⟨w1,w2,w3,w4,w5,w6,w7⟩:=iM hD (x:=idx) (y:=y) om om;have sw:=kB hD (x:=idx) (y:=y) om om;simp only[putAt] at sw;rw[fC rH.eq_1];simp only[aC,aI];simp(disch:=first|exact dis|fail) only[sy,simprocAttr,-List.reduceReplicate,hF.all,k,hgq,hsq,hgb,hsb,hnl,hh,e1,e2,e3,e4,e5,g1,g2,w1,w2,w3,w4,w5,w6,w7,sw]
 ·have g2:¬ (q:Int)>=(l:Int):=om
  rw[if_neg c1];obtain⟨y,hy⟩:∃ y,y=a+q:=⟨_,rfl⟩;rw[<- hy];have e5:(a:Int)+(q:Int)=(y:Int):=om
  obtain⟨w1,w2,w3,w4,w5,w6,w7⟩:=iM hD (x:=idx) (y:=y) om om;have sw:=kB hD (x:=idx) (y:=y) om om;simp only[putAt] at sw;rw[fC rH.eq_1];simp only[aC,aI];simp(disch:=first|exact dis|fail) only[sy,simprocAttr,-List.reduceReplicate,hF.all,k,hgq,hsq,hgb,hsb,hnl,hh,e1,e2,e3,e5,g1,g2,w1,w2,w3,w4,w5,w6,w7,sw]
theorem adk{b g e n a l m idx:Nat}{σ:St}(hl8:8<=l)(hln:a+l<=255)(hi2:idx=a+l / 4*2+2):∃ fr,
  fW env rH [11,9,10,8,1,0] (hp.length+1) (S3 hp b g n e a l m idx) σ=some (.exit 0,fr,σ):=by
 have e3:Int.tdiv (l:Int) 4=((l / 4:Nat):Int):=by rw[cD om];omega
 have g1:¬ (idx:Int)<=(a:Int)+((l / 4:Nat):Int)*2+1:=om
 have b1:l / 4<=255:=om
 have b2:a<=255:=om
 unfold S3;rw[fC rH.eq_1];simp(disch:=first|exact dis|fail) only[sy,simprocAttr,-List.reduceReplicate,e3,g1];exact⟨_,rfl⟩
theorem tj(a l m:Nat)(st:UInt64×Array Pr)(i:Nat):(Go.Sort.breakStep a l m st i).2.size=st.2.size:=by unfold Go.Sort.breakStep;simp only;split<;>rw[swp_size]
theorem NM{b g e n a be:Nat}{W:Array Pr}(hb:hp[b]?=some (.cells g true (prs W)))(hD:W.size=n)(hL:L<=b)(hh:H.contains b=false)(he:e=0\/e=2)(hn:n<=255)(hab:a<=be)(hbe:be<=n)(hF:Fit hp.length L H) :
  fS env (.func 271) [.slice (some ⟨b,0,some g⟩) n e,.int .i64 a,.int .i64 be,fM] ⟨hp,L,H,d⟩=some (.tuple #[],⟨hp.set b (.cells g true (prs (Go.Sort.breakPatterns W a be))),L,H,d⟩):=by
 rw[fF 271 _ _ afY];have hbl:=(af.1 hb).1;have e1:(be:Int) - (a:Int)=((be - a:Nat):Int):=om
 unfold Go.Sort.breakPatterns;simp only;by_cases h8:be - a>=8
 ·rw[if_pos h8];have g1:((be - a:Nat):Int)>=8:=om
  have hln:a+(be - a)<=n:=om
  generalize hl:be - a=l at *;have e3:Int.tdiv (l:Int) 4=((l / 4:Nat):Int):=by rw[cD om];omega
  have b1:l / 4<=255:=om
  have b2:a<=255:=om
  have kp:=fun hp L H d hF=>Xf (hp:=hp) (L:=L) (H:=H) (d:=d) (x:=l) om hF;have hU:((UInt64.ofNat l).toNat:Int)=(l:Int):=by rw[UInt64.toNat_ofNat'];omega
  obtain⟨i,hi⟩:∃ i,i=a+l / 4*2 - 1:=⟨_,rfl⟩;have e4:(a:Int)+((l / 4:Nat):Int)*2 - 1=(i:Int):=om
  rw[<- hi];have s1:=Hh (hp:=hp) (L:=L) (H:=H) (b:=b) (g:=g) (e:=e) (a:=a) (idx:=i) hbl hL hh he hn om hln hF (UInt64.ofNat l,W) hD om om;have D1:=tj a l (1 <<< Go.Sort.bitsLen l) (UInt64.ofNat l,W) i;have s1':=Hh (hp:=hp) (L:=L) (H:=H) (b:=b) (g:=g) (e:=e) (a:=a) (idx:=i+1) hbl hL hh he hn om hln hF (Go.Sort.breakStep a l (1 <<< Go.Sort.bitsLen l) (UInt64.ofNat l,W) i) (by rw[D1];exact hD) om om;have D2:=tj a l (1 <<< Go.Sort.bitsLen l) (Go.Sort.breakStep a l (1 <<< Go.Sort.bitsLen l) (UInt64.ofNat l,W) i) (i+1);have ago:=Hh (hp:=hp) (L:=L) (H:=H) (b:=b) (g:=g) (e:=e) (a:=a) (idx:=i+2) hbl hL hh he hn om hln hF (Go.Sort.breakStep a l (1 <<< Go.Sort.bitsLen l) (Go.Sort.breakStep a l (1 <<< Go.Sort.bitsLen l) (UInt64.ofNat l,W) i) (i+1)) (by rw[D2,D1];exact hD) om om;obtain⟨fr,hend⟩:=adk (hp:=hp) (b:=b) (g:=g) (e:=e) (n:=n) (a:=a) (l:=l) (m:=1 <<< Go.Sort.bitsLen l) (idx:=i+2+1) (σ:=⟨Xg hp b g (Go.Sort.breakStep a l (1 <<< Go.Sort.bitsLen l) (Go.Sort.breakStep a l (1 <<< Go.Sort.bitsLen l) (Go.Sort.breakStep a l (1 <<< Go.Sort.bitsLen l) (UInt64.ofNat l,W) i) (i+1)) (i+2)),L,H,[]⟩) om om om;rw[<- ago,<- s1',<- s1] at hend;generalize Go.Sort.breakStep a l (1 <<< Go.Sort.bitsLen l) (Go.Sort.breakStep a l (1 <<< Go.Sort.bitsLen l) (Go.Sort.breakStep a l (1 <<< Go.Sort.bitsLen l) (UInt64.ofNat l,W) i) (i+1)) (i+2)=R at *;clear s1 s1' ago D1 D2;obtain⟨rr,W3⟩:=R;unfold S3 Xg at hend;simp only[hU] at hend ⊢;rw[jt hb] at hend;generalize 1 <<< Go.Sort.bitsLen l=m at *;simp only[fM] at hend ⊢;have l0:(l:Int)<=255:=om
  simp(disch:=first|exact dis|fail) only[sy,simprocAttr,-List.reduceReplicate,hF.all,Px,e1,e3,e4,g1,kp,hend]
 ·rw[if_neg h8];have g1:¬ ((be - a:Nat):Int)>=8:=om
  rw[jt hb];simp(disch:=first|exact dis|fail) only[sy,simprocAttr,-List.reduceReplicate,hF.all,Px,e1,g1]
end
end TtO
namespace TtP
open Go Go.RowKit AM fO LtA SyP TmM TsA TsB TsE TsI TsJ TtA TtB TtC TtD TtE TtF TtG TtH TtI TtJ TtK TtL TtM TtN TtO Bt
def K3:fG:=(.seq (.seq (.drawn [⟨(some 81),none,0,false,.mv (T 1)⟩,⟨(some 82),none,1,false,.bin .gtr (T 81) (Ki 0)⟩,⟨(some 83),none,3,false,.mv (T 82)⟩,⟨(some 84),(some (83,true)),7,false,.mv (T 4)⟩,⟨(some 85),(some (83,true)),7,false,.mv (T 0)⟩,⟨(some 86),(some (83,true)),7,false,.mv (T 1)⟩,⟨(some 87),(some (83,true)),39,false,.bin .sub (T 86) (Ki 1)⟩,⟨(some 88),(some (83,true)),119,false,.fK 2 (T 85) (T 87)⟩,⟨(some 89),(some (83,true)),247,false,.load (some 2) (T 88)⟩,⟨(some 90),(some (83,true)),7,false,.mv (T 0)⟩,⟨(some 91),(some (83,true)),7,false,.mv (T 13)⟩,⟨(some 92),(some (83,true)),1543,false,.fK 2 (T 90) (T 91)⟩,⟨(some 93),(some (83,true)),3591,false,.load (some 2) (T 92)⟩,⟨(some 94),(some (83,true)),8191,true,.iP (T 84) [(T 89),(T 93)]⟩,⟨(some 95),(some (83,true)),16383,false,.bin .lss (T 94) (Ki 0)⟩,⟨(some 96),(some (83,true)),32767,false,.un .not (T 95)⟩,⟨(some 97),none,65535,false,.pick (T 83) (T 96) (Kb false)⟩]) (.cond (T 97) (.seq (.region [Mv 98 0,Mv 99 1,Mv 100 2,Mv 101 13,Mv 102 4,D 103 (.call 275 [(T 98),(T 99),(T 100),(T 101),(T 102)]),Mv 15 103]) (.seq (.region [Mv 104 15,Mv 1 104]) (.exit 1))) .skip)) (.seq (.region [Mv 106 0,Mv 107 1,Mv 108 2,Mv 109 13,Mv 110 4,D 111 (.call 276 [(T 106),(T 107),(T 108),(T 109),(T 110)]),Mv 105 111,D 112 (.ext (T 105) 0),D 113 (.ext (T 105) 1),Mv 16 112,Mv 17 113]) (.seq (.region [Mv 114 17,Mv 11 114]) (.seq (.region [Mv 115 16,Mv 116 1,D 117 (.bin .sub (T 115) (T 116)),Mv 118 2,Mv 119 16,D 120 (.bin .sub (T 118) (T 119)),Mv 18 117,Mv 19 120]) (.seq (.region [Mv 121 12,D 122 (.bin .quo (T 121) (Ki 8)),Mv 20 122]) (.seq (.region [Mv 123 18,Mv 124 19,D 125 (.bin .lss (T 123) (T 124))]) (.cond (T 125) (.seq (.region [Mv 126 18,Mv 127 20,D 128 (.bin .geq (T 126) (T 127)),Mv 10 128]) (.seq (.region [Mv 129 0,Mv 130 1,Mv 131 16,Mv 132 3,Mv 133 4,D 134 (.call 255 [(T 129),(T 130),(T 131),(T 132),(T 133)])]) (.region [Mv 135 16,D 136 (.bin .add (T 135) (Ki 1)),Mv 1 136]))) (.seq (.region [Mv 137 19,Mv 138 20,D 139 (.bin .geq (T 137) (T 138)),Mv 10 139]) (.seq (.region [Mv 140 0,Mv 141 16,D 142 (.bin .add (T 141) (Ki 1)),Mv 143 2,Mv 144 3,Mv 145 4,D 146 (.call 255 [(T 140),(T 142),(T 143),(T 144),(T 145)])]) (.region [Mv 147 16,Mv 2 147]))))))))))
def K2:fG:=(.seq (.seq (.region [Mv 68 10,Mv 69 68,Gd 70 69 true (.mv (T 11)),D 71 (.pick (T 69) (T 70) (Kb false)),Mv 72 71,Gd 73 72 true (.mv (T 14)),Gd 74 72 true (.bin .eql (T 73) (Ki 1)),D 75 (.pick (T 72) (T 74) (Kb false))]) (.cond (T 75) (.seq (.region [Mv 76 0,Mv 77 1,Mv 78 2,Mv 79 4,D 80 (.call 274 [(T 76),(T 77),(T 78),(T 79)])]) (.cond (T 80) .ret .skip)) .skip)) K3)
def K1:fG:=(.seq (.region [Mv 48 0,Mv 49 1,Mv 50 2,Mv 51 4,D 52 (.call 272 [(T 48),(T 49),(T 50),(T 51)]),Mv 47 52,D 53 (.ext (T 47) 0),D 54 (.ext (T 47) 1),Mv 13 53,Mv 14 54]) (.seq (.seq (.region [Mv 55 14,D 56 (.bin .eql (T 55) (Ki 2))]) (.cond (T 56) (.seq (.region [Mv 57 0,Mv 58 1,Mv 59 2,Mv 60 4,D 61 (.call 273 [(T 57),(T 58),(T 59),(T 60)])]) (.seq (.region [Mv 62 2,D 63 (.bin .sub (T 62) (Ki 1)),Mv 64 13,Mv 65 1,D 66 (.bin .sub (T 64) (T 65)),D 67 (.bin .sub (T 63) (T 66)),Mv 13 67]) (.region [D 14 (.mv (Ki 1))]))) .skip)) K2))
theorem split:pK=(.block 1 (.seq (.region [Mv 21 2,Mv 22 1,D 23 (.bin .sub (T 21) (T 22)),Mv 12 23]) (.seq (.seq (.region [Mv 24 12,D 25 (.bin .leq (T 24) (Ki 12))]) (.cond (T 25) (.seq (.region [Mv 26 0,Mv 27 1,Mv 28 2,Mv 29 4,D 30 (.call 269 [(T 26),(T 27),(T 28),(T 29)])]) .ret) .skip)) (.seq (.seq (.region [Mv 31 3,D 32 (.bin .eql (T 31) (Ki 0))]) (.cond (T 32) (.seq (.region [Mv 33 0,Mv 34 1,Mv 35 2,Mv 36 4,D 37 (.call 270 [(T 33),(T 34),(T 35),(T 36)])]) .ret) .skip)) (.seq (.seq (.region [Mv 38 10,D 39 (.un .not (T 38))]) (.cond (T 39) (.seq (.region [Mv 40 0,Mv 41 1,Mv 42 2,Mv 43 4,D 44 (.call 271 [(T 40),(T 41),(T 42),(T 43)])]) (.region [Mv 45 3,D 46 (.bin .sub (T 45) (Ki 1)),Mv 3 46])) .skip)) K1))))):=rfl
def aaf(W:Array Pr)(pv a be limit:Nat)(wb wp:Bool):Array Pr:=
 if a > 0&&!ltP W[a - 1]! W[pv]! then
  match Go.Sort.partitionEqual ltP W a be pv with
  | (mid,d4)=>if _h:a < mid/\mid<=be then Go.Sort.pdq ltP d4 mid be limit wb wp else d4
 else
  match Go.Sort.partition ltP W a be pv with
  | (mid,ap,d4)=>
   if _h:a<=mid/\mid < be then
    if mid - a < be - mid then Go.Sort.pdq ltP (Go.Sort.pdq ltP d4 a mid limit true true) (mid+1) be limit (decide (mid - a>=(be - a) / 8)) ap
    else Go.Sort.pdq ltP (Go.Sort.pdq ltP d4 (mid+1) be limit true true) a mid limit (decide (be - mid>=(be - a) / 8)) ap
   else d4
def S4(W:Array Pr)(pv:Nat)(hint:Go.Sort.Hint)(a be limit:Nat)(wb wp:Bool):Array Pr:=
 let pi:=if wb&&wp&&hint=.increasing then Go.Sort.partialInsertionSort ltP W a be else (W,false)
 if pi.2 then pi.1 else aaf pi.1 pv a be limit wb wp
def adl(W:Array Pr)(a be limit:Nat)(wb wp:Bool):Array Pr:=
 let c:=Go.Sort.choosePivot ltP W a be
 S4 (if c.2=.decreasing then Go.Sort.reverseRange W a be else W) (if c.2=.decreasing then (be - 1) - (c.1 - a) else c.1) (if c.2=.decreasing then Go.Sort.Hint.increasing else c.2) a be limit wb wp
theorem Xh(W:Array Pr)(a be limit:Nat)(wb wp:Bool):Go.Sort.pdq ltP W a be limit wb wp =
  if be - a<=12 then Go.Sort.insertionSort ltP W a be else
  if limit=0 then Go.Sort.heapSort ltP W a be else
  adl (if !wb then Go.Sort.breakPatterns W a be else W) a be (if !wb then limit - 1 else limit) wb wp:=by rw[Go.Sort.pdq];rfl
section
variable{hp:List Blk}{L:Nat}{H d:List Nat}
def NN(b g n e:Nat)(a be limit:Nat)(wb wp:Bool):Fr:=[(3,.int .i64 limit),(11,.bool wp),(10,.bool wb),(0,.slice (some ⟨b,0,some g⟩) n e),(1,.int .i64 a),(2,.int .i64 be),(4,fM)]
def PIH(hp:List Blk)(L:Nat)(H:List Nat)(b g n e k:Nat):Prop:=∀ (W:Array Pr) (a be limit:Nat) (wb wp:Bool),be - a<=k->W.size=n->a<=be->be<=n->limit<=64->Go.Sort.Below ltP a be W->∃ fr,
 fW env pK [3,11,10,0,1,2,4] hp.length (NN b g n e a be limit wb wp) ⟨hp.set b (.cells g true (prs W)),L,H,[]⟩=some (.ret,fr,⟨hp.set b (.cells g true (prs (Go.Sort.pdq ltP W a be limit wb wp))),L,H,[]⟩)
structure PqG(fr:Fr)(b g n e:Nat)(a be limit:Nat)(wb wp:Bool):Prop where
 g0:fr.get 0=some (.slice (some ⟨b,0,some g⟩) n e)
 g1:fr.get 1=some (.int .i64 a)
 g2:fr.get 2=some (.int .i64 be)
 g3:fr.get 3=some (.int .i64 limit)
 g4:fr.get 4=some fM
 g10:fr.get 10=some (.bool wb)
 g11:fr.get 11=some (.bool wp)
 g12:fr.get 12=some (.int .i64 (be - a:Nat))
theorem CD{b g n e k a be limit:Nat}{W:Array Pr}(hb:b < hp.length)(ih:PIH hp L H b g n e k)(hk:be - a<=k)(hD:W.size=n)(hab:a<=be)(hbe:be<=n)(p9:limit<=64)(hB:Go.Sort.Below ltP a be W)(hF:Fit hp.length L H) :
  fS env (.func 255) [.slice (some ⟨b,0,some g⟩) n e,.int .i64 a,.int .i64 be,.int .i64 limit,fM] ⟨hp.set b (.cells g true (prs W)),L,H,d⟩=some (.tuple #[],⟨hp.set b (.cells g true (prs (Go.Sort.pdq ltP W a be limit true true))),L,H,d⟩):=by rw[fF 255 _ _ afQ];obtain⟨fr,h⟩:=ih W a be limit true true hk hD hab hbe p9 hB;unfold NN at h;simp only[fM] at h ⊢;have hl2:∀ B:Blk,(hp.set b B).length=hp.length:=fun B=>aG ..;simp(disch:=first|exact dis|fail) only[sy,simprocAttr,-List.reduceReplicate,hF.all,Wt,hl2,h]
theorem PO{b g n e k a be limit pv:Nat}{wb wp:Bool}{W:Array Pr}(hb:b < hp.length)(hL:L<=b)(hh:H.contains b=false)(he:e=0\/e=2)(hn:n<=255)(ih:PIH hp L H b g n e k)(hk:be - a<=k+1)(hD:W.size=n)(hab:a < be)(hbe:be<=n)(p9:limit<=64)(hB:Go.Sort.Below ltP a be W)(hp1:a<=pv)(hp2:pv < be)
  {fr:Fr} (G:PqG fr b g n e a be limit wb wp) (g13:fr.get 13=some (.int .i64 pv)) (hF:Fit hp.length L H):∃ fr2,
  sP env pK [3,11,10,0,1,2,4] hp.length (qc 1 (ga env K3 fr ⟨hp.set b (.cells g true (prs W)),L,H,[]⟩))=some (.ret,fr2,⟨hp.set b (.cells g true (prs (aaf W pv a be limit wb wp))),L,H,[]⟩):=by
 obtain⟨g0,g1,g2,g3,g4,g10,g11,g12⟩:=G;have hg1:∀ B:Blk,(hp.set b B)[b]?=some B:=fun B=>aD hb;have hss:∀ A B:Blk,(hp.set b A).set b B=hp.set b B:=fun A B=>bG ..;have hl2:∀ B:Blk,(hp.set b B).length=hp.length:=fun B=>aG ..;have hl:=fun p q hp L H d hF=>jj (hp:=hp) (L:=L) (H:=H) (d:=d) p q hF;have hFb:∀ B:Blk,Fit (hp.set b B).length L H:=fun B=>by rw[hl2];exact hF
 have e8:Int.tdiv ((be - a:Nat):Int) 8=(((be - a) / 8:Nat):Int):=by rw[cD om];omega
 have hlen:(prs W).length=2*n:=by rw[jH,hD]
 by_cases hc:(decide (a > 0)&&!ltP W[a - 1]! W[pv]!)=true
 ·obtain⟨ha0,hnl⟩:=(au _ _ ▸ hc:_/\_);replace ha0:a > 0:=of_decide_eq_true ha0;replace hnl:ltP W[a - 1]! W[pv]! = false:=by simpa using hnl
  have cc:¬ kT W[a - 1]! W[pv]! < 0:=fun h=>by rw[show ltP W[a - 1]! W[pv]! = true from decide_eq_true h] at hnl;cases hnl
  have h1:(a:Int) > 0:=om
  have e1:(a:Int) - 1=((a - 1:Nat):Int):=om
  obtain⟨w1,w2,w3,w4,w5,w6,w7⟩:=iM hD (x:=a - 1) (y:=pv) om om;have pe:=fun d=>KG (hp:=hp.set b (.cells g true (prs W))) (L:=L) (H:=H) (d:=d) (g:=g) (e:=e) (a:=a) (be:=be) (pv:=pv) (hg1 _) hD hL hh he om hab hbe hp2 (hFb _);unfold aaf;rw[if_pos hc];have hr:=Go.Sort.round_eq rM (Go.Sort.partitionEqual_holds ltP) ha0 hp1 hp2 (by rw[hD];exact hbe) hB hnl (show Go.Sort.partitionEqual ltP W a be pv=((Go.Sort.partitionEqual ltP W a be pv).1,(Go.Sort.partitionEqual ltP W a be pv).2) from rfl);generalize Go.Sort.partitionEqual ltP W a be pv=R at *;obtain⟨mid,d4⟩:=R;simp only at pe hr ⊢;obtain⟨m1,m2,m3,m4,_⟩:=hr;rw[dif_pos ⟨m1,m2⟩];obtain⟨fr2,h⟩:=ih d4 mid be limit wb wp om (by rw[m3];exact hD) m2 hbe p9 m4;unfold NN at h;simp only[fM,hss] at h pe g4 ⊢;unfold K3;refine⟨fr2,?_⟩;simp(disch:=first|exact dis|fail) only[sy,simprocAttr,-List.reduceReplicate,hF.all,g0,g1,g2,g3,g4,g10,g11,g12,g13,hg1,hh,hl,h1,e1,w1,w2,w3,w4,w5,w6,w7,cc,pe,h]
 ·have pe:=fun d=>oC (hp:=hp.set b (.cells g true (prs W))) (L:=L) (H:=H) (d:=d) (g:=g) (e:=e) (a:=a) (be:=be) (pv:=pv) (hg1 _) hD hL hh he om hab hbe hp2 (hFb _);unfold aaf;rw[if_neg hc];have hr:=Go.Sort.round_part rM (Go.Sort.partition_holds ltP) hp1 hp2 (by rw[hD];exact hbe) hB (show Go.Sort.partition ltP W a be pv=((Go.Sort.partition ltP W a be pv).1,(Go.Sort.partition ltP W a be pv).2.1,(Go.Sort.partition ltP W a be pv).2.2) from rfl);generalize Go.Sort.partition ltP W a be pv=R at *;obtain⟨mid,ap,d4⟩:=R;simp only at pe hr ⊢;obtain⟨m1,m2,m3,m4,m5,m6,m7⟩:=hr;rw[dif_pos ⟨m1,m2⟩];have e1:(mid:Int) - (a:Int)=((mid - a:Nat):Int):=om
  have e2:(be:Int) - (mid:Int)=((be - mid:Nat):Int):=om
  have hcs:(a=0/\¬ (a:Int) > 0)\/((a:Int) > 0/\kT W[a - 1]! W[pv]! < 0):=by
   by_cases h0:a=0
   ·exact .inl ⟨h0,om⟩
   ·refine .inr ⟨om,?_⟩;cases hlt:ltP W[a - 1]! W[pv]! with
    | true=>exact of_decide_eq_true hlt
    | false=>exact absurd (by rw[hlt];simp;omega) hc
  clear hc;by_cases hlr:mid - a < be - mid
  ·rw[if_pos hlr];have h2:((mid - a:Nat):Int) < ((be - mid:Nat):Int):=om
   have cl:=fun d=>CD (d:=d) hb ih om (m3.trans hD) m1 om p9 m4 hF;obtain⟨p1,p2⟩:=Go.Sort.pdq_sorts ltP rM d4 a mid limit true true m1 (by rw[m3,hD];omega) m4;obtain⟨q1,_⟩:=m6 _ p1 p2;generalize Go.Sort.pdq ltP d4 a mid limit true true=d5 at *;obtain⟨fr2,h⟩:=ih d5 (mid+1) be limit (decide (mid - a>=(be - a) / 8)) ap om (by rw[p1.1,m3,hD]) om hbe p9 q1;unfold NN at h;have e3:decide (((mid - a:Nat):Int)>=(((be - a) / 8:Nat):Int))=decide (mid - a>=(be - a) / 8):=by rw[decide_eq_decide];omega
   generalize decide (mid - a>=(be - a) / 8)=wb2 at *;simp only[fM,hss,aC,aI] at h pe cl g4 ⊢;unfold K3;refine⟨fr2,?_⟩;rcases hcs with ⟨h0,h1⟩ | ⟨h1,cc⟩
   ·clear hl;simp(disch:=first|exact dis|fail) only[sy,simprocAttr,-List.reduceReplicate,hF.all,g0,g1,g2,g3,g4,g10,g11,g12,g13,hg1,hh,h1,e1,e2,e3,e8,h2,pe,cl,h]
   ·have e4:(a:Int) - 1=((a - 1:Nat):Int):=om
    obtain⟨w1,w2,w3,w4,w5,w6,w7⟩:=iM hD (x:=a - 1) (y:=pv) om om;simp(disch:=first|exact dis|fail) only[sy,simprocAttr,-List.reduceReplicate,hF.all,g0,g1,g2,g3,g4,g10,g11,g12,g13,hg1,hh,hl,h1,e1,e2,e3,e4,e8,h2,w1,w2,w3,w4,w5,w6,w7,cc,pe,cl,h]
  ·rw[if_neg hlr];have h2:¬ ((mid - a:Nat):Int) < ((be - mid:Nat):Int):=om
   have cl:=fun d=>CD (d:=d) hb ih om (m3.trans hD) om hbe p9 m5 hF;obtain⟨p1,p2⟩:=Go.Sort.pdq_sorts ltP rM d4 (mid+1) be limit true true om (by rw[m3,hD];omega) m5;obtain⟨q1,_⟩:=m7 _ p1 p2;generalize Go.Sort.pdq ltP d4 (mid+1) be limit true true=d5 at *;obtain⟨fr2,h⟩:=ih d5 a mid limit (decide (be - mid>=(be - a) / 8)) ap om (by rw[p1.1,m3,hD]) om om p9 q1;unfold NN at h;have e3:decide (((be - mid:Nat):Int)>=(((be - a) / 8:Nat):Int))=decide (be - mid>=(be - a) / 8):=by rw[decide_eq_decide];omega
   generalize decide (be - mid>=(be - a) / 8)=wb2 at *;simp only[fM,hss,aC,aI] at h pe cl g4 ⊢;unfold K3;refine⟨fr2,?_⟩;rcases hcs with ⟨h0,h1⟩ | ⟨h1,cc⟩
   ·clear hl;simp(disch:=first|exact dis|fail) only[sy,simprocAttr,-List.reduceReplicate,hF.all,g0,g1,g2,g3,g4,g10,g11,g12,g13,hg1,hh,h1,e1,e2,e3,e8,h2,pe,cl,h]
   ·have e4:(a:Int) - 1=((a - 1:Nat):Int):=om
    obtain⟨w1,w2,w3,w4,w5,w6,w7⟩:=iM hD (x:=a - 1) (y:=pv) om om;simp(disch:=first|exact dis|fail) only[sy,simprocAttr,-List.reduceReplicate,hF.all,g0,g1,g2,g3,g4,g10,g11,g12,g13,hg1,hh,hl,h1,e1,e2,e3,e4,e8,h2,w1,w2,w3,w4,w5,w6,w7,cc,pe,cl,h]
theorem KH{hint:Go.Sort.Hint} : (uJ hint:Int)=1↔hint=.increasing:=by cases hint<;>simp[uJ]
theorem agp{b g n e k a be limit pv:Nat}{hint:Go.Sort.Hint}{wb wp:Bool}{W:Array Pr}(hb:b < hp.length)(hL:L<=b)(hh:H.contains b=false)(he:e=0\/e=2)(hn:n<=255)(ih:PIH hp L H b g n e k)(hk:be - a<=k+1)(hD:W.size=n)(hab:a < be)(hbe:be<=n)(p9:limit<=64)(hB:Go.Sort.Below ltP a be W)(hp1:a<=pv)(hp2:pv < be)
  {fr:Fr} (G:PqG fr b g n e a be limit wb wp) (g13:fr.get 13=some (.int .i64 pv)) (g14:fr.get 14=some (.int .i64 (uJ hint))) (hF:Fit hp.length L H) (hc:¬ (wb&&wp&&decide (hint=.increasing))=true):∃ fr2,
  sP env pK [3,11,10,0,1,2,4] hp.length (qc 1 (ga env K2 fr ⟨hp.set b (.cells g true (prs W)),L,H,[]⟩))=some (.ret,fr2,⟨hp.set b (.cells g true (prs (S4 W pv hint a be limit wb wp))),L,H,[]⟩):=by
 obtain⟨g0,g1,g2,g3,g4,g10,g11,g12⟩:=G;have hg1:∀ B:Blk,(hp.set b B)[b]?=some B:=fun B=>aD hb;have hss:∀ A B:Blk,(hp.set b A).set b B=hp.set b B:=fun A B=>bG ..;have hl2:∀ B:Blk,(hp.set b B).length=hp.length:=fun B=>aG ..;have hFb:∀ B:Blk,Fit (hp.set b B).length L H:=fun B=>by rw[hl2];exact hF
 have k3:=fun(fr:Fr) G g13=>PO (pv:=pv) hb hL hh he hn ih hk hD hab hbe p9 hB hp1 hp2 (fr:=fr) (wb:=wb) (wp:=wp) G g13 hF;unfold S4;simp only;rw[if_neg hc,if_neg (by simp)];cases wb with
 | false=>
  simp only[fM] at g4 ⊢;unfold K2;simp(disch:=first|exact dis|fail) only[sy,simprocAttr,-List.reduceReplicate,hF.all,g0,g1,g2,g3,g4,g10,g11,g12,g13,g14];exact k3 _ ⟨by simp only[oR];exact g0,g1,g2,g3,g4,g10,g11,g12⟩ g13
 | true=>
  cases wp with
  | false=>
   simp only[fM] at g4 ⊢;unfold K2;simp(disch:=first|exact dis|fail) only[sy,simprocAttr,-List.reduceReplicate,hF.all,g0,g1,g2,g3,g4,g10,g11,g12,g13,g14];exact k3 _ ⟨by simp only[oR];exact g0,g1,g2,g3,g4,g10,g11,g12⟩ g13
  | true=>
   have hx:¬ (uJ hint:Int)=1:=fun h=>hc (by rw[KH.1 h];rfl);clear hc;simp only[fM] at g4 ⊢;unfold K2;simp(disch:=first|exact dis|fail) only[sy,simprocAttr,-List.reduceReplicate,hF.all,g0,g1,g2,g3,g4,g10,g11,g12,g13,g14,hx];exact k3 _ ⟨by simp only[oR];exact g0,g1,g2,g3,g4,g10,g11,g12⟩ g13
theorem adm{b g n e k a be limit pv:Nat}{hint:Go.Sort.Hint}{wb wp:Bool}{W:Array Pr}(hb:b < hp.length)(hL:L<=b)(hh:H.contains b=false)(he:e=0\/e=2)(hn:n<=255)(ih:PIH hp L H b g n e k)(hk:be - a<=k+1)(hD:W.size=n)(hab:a < be)(hbe:be<=n)(p9:limit<=64)(hB:Go.Sort.Below ltP a be W)(hp1:a<=pv)(hp2:pv < be)
  {fr:Fr} (G:PqG fr b g n e a be limit wb wp) (g13:fr.get 13=some (.int .i64 pv)) (g14:fr.get 14=some (.int .i64 (uJ hint))) (hF:Fit hp.length L H) (hc:(wb&&wp&&decide (hint=.increasing))=true):∃ fr2,
  sP env pK [3,11,10,0,1,2,4] hp.length (qc 1 (ga env K2 fr ⟨hp.set b (.cells g true (prs W)),L,H,[]⟩))=some (.ret,fr2,⟨hp.set b (.cells g true (prs (S4 W pv hint a be limit wb wp))),L,H,[]⟩):=by
 obtain⟨g0,g1,g2,g3,g4,g10,g11,g12⟩:=G;have hg1:∀ B:Blk,(hp.set b B)[b]?=some B:=fun B=>aD hb;have hss:∀ A B:Blk,(hp.set b A).set b B=hp.set b B:=fun A B=>bG ..;have hl2:∀ B:Blk,(hp.set b B).length=hp.length:=fun B=>aG ..;have hFb:∀ B:Blk,Fit (hp.set b B).length L H:=fun B=>by rw[hl2];exact hF
 unfold S4;simp only;rw[if_pos hc];obtain⟨rfl,rfl,hi⟩:wb=true/\wp=true/\hint=.increasing:=by simp only[au,decide_eq_true_eq] at hc;exact⟨hc.1.1,hc.1.2,hc.2⟩
 clear hc;have hx:(uJ hint:Int)=1:=KH.2 hi;have pe:=fun d=>Hg (hp:=hp.set b (.cells g true (prs W))) (L:=L) (H:=H) (d:=d) (g:=g) (e:=e) (a:=a) (be:=be) (hg1 _) hD hL hh he om hab hbe (hFb _);obtain⟨p1,p2⟩:=Go.Sort.partialInsertionSort_holds rM W a be hab (by rw[hD];exact hbe) hB;generalize Go.Sort.partialInsertionSort ltP W a be=R at *;obtain⟨W1,f⟩:=R;simp only at pe p1 ⊢;cases f with
 | true=>
  rw[if_pos rfl];simp only[fM,hss] at g4 pe ⊢;unfold K2;simp(disch:=first|exact dis|fail) only[sy,simprocAttr,-List.reduceReplicate,hF.all,g0,g1,g2,g3,g4,g10,g11,g12,g13,g14,hx,pe];exact⟨_,rfl⟩
 | false=>
  rw[if_neg (by simp)];have hB1:=hB.perm (by rw[hD];exact hbe) p1;have k3':=fun(fr:Fr) G g13=>PO (pv:=pv) hb hL hh he hn ih hk (p1.1.trans hD) hab hbe p9 hB1 hp1 hp2 (fr:=fr) (wb:=true) (wp:=true) G g13 hF;simp only[fM,hss] at g4 pe ⊢;unfold K2;simp(disch:=first|exact dis|fail) only[sy,simprocAttr,-List.reduceReplicate,hF.all,g0,g1,g2,g3,g4,g10,g11,g12,g13,g14,hx,pe];exact k3' _ ⟨by simp only[oR];exact g0,g1,g2,g3,g4,g10,g11,g12⟩ g13
theorem PR{b g n e k a be limit pv:Nat}{hint:Go.Sort.Hint}{wb wp:Bool}{W:Array Pr}(hb:b < hp.length)(hL:L<=b)(hh:H.contains b=false)(he:e=0\/e=2)(hn:n<=255)(ih:PIH hp L H b g n e k)(hk:be - a<=k+1)(hD:W.size=n)(hab:a < be)(hbe:be<=n)(p9:limit<=64)(hB:Go.Sort.Below ltP a be W)(hp1:a<=pv)(hp2:pv < be)
  {fr:Fr} (G:PqG fr b g n e a be limit wb wp) (g13:fr.get 13=some (.int .i64 pv)) (g14:fr.get 14=some (.int .i64 (uJ hint))) (hF:Fit hp.length L H):∃ fr2,
  sP env pK [3,11,10,0,1,2,4] hp.length (qc 1 (ga env K2 fr ⟨hp.set b (.cells g true (prs W)),L,H,[]⟩))=some (.ret,fr2,⟨hp.set b (.cells g true (prs (S4 W pv hint a be limit wb wp))),L,H,[]⟩):=by
 by_cases hc:(wb&&wp&&decide (hint=.increasing))=true
 ·exact adm hb hL hh he hn ih hk hD hab hbe p9 hB hp1 hp2 G g13 g14 hF hc
 ·exact agp hb hL hh he hn ih hk hD hab hbe p9 hB hp1 hp2 G g13 g14 hF hc
theorem PS{b g n e k a be limit:Nat}{wb wp:Bool}{W:Array Pr}(hb:b < hp.length)(hL:L<=b)(hh:H.contains b=false)(he:e=0\/e=2)(hn:n<=255)(ih:PIH hp L H b g n e k)(hk:be - a<=k+1)(hD:W.size=n)(hab:a < be)(hbe:be<=n)(p9:limit<=64)(hB:Go.Sort.Below ltP a be W)
  {fr:Fr} (G:PqG fr b g n e a be limit wb wp) (hF:Fit hp.length L H):∃ fr2,
  sP env pK [3,11,10,0,1,2,4] hp.length (qc 1 (ga env K1 fr ⟨hp.set b (.cells g true (prs W)),L,H,[]⟩))=some (.ret,fr2,⟨hp.set b (.cells g true (prs (adl W a be limit wb wp))),L,H,[]⟩):=by
 obtain⟨g0,g1,g2,g3,g4,g10,g11,g12⟩:=G;have hg1:∀ B:Blk,(hp.set b B)[b]?=some B:=fun B=>aD hb;have hss:∀ A B:Blk,(hp.set b A).set b B=hp.set b B:=fun A B=>bG ..;have hl2:∀ B:Blk,(hp.set b B).length=hp.length:=fun B=>aG ..;have hFb:∀ B:Blk,Fit (hp.set b B).length L H:=fun B=>by rw[hl2];exact hF
 have pc:=fun d=>NK (hp:=hp.set b (.cells g true (prs W))) (L:=L) (H:=H) (d:=d) (g:=g) (e:=e) (a:=a) (be:=be) (hg1 _) hD hh he om hab hbe (hFb _);have hc:=Go.Sort.choosePivot_holds ltP W a be hab;unfold adl;simp only;generalize Go.Sort.choosePivot ltP W a be=R at *;obtain⟨pv,hint⟩:=R;simp only at pc hc ⊢;by_cases hd:hint=.decreasing
 ·subst hd;rw[if_pos rfl,if_pos rfl,if_pos rfl];have pr:=fun d=>DN (hp:=hp.set b (.cells g true (prs W))) (L:=L) (H:=H) (d:=d) (g:=g) (e:=e) (a:=a) (be:=be) (hg1 _) hD hL hh he om hbe om om (hFb _);have p1:=Go.Sort.reverseRange_holds W a be om (by rw[hD];exact hbe);generalize Go.Sort.reverseRange W a be=W1 at *;have hB1:=hB.perm (by rw[hD];exact hbe) p1;have k2:=fun(fr:Fr) G g13 g14=>PR (pv:=be - 1 - (pv - a)) (hint:=.increasing) hb hL hh he hn ih hk (p1.1.trans hD) hab hbe p9 hB1 om om (fr:=fr) (wb:=wb) (wp:=wp) G g13 g14 hF;have e1:(be:Int) - 1 - ((pv:Int) - (a:Int))=((be - 1 - (pv - a):Nat):Int):=om
  simp only[fM,hss] at g4 pc pr ⊢;unfold K1;simp only[uJ] at pc;simp(disch:=first|exact dis|fail) only[sy,simprocAttr,-List.reduceReplicate,hF.all,g0,g1,g2,g3,g4,g10,g11,g12,pc,pr,e1];exact k2 _ ⟨by simp only[oR];exact g0,g1,g2,g3,g4,g10,g11,g12⟩ rfl rfl
 ·rw[if_neg hd,if_neg hd,if_neg hd];have hx:¬ (uJ hint:Int)=2:=by cases hint<;>first | exact absurd rfl hd | decide
  have k2:=fun(fr:Fr) G g13 g14=>PR (pv:=pv) (hint:=hint) hb hL hh he hn ih hk hD hab hbe p9 hB hc.1 hc.2 (fr:=fr) (wb:=wb) (wp:=wp) G g13 g14 hF;simp only[fM,hss] at g4 pc ⊢;unfold K1;simp(disch:=first|exact dis|fail) only[sy,simprocAttr,-List.reduceReplicate,hF.all,g0,g1,g2,g3,g4,g10,g11,g12,pc,hx];exact k2 _ ⟨by simp only[oR];exact g0,g1,g2,g3,g4,g10,g11,g12⟩ rfl rfl
theorem Xi{b g n e:Nat}(hb:b < hp.length)(hL:L<=b)(hh:H.contains b=false)(he:e=0\/e=2)(hn:n<=255)(hF:Fit hp.length L H):∀ k,PIH hp L H b g n e k:=by
 intro k;have hg1:∀ B:Blk,(hp.set b B)[b]?=some B:=fun B=>aD hb;have hss:∀ A B:Blk,(hp.set b A).set b B=hp.set b B:=fun A B=>bG ..;have hl2:∀ B:Blk,(hp.set b B).length=hp.length:=fun B=>aG ..;have hFb:∀ B:Blk,Fit (hp.set b B).length L H:=fun B=>by rw[hl2];exact hF
 induction k with
 | zero=>
  intro W a be limit wb wp hk hD hab hbe p9 hB;rw[Xh,if_pos om];have e1:(be:Int) - (a:Int)=((be - a:Nat):Int):=om
  have h1:((be - a:Nat):Int)<=12:=om
  have ci:=fun d=>sY (hp:=hp.set b (.cells g true (prs W))) (L:=L) (H:=H) (d:=d) (g:=g) (e:=e) (a:=a) (be:=be) (hg1 _) hD hL hh he om hbe om (hFb _);unfold NN;rw[fC split];simp only[fM,hss] at ci ⊢;simp(disch:=first|exact dis|fail) only[sy,simprocAttr,-List.reduceReplicate,hF.all,e1,h1,ci];exact⟨_,rfl⟩
 | succ k ih=>
  intro W a be limit wb wp hk hD hab hbe p9 hB;rw[Xh];have e1:(be:Int) - (a:Int)=((be - a:Nat):Int):=om
  unfold NN;rw[fC split];by_cases h12:be - a<=12
  ·rw[if_pos h12];have h1:((be - a:Nat):Int)<=12:=om
   have ci:=fun d=>sY (hp:=hp.set b (.cells g true (prs W))) (L:=L) (H:=H) (d:=d) (g:=g) (e:=e) (a:=a) (be:=be) (hg1 _) hD hL hh he om hbe om (hFb _);simp only[fM,hss] at ci ⊢;simp(disch:=first|exact dis|fail) only[sy,simprocAttr,-List.reduceReplicate,hF.all,e1,h1,ci];exact⟨_,rfl⟩
  ·rw[if_neg h12];have h1:¬ ((be - a:Nat):Int)<=12:=om
   by_cases h0:limit=0
   ·rw[if_pos h0];subst h0;have ci:=fun d=>SZ (hp:=hp.set b (.cells g true (prs W))) (L:=L) (H:=H) (d:=d) (g:=g) (e:=e) (a:=a) (be:=be) (hg1 _) hD hL hh he om om hbe (hFb _);simp only[fM,hss,aN] at ci ⊢;simp(disch:=first|exact dis|fail) only[sy,simprocAttr,-List.reduceReplicate,hF.all,e1,h1,ci];exact⟨_,rfl⟩
   ·rw[if_neg h0];have h2:¬ (limit:Int)=0:=om
    cases wb with
    | true=>
     have k1:=fun(fr:Fr) G=>PS hb hL hh he hn ih hk hD om hbe p9 hB (fr:=fr) (wb:=true) (wp:=wp) G hF;simp only[Bool.not_true,aO,↓reduceIte];simp only[fM,hss];simp(disch:=first|exact dis|fail) only[sy,simprocAttr,-List.reduceReplicate,hF.all,e1,h1,h2];exact k1 _ ⟨rfl,rfl,rfl,rfl,rfl,rfl,rfl,rfl⟩
    | false=>
     simp only[Bool.not_false,↓reduceIte];have pb:=fun d=>NM (hp:=hp.set b (.cells g true (prs W))) (L:=L) (H:=H) (d:=d) (g:=g) (e:=e) (a:=a) (be:=be) (hg1 _) hD hL hh he hn hab hbe (hFb _);have p1:=Go.Sort.breakPatterns_holds W a be hab (by rw[hD];exact hbe);generalize Go.Sort.breakPatterns W a be=W1 at *;have hB1:=hB.perm (by rw[hD];exact hbe) p1;have k1:=fun(fr:Fr) G=>PS hb hL hh he hn ih hk (p1.1.trans hD) om hbe (show limit - 1<=64 by omega) hB1 (fr:=fr) (wb:=false) (wp:=wp) G hF;have e2:(limit:Int) - 1=((limit - 1:Nat):Int):=om
     simp only[fM,hss] at pb ⊢;simp(disch:=first|exact dis|fail) only[sy,simprocAttr,-List.reduceReplicate,hF.all,e1,e2,h1,h2,pb];exact k1 _ ⟨rfl,rfl,rfl,rfl,rfl,rfl,rfl,rfl⟩
theorem S6{b g n e:Nat}{W:Array Pr}(hb:hp[b]?=some (.cells g true (prs W)))(hD:W.size=n)(hL:L<=b)(hh:H.contains b=false)(he:e=0\/e=2)(hn:n<=255)(hF:Fit hp.length L H) :
  fS env (.func 222) [.slice (some ⟨b,0,some g⟩) n e,fM] ⟨hp,L,H,d⟩=some (.tuple #[],⟨hp.set b (.cells g true (prs (Go.Sort.sort ltP W))),L,H,d⟩):=by rw[fF 222 _ _ afE];have hbl:=(af.1 hb).1;have cl:=fun d=>CD (hp:=hp) (L:=L) (H:=H) (d:=d) (g:=g) (e:=e) (a:=0) (be:=n) (limit:=Go.Sort.bitsLen n) (k:=n) (W:=W) hbl (Xi hbl hL hh he hn hF n) om hD om om (by have:=vm n om;omega) (.inl rfl) hF;rw[jt hb] at cl;have kl:=fun d=>ER (hp:=hp) (L:=L) (H:=H) (d:=d) (x:=n) om hF;unfold Go.Sort.sort;rw[hD];simp only[fM,aN] at cl ⊢;simp(disch:=first|exact dis|fail) only[sy,simprocAttr,-List.reduceReplicate,hF.all,Wm,cl,kl]
end
end TtP
namespace AM
open Go Go.RowKit
section
variable{fz:fD}{fr:Fr}{σ:St}
theorem S8:aop fz .nI fr σ=some (.map (some σ.heap.length),⟨σ.heap++[.map []],σ.lock,σ.hid,σ.fA⟩):=rfl
def Xj:Bool->Option Blk->Option (List (Value×Value))
 | false,some (.map es)=>some es
 | _,_=>none
theorem oT(es:List (Value×Value)):Xj false (some (.map es))=some es:=rfl
theorem wA(h:List Blk)(L:Nat)(H d:List Nat)(r:Nat):St.oE ⟨h,L,H,d⟩ r=Xj (H.contains r) h[r]?:=by
 unfold St.oE Xj;cases H.contains r with
 | true=>rfl
 | false=>
  simp only[aO,if_false];cases h[r]? with
  | none=>rfl
  | some B=>cases B<;>rfl
def abZ(σ:St):Option (List (Value×Value))->Option (Value×St)
 | some es=>some (.int .i64 es.length,σ)
 | none=>none
def ab0(σ:St)(m:Option Value):Option (Value×St):=m.bind fun m=>match m with
  | .map (some r)=>(σ.oE r).map fun es=>(.int .i64 es.length,σ)
  | _=>none
theorem CE(r:Nat):ab0 σ (some (.map (some r)))=abZ σ (σ.oE r):=by show(σ.oE r).map _=_;cases σ.oE r<;>rfl
theorem CF(es:List (Value×Value)):abZ σ (some es)=some (.int .i64 es.length,σ):=rfl
theorem KI(m:Operand):aop fz (.AS m) fr σ=ab0 σ (ev fr m):=rfl
def Xk(σ:St)(ag:Bool)(sh:List Sh)(z:Value)(ok:Bool)(m k:Option Value):Option (Value×St):=m.bind fun m=>k.bind fun k=>match m with
  | .map (some r)=>(σ.oE r).bind fun es=>(kg ag sh k es).bind fun q=>
    if gR ag sh k then some (if ok then .tuple #[q.getD z,.bool q.isSome] else q.getD z,σ) else none
  | _=>none
def KJ(σ:St)(ag:Bool)(sh:List Sh)(z:Value)(ok:Bool)(k:Value):Option (Option Value)->Option (Value×St)
 | some q=>if gR ag sh k then some (if ok then .tuple #[q.getD z,.bool q.isSome] else q.getD z,σ) else none
 | none=>none
def ab1(σ:St)(ag:Bool)(sh:List Sh)(z:Value)(ok:Bool)(k:Value):Option (List (Value×Value))->Option (Value×St)
 | some es=>KJ σ ag sh z ok k (kg ag sh k es)
 | none=>none
theorem rO(ag:Bool)(sh:List Sh)(z:Value)(ok:Bool)(r:Nat)(k:Value):Xk σ ag sh z ok (some (.map (some r))) (some k)=ab1 σ ag sh z ok k (σ.oE r):=by
 show(σ.oE r).bind _=_;cases σ.oE r with
 | none=>rfl
 | some es=>
  show(kg ag sh k es).bind _=KJ σ ag sh z ok k (kg ag sh k es);cases kg ag sh k es<;>rfl
theorem rP(ag:Bool)(sh:List Sh)(z:Value)(ok:Bool)(k:Value)(es:List (Value×Value)):ab1 σ ag sh z ok k (some es)=KJ σ ag sh z ok k (kg ag sh k es):=rfl
theorem KK(ag:Bool)(sh:List Sh)(z k:Value)(q:Option Value):KJ σ ag sh z true k (some q)=if gR ag sh k then some (.tuple #[q.getD z,.bool q.isSome],σ) else none:=rfl
theorem KL(ag:Bool)(sh:List Sh)(z k:Value)(q:Option Value):KJ σ ag sh z false k (some q)=if gR ag sh k then some (q.getD z,σ) else none:=rfl
theorem wB(ag:Bool)(sh:List Sh)(z:Value)(ok:Bool)(m k:Operand):aop fz (.AR ag sh z ok m k) fr σ=Xk σ ag sh z ok (ev fr m) (ev fr k):=by simp only[aop,Xk];congr 1
def Xl(σ:St)(ag:Bool)(sh:List Sh)(m k x:Option Value):Option (Value×St):=m.bind fun m=>k.bind fun k=>x.bind fun x=>match m with
  | .map (some r)=>if r < σ.lock then none else (σ.oE r).bind fun es=>(kg ag sh k es).bind fun q=>
    if q.isNone&&gR ag sh k&&held x then some (.tuple #[],{ σ with heap:=σ.heap.set r (.map (es++[(k,x)])),fA:=gm σ r [x] }) else none
  | _=>none
def KM(σ:St)(ag:Bool)(sh:List Sh)(r:Nat)(k x:Value)(es:List (Value×Value)):Option (Option Value)->Option (Value×St)
 | some q=>if q.isNone&&gR ag sh k&&held x then some (.tuple #[],⟨σ.heap.set r (.map (es++[(k,x)])),σ.lock,σ.hid,gm σ r [x]⟩) else none
 | none=>none
def ab2(σ:St)(ag:Bool)(sh:List Sh)(r:Nat)(k x:Value):Option (List (Value×Value))->Option (Value×St)
 | some es=>KM σ ag sh r k x es (kg ag sh k es)
 | none=>none
theorem NO(ag:Bool)(sh:List Sh)(r:Nat)(k x:Value):Xl σ ag sh (some (.map (some r))) (some k) (some x)=if r < σ.lock then none else ab2 σ ag sh r k x (σ.oE r):=by
 show(if r < σ.lock then none else (σ.oE r).bind _)=_;split
 ·rfl
 ·cases σ.oE r with
  | none=>rfl
  | some es=>
   show(kg ag sh k es).bind _=KM σ ag sh r k x es (kg ag sh k es);cases kg ag sh k es<;>rfl
theorem NP(ag:Bool)(sh:List Sh)(r:Nat)(k x:Value)(es:List (Value×Value)):ab2 σ ag sh r k x (some es)=KM σ ag sh r k x es (kg ag sh k es):=rfl
theorem S9(ag:Bool)(sh:List Sh)(r:Nat)(k:Value)(i:IntKind)(x:Int)(es:List (Value×Value)):KM σ ag sh r k (.int i x) es (some none)=if gR ag sh k then some (.tuple #[],⟨σ.heap.set r (.map (es++[(k,.int i x)])),σ.lock,σ.hid,σ.fA⟩) else none:=by unfold KM;cases gR ag sh k<;>rfl
theorem Xm(ag:Bool)(sh:List Sh)(m k x:Operand):aop fz (.jN ag sh m k x) fr σ=Xl σ ag sh (ev fr m) (ev fr k) (ev fr x):=by simp only[aop,Xl];congr 1
end
end AM
namespace TuA
open Go Go.RowKit AM fO LtA SyP TmM TsA TsB TsE TsI TsJ TtA TtB TtC TtD TtE TtF TtG TtH TtI TtJ TtK TtL TtM TtN TtO TtP Bt
def pv(p:Pr):Value:=.agg #[.int .i64 p.1,.int .i64 p.2]
def ent:List Pr->Nat->List (Value×Value)
 | [],_=>[]
 | p::k,i=>(pv p,.int .i64 i)::ent k (i+1)
theorem KN(p:Pr):∀ (k:List Pr) (i:Nat),ent (k++[p]) i=ent k i++[(pv p,.int .i64 (i+k.length:Nat))]
 | [],i=>rfl
 | q::k,i=>by rw[aS,ent,KN p k (i+1),ent,aS,az,show i+1+k.length=i+(k.length+1) by omega]
theorem Hj:∀ (k:List Pr) (i:Nat),(ent k i).length=k.length
 | [],i=>rfl
 | q::k,i=>by rw[ent,az,az,Hj k]
theorem NQ(p:Pr):gR true [.nu,.nu] (pv p)=true:=rfl
theorem CG(p:Pr):∀ (k:List Pr) (i:Nat),kg true [.nu,.nu] (pv p) (ent k i)=some (if p∈k then some (.int .i64 (i+k.idxOf p:Nat)) else none)
 | [],i=>rfl
 | q::k,i=>by
  have e:gz [.nu,.nu] (cellsOf (pv p)) (cellsOf (pv q))=some (p==q):=by show gz [.nu,.nu] [.int .i64 p.1,.int .i64 p.2] [.int .i64 q.1,.int .i64 q.2]=some (p==q);simp[gz,nS];rfl
  rw[ent,kg,NQ,if_pos rfl,e,CG p k (i+1)];simp only[ak,bq,aJ];by_cases h:p=q
  ·subst h;simp
  ·have h1:(p==q)=false:=by simpa using h
   have h2:(q==p)=false:=by simpa using Ne.symm h
   rw[h1,List.idxOf_cons,h2];simp only[aO,if_false,cond_false,h,false_or];rw[show i+1+k.idxOf p=i+(k.idxOf p+1) by omega]
section
variable{hp:List Blk}{L:Nat}{H d:List Nat}
theorem adn(W:Array Pr):(prs W).all AM.sc=true:=Xd _
theorem ES:∀ (l:List Pr),(prL l).all fY=true
 | []=>rfl
 | p::l=>by rw[prL];simp only[ct,ES l];rfl
theorem Tb(W:Array Pr):(prs W).all fY=true:=ES _
theorem KO{n:Nat}{W:Array Pr}(hD:W.size=n)(h0:1<=n)(hn:n<=255)(hF:Fit hp.length L H) :
  St.append ⟨hp++[.cells 0 true []],L,H,d⟩ true 2 (.slice (some ⟨hp.length,0,some 0⟩) 0 2) n (prs W)=some (.slice (some ⟨hp.length,0,some (n*2)⟩) n 2,⟨hp++[.cells (n*2) true (prs W)],L,H,d⟩):=by
 have hk:St.blk ⟨hp++[.cells 0 true []],L,H,d⟩ ⟨hp.length,0,some 0⟩=some (true,[]):=by unfold St.blk;simp only[hF.lS,gA];simp
 have h1:¬ n=0:=om
 have hs:small (n*2)=true:=by unfold small;simp;omega
 have hs1:=adn W;have hs2:=Tb W;have hL:¬ hp.length < L:=by have:=hF.1;omega
 simp only[St.append];rw[if_neg h1,if_neg (by simp[hL]),hk];simp[hs1,hs2,hs,gm,gZ]
theorem vk{b g n e:Nat}{W:Array Pr}(hb:hp[b]?=some (.cells g true (prs W)))(hD:W.size=n)(hh:H.contains b=false)(h0:1<=n)(hn:n<=255)(hF:Fit hp.length L H) :
  fS env (.func 221) [.slice (some ⟨b,0,some g⟩) n e] ⟨hp,L,H,d⟩=some (.slice (some ⟨hp.length,0,some (n*2)⟩) n 2,⟨hp++[.cells (n*2) true (prs W)],L,H,d⟩):=by
 rw[fF 221 _ _ afD];have hbl:=(af.1 hb).1;have ha:=fun d=>KO (d:=d) hD h0 hn hF;have hs0:small 0=true:=by decide
 have hlen:(prs W).length=2*n:=by rw[jH,hD]
 have htk:(prs W).take (n*2)=prs W:=bt om;have hle:n*2<=2*n:=om
 have hgl:∀ B:Blk,(hp++[B])[b]?=some (.cells g true (prs W)):=fun B=>by rw[lT hbl];exact hb
 simp(disch:=first|exact dis|fail) only[sy,simprocAttr,-List.reduceReplicate,hF.all,Wl,hs0,hb,hh,hgl,hlen,htk,hle,ha,G5 (zE.plain _ _)]
end
end TuA
namespace RdP
abbrev Pr:=Int×Int
def plt(p q:Pr):Prop:=p.1 < q.1\/p.1=q.1/\p.2 < q.2
instance (p q:Pr):Decidable (plt p q):=by unfold plt;infer_instance
theorem PT(p:Pr):¬ plt p p:=by unfold plt;omega
theorem aag{p q:Pr}(h:plt p q):¬ plt q p:=by unfold plt at *;omega
theorem aah(p q:Pr):plt p q\/p=q\/plt q p:=by unfold plt;rcases p with ⟨a,b⟩;rcases q with ⟨c,d⟩;simp only[bT];omega
structure Keys(l k:List Pr):Prop where
 sorted:k.Pairwise plt
 mem:∀ p,p∈k↔p∈l
def rnk(l k:List Pr):List Nat:=l.map k.idxOf
theorem uh(l k:List Pr):(rnk l k).length=l.length:=by simp[rnk]
theorem Keys.nodup{l k:List Pr}(h:Keys l k):k.Nodup:=List.Pairwise.imp (fun {a b} (hp:plt a b) (e:a=b)=>PT b (by rw[e] at hp;exact hp)) h.sorted
theorem Keys.lt{l k:List Pr}(h:Keys l k){p q:Pr}(hp:p∈l)(hq:q∈l):k.idxOf p < k.idxOf q↔plt p q:=by
 have h1:=bP ((h.mem p).2 hp);have h2:=bP ((h.mem q).2 hq);have e1:k[k.idxOf p]=p:=cO h1;have e2:k[k.idxOf q]=q:=cO h2;have hs:=eG.1 h.sorted;constructor
 ·intro hlt;have:=hs _ _ h1 h2 hlt;rwa [e1,e2] at this
 ·intro hlt;rcases Nat.lt_trichotomy (k.idxOf p) (k.idxOf q) with h3 | h3 | h3
  ·exact h3
  ·have:p=q:=by rw[<- e1,<- e2];simp only[h3]
   subst this;exact absurd hlt (PT _)
  ·have:=hs _ _ h2 h1 h3;rw[e1,e2] at this;exact absurd hlt (aag this)
def pre(T:List Nat)(w i:Nat):List Nat:=(T.drop i).take w
theorem vn:∀ (w:Nat) (a b:List Nat),a.take w < b.take w->a < b
 | 0,a,b,h=>by simp at h
 | w+1,a,[],h=>by simp at h
 | w+1,[],y::b,h=>by simp
 | w+1,x::a,y::b,h=>by
  rw[cQ,cQ,eA] at h;rw[eA];rcases h with h | ⟨h1,h2⟩
  ·exact .inl h
  ·exact .inr ⟨h1,vn w a b h2⟩
theorem KP{T:List Nat}{w v i j:Nat}(h:pre T w i < pre T w j)(hv:w<=v):pre T v i < pre T v j:=by apply vn w;unfold pre at *;rw[List.take_take,List.take_take,dG hv];exact h
theorem ET:∀ (c a b:List Nat),c++a < c++b↔a < b
 | [],a,b=>by simp
 | x::c,a,b=>by rw[aS,aS,eA,ET c a b];simp
theorem aai{T:List Nat}{w i j:Nat}(h:pre T w i=pre T w j):pre T (2*w) i < pre T (2*w) j↔pre T w (i+w) < pre T w (j+w):=by
 have e:∀ i,pre T (2*w) i=pre T w i++pre T w (i+w):=fun i=>by unfold pre;rw[show 2*w=w+w by omega,List.take_add,List.drop_drop]
 rw[e,e,h,ET]
theorem Az(T:List Nat)(w i:Nat):(pre T w i).length=min w (T.length - i):=by simp[pre]
structure xU(T:List Nat)(w:Nat)(r:List Nat):Prop where
 len:r.length=T.length+1
 lt:∀ i j,i<=T.length->j<=T.length->(r.getD i 0 < r.getD j 0↔pre T w i < pre T w j)
def first(T:List Nat):List Pr:=(List.range (T.length+1)).map fun i=>(if i < T.length then 1+(T.getD i 0:Int) else 0,0)
def pairs(r:List Nat)(w:Nat):List Pr:=(List.range r.length).map fun i=>((r.getD i 0:Int),if i+w < r.length then (r.getD (i+w) 0:Int) else -1)
theorem qG(T:List Nat):(first T).length=T.length+1:=by simp[first]
theorem jk(r:List Nat)(w:Nat):(pairs r w).length=r.length:=by simp[pairs]
theorem mQ{l k:List Pr}{i:Nat}(h:i < l.length):(rnk l k).getD i 0=k.idxOf l[i]:=by simp[rnk,aE,h]
theorem ado(a b:List Nat):a < b\/a=b\/b < a:=by
 by_cases h:a < b
 ·exact .inl h
 by_cases h2:b < a
 ·exact .inr (.inr h2)
 exact .inr (.inl (List.le_antisymm (List.not_lt.1 h2) (List.not_lt.1 h)))
theorem drop_one(T:List Nat)(i:Nat):pre T 1 i=if i < T.length then [T.getD i 0] else []:=by
 unfold pre;split
 ·rename_i h;rw[bC h,aE,aq h];rfl
 ·rename_i h;rw[eo om];rfl
theorem adp(a b:Nat):([a]:List Nat) < [b]↔a < b:=by rw[eA];simp
theorem xU.first{T:List Nat}{k:List Pr}(h:Keys (first T) k):xU T 1 (rnk (RdP.first T) k):=by
 refine⟨by rw[uh,qG],fun i j hi hj=>?_⟩;have li:i < (RdP.first T).length:=by rw[qG];omega
 have lj:j < (RdP.first T).length:=by rw[qG];omega
 rw[mQ li,mQ lj,h.lt (bN _) (bN _),drop_one,drop_one];simp only[RdP.first,ef,eU,plt];split<;>split
 ·rw[adp];omega
 ·simp;omega
 ·simp;omega
 ·simp
theorem xU.eq{T:List Nat}{w:Nat}{r:List Nat}(h:xU T w r){i j:Nat}(hi:i<=T.length)(hj:j<=T.length):r.getD i 0=r.getD j 0↔pre T w i=pre T w j:=by
 have h1:=h.lt i j hi hj;have h2:=h.lt j i hj hi;constructor
 ·intro e;rcases ado (pre T w i) (pre T w j) with h3 | h3 | h3
  ·have:=h1.2 h3;omega
  ·exact h3
  ·have:=h2.2 h3;omega
 ·intro e;rcases Nat.lt_trichotomy (r.getD i 0) (r.getD j 0) with h3 | h3 | h3
  ·have:=h1.1 h3;rw[e] at this;exact absurd this (List.lt_irrefl _)
  ·exact h3
  ·have:=h2.1 h3;rw[e] at this;exact absurd this (List.lt_irrefl _)
theorem xU.step{T:List Nat}{w:Nat}{r:List Nat}{k:List Pr}(h:xU T w r)(hk:Keys (pairs r w) k):xU T (2*w) (rnk (pairs r w) k):=by
 refine⟨by rw[uh,jk,h.len],fun i j hi hj=>?_⟩;have hlen:=h.len;have li:i < (pairs r w).length:=by rw[jk];omega
 have lj:j < (pairs r w).length:=by rw[jk];omega
 rw[mQ li,mQ lj,hk.lt (bN _) (bN _)];simp only[pairs,ef,eU,plt];have h1:=h.lt i j hi hj;have h2:=h.lt j i hj hi;have he:=h.eq hi hj;rcases Nat.lt_trichotomy (r.getD i 0) (r.getD j 0) with h3 | h3 | h3
 ·have:=KP (h1.1 h3) (show w<=2*w by omega);simp only[this,iff_true];omega
 ·have e:=he.1 h3;rw[aai e];have l1:=Az T w i;have l2:=Az T w j;rw[e] at l1;by_cases hfull:w<=T.length - i/\w<=T.length - j
  ·by_cases hi2:i+w<=T.length
   ·have hj2:j+w<=T.length:=om
    rw[if_pos om,if_pos om];have:=h.lt (i+w) (j+w) hi2 hj2;rw[<- this];omega
   ·omega
  ·have hij:i=j:=om
   subst hij;simp only[List.lt_irrefl,iff_false];omega
 ·have:=KP (h2.1 h3) (show w<=2*w by omega);have h4:=List.lt_asymm this;simp only[h4,iff_false];omega
theorem zh{α:Type}[DecidableEq α]:∀ (k l:List α),k.Nodup->(∀ p∈k,p∈l)->l.length<=k.length->l.Perm k
 | [],l,_,_,h=>by
  cases l with
  | nil=>exact .refl _
  | cons a l=>simp at h
 | a::k,l,hn,hs,h=>by
  have ha:=hs a (by simp);have hp:=List.perm_cons_erase ha;rw[cH] at hn;refine hp.trans (.cons a (zh k (l.erase a) hn.2 (fun p hp'=>?_) ?_))
  ·have hne:p≠a:=fun e=>hn.1 (e ▸ hp');exact(List.mem_erase_of_ne hne).2 (hs p (by simp[hp']))
  ·rw[List.length_erase_of_mem ha];simp only[az] at h;omega
theorem BG{α:Type}[DecidableEq α]:∀ (k l:List α),k.Nodup->(∀ p∈k,p∈l)->k.length<=l.length
 | [],l,_,_=>by simp
 | a::k,l,hn,hs=>by
  have ha:=hs a (by simp);rw[cH] at hn;have:=BG k (l.erase a) hn.2 fun p hp'=>by have hne:p≠a:=fun e=>hn.1 (e ▸ hp');exact(List.mem_erase_of_ne hne).2 (hs p (by simp[hp']))
  rw[List.length_erase_of_mem ha] at this;have:0 < l.length:=List.length_pos_of_mem ha;simp only[az];omega
theorem Keys.perm{l k:List Pr}(h:Keys l k)(hl:l.length<=k.length):l.Perm k:=zh k l h.nodup (fun p hp=>(h.mem p).1 hp) hl
theorem Tc{l:List Pr}(h:l.Nodup):l.map l.idxOf=List.range l.length:=by
 apply cY
 ·simp
 ·intro i h1 h2;simp only[ef,eU];exact h.idxOf_getElem i (by simpa using h1)
def rows(l k:List Pr):List Nat:=k.map l.idxOf
theorem aaj{l k:List Pr}(h:Keys l k)(hl:l.length<=k.length){i:Nat}(hi:i < l.length):(rows l k)[(rnk l k).getD i 0]?=some i:=by have hn:l.Nodup:=(h.perm hl).nodup_iff.2 h.nodup;rw[mQ hi];have hm:l[i]∈k:=(h.mem _).2 (bN _);have h1:=bP hm;simp only[rows,bW,aq h1,cO,bq];rw[hn.idxOf_getElem i hi]
theorem Xn{T:List Nat}{w:Nat}{l k:List Pr}(h:Keys l k)(hl:l.length<=k.length)(hr:xU T w (rnk l k)) :
  (rows l k).Perm (List.range (T.length+1))/\(rows l k).Pairwise fun i j=>T.drop i < T.drop j:=by
 have hp:=h.perm hl;have hn:l.Nodup:=hp.nodup_iff.2 h.nodup;have hlen:l.length=T.length+1:=by rw[<- hr.len,uh]
 refine⟨?_,?_⟩
 ·rw[<- hlen,<- Tc hn];exact(hp.map _).symm
 ·unfold rows;rw[List.pairwise_map];refine List.Pairwise.imp_of_mem (fun {p q} hp hq hlt=>?_) h.sorted;have hp':=(h.mem p).1 hp;have hq':=(h.mem q).1 hq;have i1:=bP hp';have i2:=bP hq';have:=(hr.lt (l.idxOf p) (l.idxOf q) om om).1 (by rw[mQ i1,mQ i2,cO,cO];exact(h.lt hp' hq').2 hlt)
  exact vn w _ _ this
theorem full{T:List Nat}{w:Nat}{l k:List Pr}(h:Keys l k)(hr:xU T w (rnk l k))(hw:T.length<=w):l.length<=k.length:=by
 have hlen:l.length=T.length+1:=by rw[<- hr.len,uh]
 have hn:l.Nodup:=by
  rw[List.Nodup,eG];intro i j hi' hj' hij e;have:=(hr.eq (i:=i) (j:=j) om om).1 (by rw[mQ hi',mQ hj'];rw[e])
  have l1:=Az T w i;have l2:=Az T w j;rw[this] at l1;omega
 exact BG l k hn fun p hp=>(h.mem p).2 hp
end RdP
namespace TuB
open Go Go.RowKit AM fO LtA SyP TmM TsA TsB TsC TsE TsI TsJ TtA TtB TtC TtD TtE TtF TtG TtH TtI TtJ TtK TtL TtM TtN TtO TtP TuA Bt
def xV(k:List Pr)(p:Pr):List Pr:=if p∈k then k else k++[p]
def NR(S:List Pr):List Pr:=S.foldl xV []
theorem EU:∀ (S k:List Pr) (q:Pr),q∈S.foldl xV k↔q∈k\/q∈S
 | [],k,q=>by simp
 | p::S,k,q=>by
  rw[dg,EU S (xV k p) q];unfold xV;split
  ·rename_i h;simp only[aJ];constructor
   ·rintro(h1 | h1)
    ·exact .inl h1
    ·exact .inr (.inr h1)
   ·rintro(h1 | h1 | h1)
    ·exact .inl h1
    ·subst h1;exact .inl h
    ·exact .inr h1
  ·simp only[aP,aJ,bJ,or_false];constructor
   ·rintro((h1 | h1) | h1)
    ·exact .inl h1
    ·exact .inr (.inl h1)
    ·exact .inr (.inr h1)
   ·rintro(h1 | h1 | h1)
    ·exact .inl (.inl h1)
    ·exact .inl (.inr h1)
    ·exact .inr h1
theorem wC:∀ (S k:List Pr),k.Pairwise RdP.plt->(∀ q∈k,∀ p∈S,¬ RdP.plt p q)->S.Pairwise (fun p q=>¬ RdP.plt q p)->(S.foldl xV k).Pairwise RdP.plt
 | [],k,h,_,_=>h
 | p::S,k,h,h1,h2=>by
  rw[bH] at h2;rw[dg];refine wC S (xV k p) ?_ ?_ h2.2
  ·unfold xV;split
   ·exact h
   ·rename_i hm;rw[List.pairwise_append];refine⟨h,by simp,fun q hq r hr=>?_⟩;simp only[aJ,bJ,or_false] at hr;subst hr;rcases RdP.aah q r with h3 | h3 | h3
    ·exact h3
    ·subst h3;exact absurd hq hm
    ·exact absurd h3 (h1 q hq r (by simp))
  ·intro q hq r hr;have:q∈k\/q=p:=by
    unfold xV at hq;split at hq
    ·exact .inl hq
    ·simpa using hq
   rcases this with h3 | h3
   ·exact h1 q h3 r (by simp[hr])
   ·subst h3;exact h2.1 r hr
theorem aak{p q:Pr} : RdP.plt p q↔ltP p q=true:=Hf.symm
theorem zi(W:Array Pr):(W.extract 0 W.size).toList=W.toList:=by simp
theorem Hl(W:Array Pr):RdP.Keys W.toList (NR (Go.Sort.sort ltP W).toList):=by
 obtain⟨⟨h1,h2,h3⟩,h4⟩:=Go.Sort.sort_sorts ltP rM W;have h5:(Go.Sort.sort ltP W).toList.Perm W.toList:=by
  have e:(Go.Sort.sort ltP W).extract 0 W.size=(Go.Sort.sort ltP W).extract 0 (Go.Sort.sort ltP W).size:=by rw[h1]
  rw[e,zi,zi] at h3;exact h3
 refine⟨?_,fun p=>?_⟩
 ·refine wC _ [] (by simp) (by simp) ?_;rw[eG];intro i j hi hj hij;have:=h4 i j om hij (by rw[bZ] at hj;omega);simp only[bZ] at hi hj;rw[getElem!_pos _ j hj,getElem!_pos _ i hi] at this;rw[aak];simp only[Array.getElem_toList];simp[this]
 ·unfold NR;rw[EU,h5.mem_iff];simp
section
variable{hp:List Blk}{L:Nat}{H d:List Nat}
theorem CH{b g n e:Nat}{S:Array Pr}(hS:S.size=n)(hn:n<=255)(hb:b < hp.length)(hF:Fit hp.length L H):∀ (j i:Nat) (k:List Pr),i+j=n->k.length<=i->∃ fr,
  fW env z9 [19,18,2,0,17,5] (hp.length+2) [(19,.int .i64 i),(18,.int .i64 n),(2,.slice none 0 0),(0,.slice (some ⟨b,0,some g⟩) n e),(17,.slice (some ⟨hp.length,0,some (n*2)⟩) n 2),(5,.map (some (hp.length+1)))] ⟨hp++[.cells (n*2) true (prs S),.map (ent k 0)],L,H,[]⟩
   = some (.exit 0,fr,⟨hp++[.cells (n*2) true (prs S),.map (ent ((S.toList.drop i).foldl xV k) 0)],L,H,[]⟩)/\fr.get 2=some (.slice none 0 0)/\fr.get 0=some (.slice (some ⟨b,0,some g⟩) n e)/\fr.get 5=some (.map (some (hp.length+1)))
 | 0,i,k,hij,hk=>by
  have h1:¬ (i:Int) < (n:Int):=om
  rw[c9 (by rw[bZ];omega),List.foldl_nil];rw[fC z9.eq_1];simp(disch:=first|exact dis|fail) only[sy,simprocAttr,-List.reduceReplicate,hF.all,h1];exact⟨_,rfl,rfl,rfl,rfl⟩
 | j+1,i,k,hij,hk=>by
  have h1:(i:Int) < (n:Int):=om
  have hi:i < S.toList.length:=by rw[bZ];omega
  have hlen:(prs S).length=2*n:=by rw[jH,hS]
  have r1:=iw S (i:=i) om;rw[bE] at r1;have h2:0<=(i:Int)/\(i:Int) < (n:Int):=om
  have s1:i*2+2<=2*n:=om
  rw[bC hi,dg];have hS1:S.toList[i]=S[i]!:=by rw[getElem!_pos S i om];simp
  rw[hS1];generalize S[i]! = p at *;have hf:=CG p k 0;have hs:=KN p k 0;have hfit:=NQ p;have hlk:=Hj k 0;rw[aX] at hs hf;unfold pv at hf hs hfit;have hg:=fun c0 c1 c2 i1=>J3 (hp:=hp) (nw:=[c0,c1,c2]) (L:=L) (H:=H) (fr:=[(19,.int .i64 i1),(18,.int .i64 n),(2,.slice none 0 0),(0,.slice (some ⟨b,0,some g⟩) n e),(17,.slice (some ⟨hp.length,0,some (n*2)⟩) n 2),(5,.map (some (hp.length+1)))]) 2 (by simp) (by intro q hq r hr;simp only[aJ,bJ,or_false] at hq;rcases hq with rfl | rfl | rfl | rfl | rfl | rfl<;>simp[refs,fU,fJ] at hr<;>omega)
  simp only[cQ,eI] at hg;rw[fC z9.eq_1];by_cases hm:p∈k
  ·have ha:xV k p=k:=by unfold xV;rw[if_pos hm]
   rw[ha];rw[if_pos hm] at hf;obtain⟨fr,ih,ih2⟩:=CH (g:=g) (e:=e) hS hn hb hF j (i+1) k om om;refine⟨fr,?_,ih2⟩;simp only[aC,aI] at ih;simp(disch:=first|exact dis|fail) only[sy,simprocAttr,-List.reduceReplicate,hF.all,h1,h2,hlen,r1,s1,wA,oT,wB,rO,rP,KK,hf,hfit,Option.isSome_some,hg,ih]
  ·have ha:xV k p=k++[p]:=by unfold xV;rw[if_neg hm]
   rw[ha];rw[if_neg hm] at hf;obtain⟨fr,ih,ih2⟩:=CH (g:=g) (e:=e) hS hn hb hF j (i+1) (k++[p]) om (by simp;omega);refine⟨fr,?_,ih2⟩;rw[hs] at ih;simp only[aC,aI] at ih;simp(disch:=first|exact dis|fail) only[sy,simprocAttr,-List.reduceReplicate,hF.all,h1,h2,hlen,r1,s1,wA,oT,wB,Xm,KI,CE,CF,NO,NP,S9,rO,rP,KK,hf,hfit,hlk,Option.isSome_none,hg,ih]
end
end TuB
namespace TuC
open Go Go.RowKit AM fO LtA SyP TmM TsA TsB TsC TsE TsI TsJ TtA TtB TtC TtD TtE TtF TtG TtH TtI TtJ TtK TtL TtM TtN TtO TtP TuA TuB Bt
section
variable{hp:List Blk}{L:Nat}{H d:List Nat}
theorem PU{b g n e m k:Nat}{cs:List Value}{c0 c1:Blk}{nw:List Blk}{i1 i2:Int}(hk:nw[k]?=some (.cells n true cs))(hb:b < hp.length) :
  kS (hp.length+2) [(2,.slice (some ⟨hp.length+2+k,0,some n⟩) n 1),(38,.int .i64 i1),(37,.int .i64 i2),(36,.slice (some ⟨b,0,some g⟩) m e),(5,.map (some (hp.length+1)))] ⟨hp++c0::c1::nw,L,H,[]⟩
   = some ([(2,.slice (some ⟨hp.length+2,0,some n⟩) n 1),(38,.int .i64 i1),(37,.int .i64 i2),(36,.slice (some ⟨b,0,some g⟩) m e),(5,.map (some (hp.length+1)))],⟨hp++[c0,c1,.cells n true cs],L,H,[]⟩):=by
 unfold kS;have ee:hp++c0::c1::nw=(hp++[c0,c1])++nw:=by simp
 have hl:(hp++[c0,c1]).length=hp.length+2:=by simp
 have G:=vf (h:=hp++[c0,c1]) (nw:=nw) (k:=k) (L:=L) (H:=H) (d:=[]) (vs:=List.map (·.2) [(2,Value.slice (some ⟨hp.length+2+k,0,some n⟩) n 1),(38,.int .i64 i1),(37,.int .i64 i2),(36,.slice (some ⟨b,0,some g⟩) m e),(5,.map (some (hp.length+1)))]) hk (by intro u hu r hr;rw[hl];simp only[aK,br,aJ,bJ,or_false] at hu;rcases hu with rfl | rfl | rfl | rfl | rfl<;>simp[refs,fU,fJ] at hr<;>omega) ⟨.slice (some ⟨hp.length+2+k,0,some n⟩) n 1,by simp,by rw[hl];simp[refs,fU,fJ]⟩ rfl
 rw[hl] at G;rw[ee,G];have o0:AM.one (hp.length+2) (hp.length+2+k) (hp.length+1)=hp.length+1:=oh om;have o1:AM.one (hp.length+2) (hp.length+2+k) b=b:=oh om;have o2:AM.one (hp.length+2) (hp.length+2+k) (hp.length+2+k)=hp.length+2:=iZ;simp only[bq,aK,br,cU,eC];simp only[ren,ke,iX,o0,o1,o2,bq,aR,aS,aV]
def aal(hp:List Blk)(b g n e i:Nat)(sl:Value):Fr:=[(2,sl),(38,.int .i64 i),(37,.int .i64 n),(36,.slice (some ⟨b,0,some g⟩) n e),(5,.map (some (hp.length+1)))]
theorem KQ{b g n e:Nat}{W:Array Pr}{k:List Pr}{c0:Blk}(hb:hp[b]?=some (.cells g true (prs W)))(hh:H.contains b=false)(hD:W.size=n)(hn:n<=255)(hk:∀ p∈W.toList,p∈k)(hF:Fit hp.length L H):∀ (j i:Nat) (acc:List Nat),i+j=n->acc.length=i->∃ fr,
  fW env z8 [2,38,37,36,5] (hp.length+2) (aal hp b g n e i (slI (hp.length+2) acc)) ⟨hp++c0::.map (ent k 0)::lB acc,L,H,[]⟩
   = some (.exit 2,fr,⟨hp++c0::.map (ent k 0)::lB (acc++(W.toList.drop i).map k.idxOf),L,H,[]⟩)/\fr.get 2=some (slI (hp.length+2) (acc++(W.toList.drop i).map k.idxOf))/\fr.get 5=some (.map (some (hp.length+1)))
 | 0,i,acc,hij,hacc=>by
  have h1:¬ (i:Int) < (n:Int):=om
  rw[c9 (by rw[bZ];omega),br,bB];unfold aal;rw[fC z8.eq_1];simp(disch:=first|exact dis|fail) only[sy,simprocAttr,-List.reduceReplicate,hF.all,h1];exact⟨_,rfl,rfl,rfl⟩
 | j+1,i,acc,hij,hacc=>by
  have h1:(i:Int) < (n:Int):=om
  have hi:i < W.toList.length:=by rw[bZ];omega
  have hbl:=(af.1 hb).1;have hlen:(prs W).length=2*n:=by rw[jH,hD]
  have r1:=iw W (i:=i) om;rw[bE] at r1;have h2:0<=(i:Int)/\(i:Int) < (n:Int):=om
  have s1:i*2+2<=2*n:=om
  rw[bC hi,aK];have hp1:=hk _ (bN hi);have hS1:W.toList[i]=W[i]!:=by rw[getElem!_pos W i om];simp
  rw[hS1] at hp1 ⊢;generalize W[i]! = p at *;have hf:=CG p k 0;have hfit:=NQ p;rw[if_pos hp1,aX] at hf;unfold pv at hf hfit;obtain⟨fr,ih,ih2⟩:=KQ (c0:=c0) (e:=e) hb hh hD hn hk hF j (i+1) (acc++[k.idxOf p]) om (by simp;omega);rw[aR,List.singleton_append] at ih ih2;refine⟨fr,?_,ih2⟩;refine Eq.trans ?_ ih;generalize k.idxOf p=x at *;have hgb:∀ nw:List Blk,(hp++nw)[b]?=some (.cells g true (prs W)):=fun nw=>by rw[lT hbl];exact hb
  have hs1:small 1=true:=by decide
  unfold aal;rw[fC z8.eq_1];simp only[aC,aI];by_cases ha0:acc=[]
  ·subst ha0;have hN:([]++[x]:List Nat).length=1:=rfl;rw[mP hN (by decide),j8 hN (by decide)];have ha:=fun nw=>Cv (hp:=hp++nw) (L:=L) (H:=H) (d:=[]) (x:=x);simp only[aB] at ha;have hg:=fun c0 c1 c2 c3 i1=>PU (hp:=hp) (L:=L) (H:=H) (b:=b) (g:=g) (e:=e) (m:=n) (k:=2) (n:=1) (cs:=is [x]) (c0:=c0) (c1:=c1) (nw:=[c2,c3,.cells 1 true (is [x])]) (i1:=i1) (i2:=(n:Int)) rfl hbl;simp only[cA,Nat.reduceAdd] at hg;simp(disch:=first|exact dis|fail) only[sy,simprocAttr,-List.reduceReplicate,hF.all,lC,jS,h1,h2,hlen,r1,s1,hs1,hb,hh,hgb,wA,oT,wB,rO,rP,KL,hf,hfit,ha,hg]
  ·have hao:¬ acc.length=0:=by cases acc<;>simp at ha0 ⊢
   have hN:(acc++[x]:List Nat).length=acc.length+1:=by simp
   rw[mP rfl hao,j8 rfl hao,mP hN om,j8 hN om];have ha:=fun c0 c1 nw=>wo (hp:=hp++c0::c1::.cells acc.length true (is acc)::nw) (L:=L) (H:=H) (d:=[]) (b:=hp.length+2) (x:=x) rfl (by rw[iE];rfl) (by have:=hF.1;omega) (hF.nv 2) om;have hg:=fun c0 c1 c2 c3 i1=>PU (hp:=hp) (L:=L) (H:=H) (b:=b) (g:=g) (e:=e) (m:=n) (k:=0) (n:=acc.length+1) (cs:=is (acc++[x])) (c0:=c0) (c1:=c1) (nw:=[.cells (acc.length+1) true (is (acc++[x])),c2,c3]) (i1:=i1) (i2:=(n:Int)) rfl hbl;simp only[bY] at hg;simp(disch:=first|exact dis|fail) only[sy,simprocAttr,-List.reduceReplicate,hF.all,h1,h2,hlen,r1,s1,hs1,hb,hh,hgb,wA,oT,wB,rO,rP,KL,hf,hfit,ha,hg]
def lU(W:Array Pr):List Pr:=NR (Go.Sort.sort ltP W).toList
theorem Td(W:Array Pr):(Go.Sort.sort ltP W).size=W.size:=(Go.Sort.sort_sorts ltP rM W).1.1
theorem tq{b g n e:Nat}{W:Array Pr}(hb:hp[b]?=some (.cells g true (prs W)))(hh:H.contains b=false)(hD:W.size=n)(h0:1<=n)(hn:n<=255)(hF:Fit hp.length L H) :
  fS env (.func 173) [.slice (some ⟨b,0,some g⟩) n e] ⟨hp,L,H,d⟩=some (.tuple #[.slice (some ⟨hp.length,0,some n⟩) n 1,.int .i64 (lU W).length],⟨hp++[.cells n true (is (RdP.rnk W.toList (lU W)))],L,H,d⟩):=by
 rw[fF 173 _ _ afr];have hbl:=(af.1 hb).1;have kc:=fun d=>vk (d:=d) (e:=e) hb hD hh h0 hn hF;have ks:=fun d=>S6 (hp:=hp++[.cells (n*2) true (prs W)]) (L:=L) (H:=H) (d:=d) (b:=hp.length) (g:=n*2) (n:=n) (e:=2) (W:=W) (by rw[gA]) hD hF.1 hF.lS (.inr rfl) hn (hF.mono (by simp));simp only[gZ] at ks;have hK:=Hl W;have hSz:=Td W;obtain⟨fr,l0,l1,l2,l3⟩:=CH (hp:=hp) (L:=L) (H:=H) (b:=b) (g:=g) (e:=e) (S:=Go.Sort.sort ltP W) (hSz.trans hD) hn hbl hF n 0 [] om (by simp);rw[cz] at l0;change _=some (Ex.exit 0,fr,(⟨hp++[.cells (n*2) true (prs (Go.Sort.sort ltP W)),.map (ent (lU W) 0)],L,H,[]⟩:St)) at l0;have hkm:∀ p∈W.toList,p∈lU W:=fun p hp=>(hK.mem p).2 hp;have hkl:=Hj (lU W) 0;generalize lU W=k at *;generalize Go.Sort.sort ltP W=S at *;obtain⟨fr2,q0,q1,q2⟩:=KQ (hp:=hp) (L:=L) (H:=H) (b:=b) (g:=g) (e:=e) (c0:=.cells (n*2) true (prs S)) hb hh hD hn hkm hF n 0 [] om rfl;rw[cz,aV] at q0 q1;have hR:((W.toList).map k.idxOf).length=n:=by rw[eT,bZ,hD]
 change _=some (Ex.exit 2,fr2,(⟨hp++.cells (n*2) true (prs S)::.map (ent k 0)::lB (RdP.rnk W.toList k),L,H,[]⟩:St)) at q0;change fr2.get 2=some (slI (hp.length+2) (RdP.rnk W.toList k)) at q1;change (RdP.rnk W.toList k).length=n at hR;generalize RdP.rnk W.toList k=R at *;rw[j8 hR om] at q0;rw[mP hR om] at q1;unfold aal at q0;simp only[lC,jS,aN] at q0 l0;have hG:=kO (h:=hp) (nw:=[.cells (n*2) true (prs S),.map (ent k 0),.cells n true (is R)]) (L:=L) (H:=H) (v:=.tuple #[.slice (some ⟨hp.length+2,0,some n⟩) n 1,.int .i64 k.length]) 2 rfl (by simp[refs,fU,fJ]) (by simp[refs,fU,fJ]);have o2:AM.one hp.length (hp.length+2) (hp.length+2)=hp.length:=iZ;have e0:ent [] 0=[]:=rfl;rw[e0] at l0;simp only[fM] at ks;simp(disch:=first|exact dis|fail) only[sy,simprocAttr,-List.reduceReplicate,hF.all,Pn,kc,ks,S8,l0,l1,l2,l3,q0,q1,q2,wA,oT,KI,CE,CF,hkl,hG,ren,ke,iX,o2,aK,br]
end
end TuC
namespace TuD
open Go Go.RowKit AM fO LtA SyP TmM TsA TsB TsC TsE TsI TsJ TtA TtB TtC TtD TtE TtF TtG TtH TtI TtJ TtK TtL TtM TtN TtO TtP TuA TuB TuC Bt
theorem KR:∀ n:Nat,(List.replicate n [Value.int .i64 0,Value.int .i64 0]).flatten=prL (List.replicate n ((0:Int),(0:Int)))
 | 0=>rfl
 | n+1=>by rw[bO,dc,KR n,bO];rfl
theorem CI:∀ (l:List Pr) (i:Nat) (h:i < l.length) (a:Int),(prL l).set (i*2) (.int .i64 a)=prL (l.set i (a,l[i].2))
 | p::l,0,h,a=>rfl
 | p::l,i+1,h,a=>by rw[prL,show(i+1)*2=i*2+1+1 by omega,cV,cV,CI l i (by simpa using h) a];rfl
theorem CJ:∀ (l:List Pr) (i:Nat) (h:i < l.length) (a:Int),(prL l).set (i*2+1) (.int .i64 a)=prL (l.set i (l[i].1,a))
 | p::l,0,h,a=>rfl
 | p::l,i+1,h,a=>by rw[prL,show(i+1)*2+1=(i*2+1)+1+1 by omega,cV,cV,CJ l i (by simpa using h) a];rfl
theorem Xo:∀ (l:List Pr) (i:Nat) (h:i < l.length) (a c:Int),((prL l).set (i*2) (.int .i64 a)).set (i*2+1) (.int .i64 c)=prL (l.set i (a,c)):=fun l i h a c=>by rw[CI l i h,CJ _ i (by simpa using h),bG];simp
def fI(x:List Nat)(i:Nat):List Pr:=(List.range (x.length+1)).map fun q=>(if q < i/\q < x.length then 1+(x.getD q 0:Int) else 0,0)
theorem adq(x:List Nat)(i:Nat):(fI x i).length=x.length+1:=by simp[fI]
theorem aam(x:List Nat):fI x 0=List.replicate (x.length+1) (0,0):=by
 apply cY
 ·simp[fI]
 ·intro q h1 h2;simp[fI]
theorem adr(x:List Nat):fI x x.length=RdP.first x:=by
 apply cY
 ·simp[fI,RdP.first]
 ·intro q h1 h2;simp only[fI,RdP.first,ef,eU];by_cases h:q < x.length
  ·rw[if_pos ⟨h,h⟩,if_pos h]
  ·rw[if_neg (fun k=>h k.1),if_neg h]
theorem ads{x:List Nat}{i:Nat}(h:i < x.length)(hl:i < (fI x i).length):(fI x i).set i (1+(x.getD i 0:Int),(fI x i)[i].2)=fI x (i+1):=by
 apply cY
 ·simp[fI]
 ·intro q h1 h2;rw[List.getElem_set];simp only[fI,ef,eU];by_cases e:i=q
  ·subst e;rw[if_pos rfl,if_pos ⟨om,h⟩]
  ·rw[if_neg e];by_cases e2:q < i/\q < x.length
   ·rw[if_pos e2,if_pos ⟨om,e2.2⟩]
   ·rw[if_neg e2,if_neg om]
section
variable{hp:List Blk}{L:Nat}{H d:List Nat}
theorem KS{x:List Nat}{a:Option Addr}{e n m:Nat}(hR:Rd ⟨hp,L,H,[]⟩ (.slice a n e) x)(hxs:x.length<=254)(h8:By x)(hm:m=x.length+1)(hF:Fit hp.length L H):∀ (j i:Nat),i+j=x.length->∃ fr,
  fW env zY [16,15,14,3] (hp.length+1) [(16,.int .i64 i),(15,.int .i64 x.length),(14,.slice a n e),(3,.slice (some ⟨hp.length,0,some 0⟩) m 2)] ⟨hp++[.cells 0 true (prL (fI x i))],L,H,[]⟩
   = some (.exit 0,fr,⟨hp++[.cells 0 true (prL (RdP.first x))],L,H,[]⟩)/\fr.get 3=some (.slice (some ⟨hp.length,0,some 0⟩) m 2)
 | 0,i,hij=>by
  have h1:¬ (i:Int) < (x.length:Int):=om
  obtain rfl:i=x.length:=om
  rw[adr,fC zY.eq_1];simp(disch:=first|exact dis|fail) only[sy,simprocAttr,-List.reduceReplicate,hF.all,h1];exact⟨_,rfl,rfl⟩
 | j+1,i,hij=>by
  have h1:(i:Int) < (x.length:Int):=om
  have hi:i < x.length:=om
  obtain⟨b,of,g,pl,cs,rfl,rfl,hh,hb,hcx⟩:=hR.at_ hi;have hbl:=(af.1 hb).1;obtain⟨fr,ih,ih2⟩:=KS hR hxs h8 hm hF j (i+1) om;refine⟨fr,?_,ih2⟩;have hfl:=adq x i;have hil:i < (fI x i).length:=om
  have hgd:x[i]=x.getD i 0:=by rw[aE,aq hi];rfl
  have hv8:=h8 _ (bN hi);have iK:=CI (fI x i) i hil (1+(x.getD i 0:Int));rw[ads hi hil] at iK;rw[hgd] at hcx hv8;clear hgd;have hpl:(prL (fI x i)).length=2*m:=by rw[rL,hfl,hm]
  generalize prL (fI x i)=P at *;generalize prL (fI x (i+1))=P' at *;generalize x.getD i 0=c at *;have h2:0<=(i:Int)/\(i:Int) < (x.length:Int):=om
  have h3:0<=(i:Int)/\(i:Int) < (m:Int):=om
  have s1:i*2+1<=2*m:=om
  simp only[aC,aI] at ih;rw[fC zY.eq_1];have hgb:∀ nw:List Blk,(hp++nw)[b]?=some (.cells g pl cs):=fun nw=>by rw[lT hbl];exact hb
  simp(disch:=first|exact dis|fail) only[sy,simprocAttr,-List.reduceReplicate,hF.all,h1,h2,h3,hh,hb,hgb,hcx,hpl,s1,iK,ih]
def pI(l:List Pr)(r:List Nat)(w i:Nat):List Pr:=(RdP.pairs r w).take i++l.drop i
theorem PV(l:List Pr)(r:List Nat)(w:Nat):pI l r w 0=l:=by simp[pI]
theorem adt{l:List Pr}{r:List Nat}{w:Nat}(h:l.length=r.length):pI l r w r.length=RdP.pairs r w:=by unfold pI;rw[bt (by rw[RdP.jk];omega),c9 om,bB]
theorem adu{l:List Pr}{r:List Nat}{w i:Nat}(h:l.length=r.length):(pI l r w i).length=r.length:=by unfold pI;simp[RdP.jk];omega
theorem adv{l:List Pr}{r:List Nat}{w i:Nat}(h:l.length=r.length)(hi:i < r.length):(pI l r w i).set i ((r.getD i 0:Int),if i+w < r.length then (r.getD (i+w) 0:Int) else -1)=pI l r w (i+1):=by
 unfold pI;have hl:i < (RdP.pairs r w).length:=by rw[RdP.jk];exact hi
 rw[cw _ _ (by rw[cP];exact Nat.min_le_left _ _),cP,dG om,cL,bC (show i < l.length by omega),dP,b9 hl,aR];simp[RdP.pairs]
theorem CK{r:List Nat}{w n b q:Nat}(hb:b < hp.length)(hq:hp[q]?=some (.cells n true (is r)))(hbq:b≠q)(hL:L<=b)(hhb:H.contains b=false)(hhq:H.contains q=false)(hn:r.length=n)(hn2:n<=255)(hw1:1<=w)(hw:w<=1000){l:List Pr}(hl:l.length=n)(hF:Fit hp.length L H):∀ (j i:Nat),i+j=n->∃ fr,
  fW env zX [42,41,3,6,8] hp.length [(42,.int .i64 i),(41,.int .i64 n),(3,.slice (some ⟨b,0,some 0⟩) n 2),(6,.slice (some ⟨q,0,some n⟩) n 1),(8,.int .i64 w)] ⟨hp.set b (.cells 0 true (prL (pI l r w i))),L,H,[]⟩
   = some (.exit 4,fr,⟨hp.set b (.cells 0 true (prL (RdP.pairs r w))),L,H,[]⟩)/\fr.get 3=some (.slice (some ⟨b,0,some 0⟩) n 2)/\fr.get 6=some (.slice (some ⟨q,0,some n⟩) n 1)/\fr.get 8=some (.int .i64 w)
 | 0,i,hij=>by
  have h1:¬ (i:Int) < (n:Int):=om
  obtain rfl:i=n:=om
  rw[<- hn,adt (hl.trans hn.symm),fC zX.eq_1];rw[<- hn] at h1;simp(disch:=first|exact dis|fail) only[sy,simprocAttr,-List.reduceReplicate,hF.all,h1];exact⟨_,rfl,rfl,rfl,rfl⟩
 | j+1,i,hij=>by
  have h1:(i:Int) < (n:Int):=om
  obtain⟨fr,ih,ih2⟩:=CK hb hq hbq hL hhb hhq hn hn2 hw1 hw hl hF j (i+1) om;refine⟨fr,?_,ih2⟩;have hpn:=adu (w:=w) (i:=i) (hl.trans hn.symm);have iK:=adv (w:=w) (i:=i) (hl.trans hn.symm) om;have hsp:=Xo (pI l r w i) i om (r.getD i 0:Int);have agq:=fun c c'=>CJ ((pI l r w i).set i ((r.getD i 0:Int),c)) i (by simp;omega) c';simp only[List.getElem_set_self,bG] at agq;have hpl:(prL (pI l r w i)).length=2*n:=by rw[rL,hpn,hn]
  have hql:=(af.1 hq).1;have hg1:∀ B:Blk,(hp.set b B)[b]?=some B:=fun B=>aD hb;have hg2:∀ B:Blk,(hp.set b B)[q]?=some (.cells n true (is r)):=fun B=>by rw[aZ hbq];exact hq
  have hss:∀ A B:Blk,(hp.set b A).set b B=hp.set b B:=fun A B=>bG ..;have hnl:¬ b < L:=om
  have hc1:(is r)[i]?=some (.int .i64 (r.getD i 0:Nat)):=by rw[is,bW,aE,aq om];rfl
  have h2:0<=(i:Int)/\(i:Int) < (n:Int):=om
  have s1:i*2+2<=2*n:=om
  have s2:i*2+1+1<=2*n:=om
  rw[fC zX.eq_1];simp only[aC,aI] at ih;by_cases hiw:i+w < n
  ·have h3:(i:Int)+(w:Int) < (n:Int):=om
   have h4:0<=(i:Int)+(w:Int)/\(i:Int)+(w:Int) < (n:Int):=om
   have h5:((i:Int)+(w:Int)).toNat=i+w:=om
   have hc2:(is r)[i+w]?=some (.int .i64 (r.getD (i+w) 0:Nat)):=by rw[is,bW,aE,aq om];rfl
   rw[if_pos om] at iK;generalize r.getD (i+w) 0=y at *;generalize r.getD i 0=z at *;have t1:=hsp (-1);have t2:=agq (-1) y;rw[iK] at t2;have l2:(prL ((pI l r w i).set i ((z:Int),(-1:Int)))).length=2*n:=by rw[rL,aG,hpn,hn]
   generalize prL (pI l r w i)=P at *;generalize prL ((pI l r w i).set i ((z:Int),(-1:Int)))=P1 at *;generalize prL (pI l r w (i+1))=P2 at *;simp(disch:=first|exact dis|fail) only[sy,simprocAttr,-List.reduceReplicate,hF.all,h1,h2,h3,h4,h5,hhb,hhq,hg1,hg2,hss,hnl,hc1,hc2,hpl,l2,s1,s2,t1,t2,ih]
  ·have h3:¬ (i:Int)+(w:Int) < (n:Int):=om
   rw[if_neg om] at iK;generalize r.getD i 0=z at *;have t1:=hsp (-1);rw[iK] at t1;generalize prL (pI l r w i)=P at *;generalize prL (pI l r w (i+1))=P2 at *;simp(disch:=first|exact dis|fail) only[sy,simprocAttr,-List.reduceReplicate,hF.all,h1,h2,h3,hhb,hhq,hg1,hg2,hss,hnl,hc1,hpl,s1,s2,t1,ih]
end
end TuD
namespace TuE
open Go Go.RowKit AM fO LtA SyP TmM TsA TsB TsC TsE TsI TsJ TtA TtB TtC TtD TtE TtF TtG TtH TtI TtJ TtK TtL TtM TtN TtO TtP TuA TuB TuC TuD Bt
section
variable{hp:List Blk}{L:Nat}{H d:List Nat}
theorem PW{n m k:Nat}{cs:List Value}{c0 c1:Blk}{nw:List Blk}{i1 i2:Int}(hk:nw[k]?=some (.cells n true cs)) :
  kS (hp.length+2) [(7,.int .i64 i1),(3,.slice (some ⟨hp.length,0,some 0⟩) m 2),(6,.slice (some ⟨hp.length+2+k,0,some n⟩) m 1),(8,.int .i64 i2)] ⟨hp++c0::c1::nw,L,H,[]⟩
   = some ([(7,.int .i64 i1),(3,.slice (some ⟨hp.length,0,some 0⟩) m 2),(6,.slice (some ⟨hp.length+2,0,some n⟩) m 1),(8,.int .i64 i2)],⟨hp++[c0,c1,.cells n true cs],L,H,[]⟩):=by
 unfold kS;have ee:hp++c0::c1::nw=(hp++[c0,c1])++nw:=by simp
 have hl:(hp++[c0,c1]).length=hp.length+2:=by simp
 have G:=vf (h:=hp++[c0,c1]) (nw:=nw) (k:=k) (L:=L) (H:=H) (d:=[]) (vs:=List.map (·.2) [(7,Value.int .i64 i1),(3,.slice (some ⟨hp.length,0,some 0⟩) m 2),(6,.slice (some ⟨hp.length+2+k,0,some n⟩) m 1),(8,.int .i64 i2)]) hk (by intro u hu r hr;rw[hl];simp only[aK,br,aJ,bJ,or_false] at hu;rcases hu with rfl | rfl | rfl | rfl<;>simp[refs,fU,fJ] at hr<;>omega) ⟨.slice (some ⟨hp.length+2+k,0,some n⟩) m 1,by simp,by rw[hl];simp[refs,fU,fJ]⟩ rfl
 rw[hl] at G;rw[ee,G];have o0:AM.one (hp.length+2) (hp.length+2+k) hp.length=hp.length:=oh om;have o2:AM.one (hp.length+2) (hp.length+2+k) (hp.length+2+k)=hp.length+2:=iZ;simp only[bq,aK,br,cU,eC];simp only[ren,ke,iX,o0,o2,bq,aR,aS,aV]
def RkS(hp:List Blk)(n:Nat)(c0:Blk)(nw:List Blk)(q:Nat)(r:List Nat):Prop:=(nw=[]/\q=hp.length+1/\c0=.cells n true (is r))\/(nw=[.cells n true (is r)]/\q=hp.length+2)
def NS(hp:List Blk)(n c q w:Nat):Fr:=[(7,.int .i64 c),(3,.slice (some ⟨hp.length,0,some 0⟩) n 2),(6,.slice (some ⟨q,0,some n⟩) n 1),(8,.int .i64 w)]
theorem Xp{n c q w:Nat}{c0:Blk}{nw:List Blk}{l:List Pr}{r:List Nat}(hS:RkS hp n c0 nw q r)(hl:l.length=n)(hr:r.length=n)(h1:1<=n)(hn:n<=255)(hc:c < n)(hw1:1<=w)(hw:w<=500)(hF:Fit hp.length L H) :
  fW env rD [7,3,6,8] (hp.length+2) (NS hp n c q w) ⟨hp++.cells 0 true (prL l)::c0::nw,L,H,[]⟩
   = fW env rD [7,3,6,8] (hp.length+2) (NS hp n (lU (RdP.pairs r w).toArray).length (hp.length+2) (2*w)) ⟨hp++[.cells 0 true (prL (RdP.pairs r w)),c0,.cells n true (is (RdP.rnk (RdP.pairs r w) (lU (RdP.pairs r w).toArray)))],L,H,[]⟩:=by
 have hpl:(RdP.pairs r w).length=n:=by rw[RdP.jk,hr]
 have hg1:(c:Int) < (n:Int):=om
 have e2:(w:Int)*2=((2*w:Nat):Int):=om
 rcases hS with ⟨rfl,rfl,rfl⟩ | ⟨rfl,rfl⟩
 ·obtain⟨fi,i0,i1,i2,i3⟩:=CK (hp:=hp++[.cells 0 true (prL l),.cells n true (is r)]) (L:=L) (H:=H) (b:=hp.length) (q:=hp.length+1) (n:=n) (r:=r) (w:=w) (l:=l) (by simp) (by rw[iE];rfl) om hF.1 hF.lS (hF.nv 1) hr hn hw1 om hl (hF.mono (by simp)) n 0 om;rw[PV] at i0;simp only[gZ] at i0;have kr:=fun d=>tq (hp:=hp++[.cells 0 true (prL (RdP.pairs r w)),.cells n true (is r)]) (L:=L) (H:=H) (d:=d) (b:=hp.length) (g:=0) (n:=n) (e:=2) (W:=(RdP.pairs r w).toArray) (by rw[gA];rfl) hF.lS (by simpa using hpl) h1 hn (hF.mono (by simp));have hg:=fun c0 c1 c2 i1 i2=>PW (hp:=hp) (L:=L) (H:=H) (k:=0) (n:=n) (m:=n) (cs:=is (RdP.rnk (RdP.pairs r w) (lU (RdP.pairs r w).toArray))) (c0:=c0) (c1:=c1) (nw:=.cells n true (is (RdP.rnk (RdP.pairs r w) (lU (RdP.pairs r w).toArray)))::c2) (i1:=i1) (i2:=i2) rfl;simp only[bY] at hg;generalize lU (RdP.pairs r w).toArray=k at *;generalize RdP.rnk (RdP.pairs r w) k=r' at *;simp only[aB,az,aT,aX,Nat.reduceAdd,aN] at i0 kr;unfold NS;rw[fC rD.eq_1];simp(disch:=first|exact dis|fail) only[sy,simprocAttr,-List.reduceReplicate,hF.all,hg1,i0,i1,i2,i3,kr,e2,hg]
 ·obtain⟨fi,i0,i1,i2,i3⟩:=CK (hp:=hp++[.cells 0 true (prL l),c0,.cells n true (is r)]) (L:=L) (H:=H) (b:=hp.length) (q:=hp.length+2) (n:=n) (r:=r) (w:=w) (l:=l) (by simp) (by rw[iE];rfl) om hF.1 hF.lS (hF.nv 2) hr hn hw1 om hl (hF.mono (by simp)) n 0 om;rw[PV] at i0;simp only[gZ] at i0;have kr:=fun d=>tq (hp:=hp++[.cells 0 true (prL (RdP.pairs r w)),c0,.cells n true (is r)]) (L:=L) (H:=H) (d:=d) (b:=hp.length) (g:=0) (n:=n) (e:=2) (W:=(RdP.pairs r w).toArray) (by rw[gA];rfl) hF.lS (by simpa using hpl) h1 hn (hF.mono (by simp));have hg:=fun c0 c1 c2 i1 i2=>PW (hp:=hp) (L:=L) (H:=H) (k:=1) (n:=n) (m:=n) (cs:=is (RdP.rnk (RdP.pairs r w) (lU (RdP.pairs r w).toArray))) (c0:=c0) (c1:=c1) (nw:=[c2,.cells n true (is (RdP.rnk (RdP.pairs r w) (lU (RdP.pairs r w).toArray)))]) (i1:=i1) (i2:=i2) rfl;simp only[cA,Nat.reduceAdd] at hg;generalize lU (RdP.pairs r w).toArray=k at *;generalize RdP.rnk (RdP.pairs r w) k=r' at *;simp only[aB,az,aT,aX,Nat.reduceAdd,aN] at i0 kr;unfold NS;rw[fC rD.eq_1];simp(disch:=first|exact dis|fail) only[sy,simprocAttr,-List.reduceReplicate,hF.all,hg1,i0,i1,i2,i3,kr,e2,hg]
theorem KT{x:List Nat}{n:Nat}{c0:Blk}(hn:n=x.length+1)(hn2:n<=255)(hF:Fit hp.length L H):∀ (j w:Nat) (l:List Pr) (k:List Pr) (nw:List Blk) (q:Nat),x.length+1 - w<=j->1<=w->l.length=n->RdP.Keys l k->RdP.xU x w (RdP.rnk l k)->RkS hp n c0 nw q (RdP.rnk l k)->∃ fr lf kf wf nwf qf,
  fW env rD [7,3,6,8] (hp.length+2) (NS hp n k.length q w) ⟨hp++.cells 0 true (prL l)::c0::nw,L,H,[]⟩=some (.exit 2,fr,⟨hp++.cells 0 true (prL lf)::c0::nwf,L,H,[]⟩)
   /\ fr.get 6=some (.slice (some ⟨qf,0,some n⟩) n 1)/\RkS hp n c0 nwf qf (RdP.rnk lf kf)/\RdP.Keys lf kf/\lf.length=n/\lf.length<=kf.length/\RdP.xU x wf (RdP.rnk lf kf)
 | j,w,l,k,nw,q,hj,hw,hl,hK,hR,hS=>by
  by_cases hc:k.length < n
  ·have hwx:w < x.length:=by
    rcases bu w x.length with h | h
    ·exact h
    ·have:=RdP.full hK hR h;omega
   cases j with
   | zero=>omega
   | succ j=>
    have hrl:(RdP.rnk l k).length=n:=by rw[RdP.uh,hl]
    have hK2:=Hl (RdP.pairs (RdP.rnk l k) w).toArray;change RdP.Keys (RdP.pairs (RdP.rnk l k) w) (lU (RdP.pairs (RdP.rnk l k) w).toArray) at hK2;rw[Xp hS hl hrl om hn2 hc hw om hF];exact KT hn hn2 hF j (2*w) _ _ _ _ om om (by rw[RdP.jk,hrl]) hK2 (hR.step hK2) (.inr ⟨rfl,rfl⟩)
  ·have h1:¬ (k.length:Int) < (n:Int):=om
   refine⟨[(37,.bool false),(36,.int .i64 n),(35,.slice (some ⟨hp.length,0,some 0⟩) n 2),(34,.int .i64 k.length),(7,.int .i64 k.length),(3,.slice (some ⟨hp.length,0,some 0⟩) n 2),(6,.slice (some ⟨q,0,some n⟩) n 1),(8,.int .i64 w)],l,k,w,nw,q,?_,rfl,hS,hK,hl,om,hR⟩;unfold NS;rw[fC rD.eq_1];simp(disch:=first|exact dis|fail) only[sy,simprocAttr,-List.reduceReplicate,hF.all,h1]
theorem NT{x:List Nat}{v:Value}(hR:Rd ⟨hp,L,H,[]⟩ v x)(hxs:x.length<=254)(h8:By x)(hF:Fit hp.length L H):∃ l k w,RdP.Keys l k/\l.length=x.length+1/\l.length<=k.length/\RdP.xU x w (RdP.rnk l k)/\∀ d,
  fS env (.func 114) [v] ⟨hp,L,H,d⟩=some (.slice (some ⟨hp.length,0,some (x.length+1)⟩) (x.length+1) 1,⟨hp++[.cells (x.length+1) true (is (RdP.rnk l k))],L,H,d⟩):=by
 obtain⟨a,e,rfl⟩:=hR.len;obtain⟨n,hn⟩:∃ n,n=x.length+1:=⟨_,rfl⟩;obtain⟨fa,a0,a1⟩:=KS hR hxs h8 hn hF x.length 0 om;have hK:=Hl (RdP.first x).toArray;change RdP.Keys (RdP.first x) (lU (RdP.first x).toArray) at hK;have kr:=fun d=>tq (hp:=hp++[.cells 0 true (prL (RdP.first x))]) (L:=L) (H:=H) (d:=d) (b:=hp.length) (g:=0) (n:=n) (e:=2) (W:=(RdP.first x).toArray) (by rw[gA];rfl) hF.lS (by rw[hn];simpa using RdP.qG x) om om (hF.mono (by simp));obtain⟨fr,lf,kf,wf,nwf,qf,l0,l1,l2,l3,l4,l5,l6⟩:=KT (hp:=hp) (L:=L) (H:=H) (x:=x) (n:=n) (c0:=.cells n true (is (RdP.rnk (RdP.first x) (lU (RdP.first x).toArray)))) hn om hF (x.length+1) 1 (RdP.first x) (lU (RdP.first x).toArray) [] (hp.length+1) om (av _) (by rw[hn];exact RdP.qG x) hK (RdP.xU.first hK) (.inl ⟨rfl,rfl,rfl⟩);refine⟨lf,kf,wf,l3,l4.trans hn,l5,l6,fun d=>?_⟩;rw[fF 114 _ _ afb];rw[aam,<- KR] at a0;rw[<- hn] at a0 ⊢;unfold NS at l0;change ∀ d,fS env _ _ _=some (_,(⟨_++[.cells n true (is (RdP.rnk (RdP.first x) (lU (RdP.first x).toArray)))],_,_,_⟩:St)) at kr;generalize RdP.rnk (RdP.first x) (lU (RdP.first x).toArray)=r0 at *;generalize lU (RdP.first x).toArray=k0 at *;generalize RdP.rnk lf kf=rf at *;have e1:(x.length:Int)+1=(n:Int):=om
 have g1:(decide (0<=(n:Int))&&decide ((n:Int)<=(n:Int))&&decide ((n:Int)<=1048576)&&decide (2*n<=1048576)&&decide ([Value.int .i64 0,Value.int .i64 0].length=2)&&decide ((n:Int)≠0\/(n:Int)=0))=true:=by simp;omega
 have h0n:¬ (n:Int)=0:=om
 have hge:0<=(n:Int):=om
 have hn3:(n:Int)<=1048576:=om
 have hn4:2*n<=1048576:=om
 simp only[aN,aI] at a0 l0;rcases l2 with ⟨rfl,rfl,hz⟩ | ⟨rfl,rfl⟩
 ·rw[hz] at l0 kr;have hG:=fun c1=>kO (h:=hp) (nw:=[c1,.cells n true (is rf)]) (L:=L) (H:=H) (v:=.slice (some ⟨hp.length+1,0,some n⟩) n 1) 1 rfl (by simp[refs,fU,fJ]) (by simp[refs,fU,fJ]);have o2:AM.one hp.length (hp.length+1) (hp.length+1)=hp.length:=iZ;try simp only[aB,az,aT,aX] at kr
  simp(disch:=first|exact dis|fail) only[sy,simprocAttr,-List.reduceReplicate,hF.all,J7,e1,hge,hn3,hn4,h0n,bI,a0,a1,kr,l0,l1,hG,ren,ke,iX,o2,aK,br]
 ·have hG:=fun c1 c2=>kO (h:=hp) (nw:=[c1,c2,.cells n true (is rf)]) (L:=L) (H:=H) (v:=.slice (some ⟨hp.length+2,0,some n⟩) n 1) 2 rfl (by simp[refs,fU,fJ]) (by simp[refs,fU,fJ]);have o2:AM.one hp.length (hp.length+2) (hp.length+2)=hp.length:=iZ;try simp only[aB,az,aT,aX] at kr
  simp(disch:=first|exact dis|fail) only[sy,simprocAttr,-List.reduceReplicate,hF.all,J7,e1,hge,hn3,hn4,h0n,bI,a0,a1,kr,l0,l1,hG,ren,ke,iX,o2,aK,br]
end
end TuE
namespace AM
open Go Go.RowKit
def aan(l:List Nat)(off:Nat)(m:List Nat):List Nat:=l.take off++m++l.drop (off+m.length)
theorem Xq{l m:List Nat}{off:Nat}(h:off+m.length<=l.length)(j:Nat):(aan l off m)[j]?=if off<=j/\j < off+m.length then m[j - off]? else l[j]?:=by
 have h1:(l.take off).length=off:=by simp;omega
 unfold aan;rcases bu j off with hj | hj
 ·rw[if_neg om,aR,aA om,bX hj]
 ·rcases bu j (off+m.length) with hk | hk
  ·rw[if_pos ⟨hj,hk⟩,aR,aM om,h1,aA om]
  ·rw[if_neg om,aM (by simp;omega),eS];congr 1;simp;omega
theorem Te{l m:List Nat}{off:Nat}(h:off+m.length<=l.length):putAt (u8s l) off (u8s m)=u8s (aan l off m):=by
 apply bK;intro j;rw[kF _ _ _ _ (by simpa[u8s] using h),j0 (aan l off m) j,Xq h,fH];split
 ·rw[j0]
 ·rw[j0]
structure Arn where
 bs:List Nat
 live:Int
 nY:Int
def arB(q:Nat)(A:Arn):Blk:=.cells 0 false [.slice (some ⟨q,0,some 0⟩) A.bs.length 1,.int .i64 A.live,.int .i64 A.nY]
def byB(A:Arn):Blk:=.cells 0 true (u8s A.bs)
def put(hp:List Blk)(r q:Nat)(A:Arn):List Blk:=(hp.set q (byB A)).set r (arB q A)
section
variable{hp nw:List Blk}{r q i L:Nat}{H d:List Nat}{A:Arn}
theorem iy:(put hp r q A).length=hp.length:=by simp[put]
theorem agr(hr:r < hp.length):(put hp r q A)[r]?=some (.cells 0 false [.slice (some ⟨q,0,some 0⟩) A.bs.length 1,.int .i64 A.live,.int .i64 A.nY]):=by unfold put;rw[aD (by simpa using hr)];rfl
theorem ags(hq:q < hp.length)(h:r≠q):(put hp r q A)[q]?=some (.cells 0 true (u8s A.bs)):=by unfold put;rw[aZ h,aD hq];rfl
theorem agt(h:r≠i)(h':q≠i):(put hp r q A)[i]?=hp[i]?:=by unfold put;rw[aZ h,aZ h']
theorem PX(hr:r < hp.length)(hq:q < hp.length):put hp r q A++nw=put (hp++nw) r q A:=by unfold put;rw[dA _ _ hq,dA _ _ (by simpa using hr)]
theorem Tg{n:Nat}(live nY:Int)(hn:n=A.bs.length):(put hp r q A).set r (.cells 0 false [.slice (some ⟨q,0,some 0⟩) n 1,.int .i64 live,.int .i64 nY])=put hp r q ⟨A.bs,live,nY⟩:=by subst hn;unfold put;rw[bG];rfl
theorem Ti{l:List Nat}(h:r≠q)(hl:l.length=A.bs.length):(put hp r q A).set q (.cells 0 true (u8s l))=put hp r q ⟨l,A.live,A.nY⟩:=by unfold put;rw[List.set_comm _ _ h,bG];simp only[byB,arB,hl]
theorem Tj{b:Blk}(h:r≠i)(h':q≠i):(put hp r q A).set i b=put (hp.set i b) r q A:=by unfold put;rw[List.set_comm _ _ h,List.set_comm _ _ h']
theorem adw(v:Value)(hr:r < hp.length)(hq:q < hp.length):gc hp.length [v] ⟨put (hp++nw) r q A,L,H,[]⟩=gcY (put hp r q A) nw v L H (refs v).isEmpty:=by rw[<- PX hr hq];have:=Nv (put hp r q A) nw v L H;rwa [iy] at this
theorem aao{h:List Blk}{v:Value}(hv:∀ x∈refs v,x < h.length):gcY h nw v L H false=some ([v],⟨h,L,H,[]⟩):=by unfold gcY;exact JV hv
end
structure ny(n r q:Nat)(H:List Nat)(A:Arn):Prop where
 zF:r < n
 zG:q < n
 ne:r≠q
 by_:By A.bs
 EV:0<=A.live
 CL:A.live<=A.bs.length
 aio:0<=A.nY
 aip:A.nY<=A.bs.length
 size:A.bs.length<=1048576
 hr:H.contains r=false
 hq:H.contains q=false
theorem ny.mono{n m r q:Nat}{H:List Nat}{A:Arn}(k:ny n r q H A)(h:n<=m):ny m r q H A:=
 { k with zF:=bg k.zF h,zG:=bg k.zG h }
theorem ny.hid{n m r q lo c:Nat}{H:List Nat}{A:Arn}(k:ny n r q H A)(h:n<=m)(h2:n<=lo):ny m r q (List.range' lo c++H) A:=
 { k with zF:=bg k.zF h,zG:=bg k.zG h,hr:=by rw[mO (.inl (bg k.zF h2))];exact k.hr,hq:=by rw[mO (.inl (bg k.zG h2))];exact k.hq }
def Arn.has(A:Arn)(s n:Int):Bool:=decide (s>=0)&&decide (n>=0)&&decide (s<=A.live)&&decide (n<=A.live - s)
def Arn.part(A:Arn)(s len i n:Int):Bool:=A.has s len&&decide (0<=i)&&decide (i<=len - n)
def Arn.slot(A:Arn)(s i:Int):Nat:=A.bs.getD (s+i).toNat 0
theorem Arn.AA{A:Arn}{s n:Int} : A.has s n=true↔0<=s/\0<=n/\s<=A.live/\n<=A.live - s:=by simp[Arn.has,and_assoc]
theorem Arn.tr{A:Arn}{s len i n:Int} : A.part s len i n=true↔(0<=s/\0<=len/\s<=A.live/\len<=A.live - s)/\0<=i/\i<=len - n:=by simp[Arn.part,Arn.AA,and_assoc]
def Arn.wD(A:Arn)(q:Nat)(s len i n:Int):Value:=if A.part s len i n=true then .slice (some ⟨q,(s+i).toNat,some 0⟩) n.toNat 0 else .slice none 0 0
def Arn.KU(A:Arn)(s len i:Int):Nat:=if A.part s len i 1=true then A.slot s i else 0
def Arn.uK(A:Arn)(s len i:Int):Bool:=decide (0<=i/\i<=1048576)&&A.part s len (4*i) 4
def le4(a b c e:Nat):Nat:=a+256*b+65536*c+16777216*e
def Arn.EW(A:Arn)(s len i:Int):Nat:=if A.uK s len i=true then le4 (A.slot s (4*i)) (A.slot s (4*i+1)) (A.slot s (4*i+2)) (A.slot s (4*i+3)) else 0
theorem ny.AB{N r q:Nat}{H:List Nat}{A:Arn}(k:ny N r q H A){s len i n:Int}(h:A.part s len i n=true)(h0:0<=n):0<=s/\0<=i/\s+i+n<=A.bs.length/\(s+i).toNat+n.toNat<=A.bs.length:=by have:=Arn.tr.1 h;have:=k.CL;omega
theorem ny.Xr{N r q:Nat}{H:List Nat}{A:Arn}(k:ny N r q H A){s len i:Int}(h:A.uK s len i=true):0<=s/\0<=i/\i<=1048576/\s+4*i+4<=A.bs.length/\A.part s len (4*i) 4=true:=by simp only[Arn.uK,au,decide_eq_true_eq] at h;have:=k.AB h.2 om;exact⟨om,om,om,om,h.2⟩
theorem Xs(l:List Nat)(i x:Nat):(u8s l).set i (.int .u8 (x:Int))=u8s (l.set i x):=by simp[u8s,List.map_set]
theorem Tk(n:Nat):(List.replicate n [Value.int .u8 0]).flatten=u8s (List.replicate n 0):=by
 induction n with
 | zero=>rfl
 | succ n ih=>rw[bO,dc,ih,bO];rfl
theorem aap{v c:Int}(k:Nat)(h0:0<=v)(h1:v < (2 ^ k:Nat))(h2:0<=c)(h3:c<=255)(hk:k<=24):orI 32 v (c*((2 ^ k:Nat):Int))=v+c*((2 ^ k:Nat):Int):=by
 obtain⟨a,rfl⟩:∃ a:Nat,v=a:=⟨v.toNat,om⟩;obtain⟨b,rfl⟩:∃ b:Nat,c=b:=⟨c.toNat,om⟩;have e:(b:Int)*((2 ^ k:Nat):Int)=((b*2 ^ k:Nat):Int):=by simp
 have hk2:2 ^ k<=2 ^ 24:=Nat.pow_le_pow_right om hk;have hb:b*2 ^ k<=255*2 ^ 24:=eY om hk2;have ha:a < 2 ^ k:=om
 unfold orI;rw[e,VT 32 a (b*2 ^ k) om om];have h:=Nat.shiftLeft_add_eq_or_of_lt (i:=k) (b:=a) ha b;rw[eM] at h;rw[Nat.or_comm,<- h];omega
theorem adx{v c:Int}(h0:0<=v)(h1:v < 256)(h2:0<=c)(h3:c<=255):orI 32 v (c*256)=v+c*256:=aap 8 h0 (by simpa using h1) h2 h3 om
theorem aaq{v c:Int}(h0:0<=v)(h1:v < 65536)(h2:0<=c)(h3:c<=255):orI 32 v (c*65536)=v+c*65536:=aap 16 h0 (by simpa using h1) h2 h3 om
theorem aar{v c:Int}(h0:0<=v)(h1:v < 16777216)(h2:0<=c)(h3:c<=255):orI 32 v (c*16777216)=v+c*16777216:=aap 24 h0 (by simpa using h1) h2 h3 om
theorem ady{c:Int}(h2:0<=c)(h3:c<=255):orI 32 0 c=c:=by have:=aap 0 (v:=0) om (by simp) h2 h3 om;simpa using this
theorem Arn.AD{A:Arn}(h:By A.bs)(s i:Int):A.slot s i < 256:=by
 simp only[Arn.slot,aE];rcases bu (s+i).toNat A.bs.length with h1 | h1
 ·rw[aq h1];exact h.get h1
 ·rw[aQ h1];simp
theorem lV{p:Prop}(h:p:=by first | omega | (simp only[lnE,iy]<;>omega) | (refine Fit.mono ‹Fit _ _ _› ?_<;>(simp only[lnE,iy]<;>omega)) | (refine Fit.draw ‹Fit _ _ _› ?_ ?_<;>(simp only[lnE,iy]<;>omega)) | (refine Fit.hid1 ‹Fit _ _ _› ?_ ?_<;>(simp only[lnE,iy]<;>omega)) | (refine Fit.hidc1 ‹Fit _ _ _› ?_ ?_<;>(simp only[lnE,iy]<;>omega)) | (refine Fit.hidc2 ‹Fit _ _ _› ?_ ?_ ?_<;>(simp only[lnE,iy]<;>omega)) | (refine Fit.draw1 ‹Fit _ _ _› ?_ ?_ ?_<;>(simp only[lnE,iy]<;>omega)) | (refine Fit.range0 ?_ ?_<;>(simp only[lnE,iy]<;>omega)) | (refine ny.mono ‹ny _ _ _ _ _› ?_<;>(simp only[lnE,iy]<;>omega)) | (refine ny.hid ‹ny _ _ _ _ _› ?_ ?_<;>(simp only[lnE,iy]<;>omega)) | (refine ny.hid0 ‹ny _ _ _ _ _› ?_ ?_<;>(simp only[lnE,iy]<;>omega)) | ((intro xr hxr;simp[AM.refs,fU,fJ] at hxr)<;>(simp only[lnE,iy]<;>omega)) | (intros;contradiction) | (intros;rename_i hx;injection hx;contradiction)):p:=h
def syR:=And.intro @iy<|And.intro @agr<|And.intro @ags<|And.intro @agt<|And.intro @PX<|And.intro @Tg<|And.intro @Ti<|And.intro @Tj<|And.intro @adw<|And.intro @aao<|And.intro @V2<|And.intro @Xs<|And.intro @Tk<|@AM.Te
end AM
namespace AM
open Go Go.RowKit
def EX(col:List Nat)(ix c:Nat):List Nat:=col.take ix++c::col.drop ix
def cnt(c ix:Nat):Nat->List Nat->Nat
 | _,[]=>0
 | k,b::l=>(if b < c\/(b=c/\k < ix) then 1 else 0)+cnt c ix (k+1) l
def Tl(col:List Nat)(ix c:Nat):Nat:=1+cnt c ix 0 col
def jY:List Nat->List Nat×Nat×Nat
 | []=>([],0,0)
 | c::t=>(EX (jY t).1 (jY t).2.1 c,Tl (jY t).1 (jY t).2.1 c,(jY t).2.2+(jY t).1.length+(jY t).2.1)
theorem Ho{col:List Nat}{ix c:Nat} : (EX col ix c).length=col.length+1:=by simp only[EX,aB,az,cP,dL];omega
theorem Xt{col:List Nat}{ix c:Nat}(h:By col)(hc:c < 256):By (EX col ix c):=fun x hx=>by
 simp only[EX,aP,aJ] at hx;rcases hx with h1 | rfl | h1
 ·exact h x (eH h1)
 ·exact hc
 ·exact h x (eE h1)
theorem Xu{c ix:Nat} : ∀ (l:List Nat) (k:Nat),cnt c ix k l<=l.length
 | [],_=>av _
 | b::l,k=>by have:=Xu (c:=c) (ix:=ix) l (k+1);simp only[cnt,az];split<;>omega
theorem aas{col:List Nat}{ix c:Nat} : 1<=Tl col ix c/\Tl col ix c<=col.length+1:=by have:=Xu (c:=c) (ix:=ix) col 0;unfold Tl;omega
theorem xW:∀ t:List Nat,(jY t).1.length=t.length/\(jY t).2.1<=t.length
 | []=>⟨rfl,av _⟩
 | c::t=>by have h:=xW t;refine⟨by simp only[jY,Ho,h.1,az],?_⟩;have:=(aas (col:=(jY t).1) (ix:=(jY t).2.1) (c:=c)).2;rw[h.1] at this;exact this
theorem KV:∀ t:List Nat,By t->By (jY t).1
 | [],_=>fun x hx=>by simp[jY] at hx
 | c::t,h=>Xt (KV t fun x hx=>h x (List.mem_cons_of_mem _ hx)) (h c (dO))
def less(c:Nat):List Nat->Nat
 | []=>0
 | b::l=>(if b < c then 1 else 0)+less c l
def same(c:Nat):List Nat->Nat
 | []=>0
 | b::l=>(if b=c then 1 else 0)+same c l
theorem EY{c ix:Nat} : ∀ (l:List Nat) (k:Nat),cnt c ix k l=less c l+same c (l.take (ix - k))
 | [],k=>by simp[cnt,less,same]
 | b::l,k=>by
  have h:=EY (c:=c) (ix:=ix) l (k+1);simp only[cnt,less];rw[h];by_cases hk:k < ix
  ·rw[show ix - k=(ix - (k+1))+1 by omega,cQ];simp only[same];by_cases h1:b < c
   ·rw[if_pos (.inl h1),if_pos h1,if_neg om];omega
   ·by_cases h2:b=c
    ·rw[if_pos (.inr ⟨h2,hk⟩),if_neg h1,if_pos h2];omega
    ·rw[if_neg om,if_neg h1,if_neg h2];omega
  ·rw[show ix - k=0 by omega,show ix - (k+1)=0 by omega];simp only[eI,same];by_cases h1:b < c
   ·rw[if_pos (.inl h1),if_pos h1];omega
   ·rw[if_neg om,if_neg h1];omega
theorem NU(col:List Nat)(ix c:Nat):Tl col ix c=1+(less c col+same c (col.take ix)):=by unfold Tl;rw[EY];rfl
end AM
namespace AM
open Go Go.RowKit
structure Ord(T o:List Nat):Prop where
 perm:o.Perm (List.range (T.length+1))
 sorted:o.Pairwise fun i k=>T.drop i < T.drop k
def nZ(T o:List Nat):List Nat:=(o.filter (·≠0)).map fun j=>T.getD (j - 1) 0
theorem aat(a:List Nat):¬ a < a:=List.lt_irrefl a
theorem aau(a b:List Nat):a < b\/a=b\/b < a:=by
 by_cases h:a < b
 ·exact .inl h
 by_cases h2:b < a
 ·exact .inr (.inr h2)
 exact .inr (.inl (List.le_antisymm (List.not_lt.1 h2) (List.not_lt.1 h)))
theorem PY{a b:List Nat}(h:a < b):¬ b < a:=List.lt_asymm h
theorem aav{a b c:List Nat}(h:a < b)(h2:b < c):a < c:=List.lt_trans h h2
theorem Ord.len{T o:List Nat}(h:Ord T o):o.length=T.length+1:=by rw[h.perm.length_eq,List.length_range]
theorem Ord.mem{T o:List Nat}(h:Ord T o){i:Nat} : i∈o↔i<=T.length:=by rw[h.perm.mem_iff,cj];omega
theorem Ord.nodup{T o:List Nat}(h:Ord T o):o.Nodup:=h.perm.nodup_iff.2 List.nodup_range
theorem Ord.uniq{T o p:List Nat}(h:Ord T o)(k:Ord T p):o=p:=
 List.Perm.eq_of_pairwise (fun _ _ _ _ h1 h2=>absurd h2 (PY h1)) h.sorted k.sorted (h.perm.trans k.perm.symm)
theorem NV{α:Type}{R:α->α->Prop}[DecidableRel R](ir:∀ a,¬ R a a)(asy:∀ a b,R a b->¬ R b a){l:List α}(h:l.Pairwise R)(p:α->Bool){r:Nat}{x:α}(hx:l[r]?=some x) :
  l.countP (fun j=>p j&&decide (R j x))=(l.take r).countP p:=by
 obtain⟨hr,rfl⟩:=af.1 hx;have e:l=l.take r++l[r]::l.drop (r+1):=by rw[<- bC hr,dm]
 have hp:=h;rw[e,List.pairwise_append,bH] at hp;obtain⟨-,⟨h2,-⟩,h3⟩:=hp;generalize hy:l[r]=y at *;rw[e,List.countP_append,cE];have l1:(l.take r).length=r:=by simp;omega
 have t1:List.take r (l.take r++y::l.drop (r+1))=l.take r:=by rw[List.take_left' l1]
 have a1:(l.take r).countP (fun j=>p j&&decide (R j y))=(l.take r).countP p:=by apply List.countP_congr;intro a ha;have:=h3 a ha y dO;simp[this]
 have a2:(l.drop (r+1)).countP (fun j=>p j&&decide (R j y))=0:=by rw[List.countP_eq_zero];intro a ha;have:=asy _ _ (h2 a ha);simp[this]
 have a3:=ir y;rw[<- e,a1,a2];simp[a3]
theorem zj(c:Nat):∀ l:List Nat,less c l=l.countP (fun b=>decide (b < c))
 | []=>rfl
 | b::l=>by rw[less,cE,zj c l];simp only[decide_eq_true_eq];omega
theorem zk(c:Nat):∀ l:List Nat,same c l=l.countP (fun b=>decide (b=c))
 | []=>rfl
 | b::l=>by rw[same,cE,zk c l];simp only[decide_eq_true_eq];omega
theorem EZ{α:Type}(p q:α->Bool)(h:∀ a,p a=true->q a=false):∀ l:List α,l.countP (fun a=>p a||q a)=l.countP p+l.countP q
 | []=>rfl
 | a::l=>by rw[cE,cE,cE,EZ p q h l];have:=h a;cases hp:p a<;>cases hq:q a<;>simp_all<;>omega
theorem aaw{T:List Nat}{j c:Nat}{w:List Nat}(h:j < T.length):T.drop j < c::w↔T.getD j 0 < c\/(T.getD j 0=c/\T.drop (j+1) < w):=by rw[bC h,eA,aE,aq h,dn]
theorem Tm{T o:List Nat}(h:Ord T o){r i:Nat}(hr:o[r]?=some i)(c:Nat) :
  o.countP (fun j=>decide (T.drop j < c::T.drop i))=1+(less c (nZ T o)+same c (nZ T (o.take r))):=by
 have e1:o.countP (fun j=>decide (T.drop j < c::T.drop i))=1+(o.filter (·≠0)).countP (fun j=>decide (T.drop (j - 1) < c::T.drop i)):=by
  rw[h.perm.countP_eq,(h.perm.filter _).countP_eq,cN,List.countP_append];have:(List.filter (fun x=>decide (x≠0)) (List.range T.length++[T.length]))=(List.range T.length).map (·+1):=by rw[<- cN,List.range_succ_eq_map,dM];simp only[ne_eq,not_true_eq_false,decide_false,aO,if_false];rw[cR.2];intro a ha;obtain⟨b,-,rfl⟩:=bw.1 ha;simp
  rw[this,List.countP_map];have:List.countP (fun j=>decide (T.drop j < c::T.drop i)) [T.length]=1:=by simp[cE]
  rw[this,eW];rfl
 have e2:(o.filter (·≠0)).countP (fun j=>decide (T.drop (j - 1) < c::T.drop i))=(o.filter (·≠0)).countP (fun j=>decide (T.getD (j - 1) 0 < c)||(decide (T.getD (j - 1) 0=c)&&decide (T.drop j < T.drop i))):=by
  apply List.countP_congr;intro j hj;obtain⟨hj1,hj2⟩:=cT.1 hj;have hj3:=h.mem.1 hj1;have hj4:j≠0:=by simpa using hj2
  have:=aaw (T:=T) (j:=j - 1) (c:=c) (w:=T.drop i) om;rw[show j - 1+1=j by omega] at this;simp[this]
 rw[e1,e2,EZ _ _ (by intro a ha;simp at ha ⊢;omega)];congr 1;congr 1
 ·rw[zj,nZ,List.countP_map];rfl
 ·rw[zk,nZ,List.countP_map,List.countP_filter,List.countP_filter];have:=NV (R:=fun a b:Nat=>T.drop a < T.drop b) (fun a=>aat _) (fun a b=>PY) h.sorted (fun j=>decide (T.getD (j - 1) 0=c)&&decide (j≠0)) hr;rw[show(fun a=>((fun b=>decide (b=c))∘fun j=>T.getD (j - 1) 0) a&&decide (a≠0))=(fun j=>decide (T.getD (j - 1) 0=c)&&decide (j≠0)) from rfl,<- this];apply List.countP_congr;intro j _;simp[and_comm,and_assoc];constructor<;>rintro⟨a,b,c⟩<;>exact⟨b,a,c⟩
theorem E0{T o:List Nat}(h:Ord T o)(r:Nat):nZ T (o.take r)=(nZ T o).take (if r<=o.idxOf 0 then r else r - 1):=by
 have h0:(0:Nat)∈o:=h.mem.2 (cm _);have hi:=List.idxOf_lt_length_iff.2 h0;have hz:o[o.idxOf 0]=0:=cO hi;have nd:=h.nodup;have e:o=o.take (o.idxOf 0)++0::o.drop (o.idxOf 0+1):=by conv=>lhs;rw[<- dm (o.idxOf 0) o,bC hi,hz]
 generalize o.idxOf 0=x at *;have hl:(o.take x).length=x:=by simp;omega
 generalize ha:o.take x=a at *;generalize o.drop (x+1)=b at *;have na:∀ y∈a,y≠0:=by rintro y hy rfl;rw[e,dF] at nd;exact nd.2.2 0 hy 0 dO rfl
 have nb:∀ y∈b,y≠0:=by rintro y hy rfl;rw[e,dF,cH] at nd;exact nd.2.1.1 hy
 have fa:∀ l:List Nat,(∀ y∈l,y≠0)->l.filter (·≠0)=l:=fun l hl=>cR.2 (by intro y hy;simpa using hl y hy);have ec:nZ T o=(a++b).map fun j=>T.getD (j - 1) 0:=by rw[nZ,e,cG,dM,fa a na,fa b nb];simp
 rw[ec,<- List.map_take];unfold nZ;congr 1;split
 ·rename_i hr;rw[e,dZ om,dZ om];exact fa _ fun y hy=>na y (eH hy)
 ·rename_i hr;have h1:r=a.length+(r - x - 1+1):=om
  have h2:r - 1=a.length+(r - x - 1):=om
  rw[h2,e,h1,List.take_length_add_append,List.take_length_add_append,cQ,cG,dM,fa a na];simp only[ne_eq,not_true_eq_false,decide_false,aO,if_false];rw[show a.length+(r - x - 1+1) - x - 1=r - x - 1 by omega];have:=fa (b.take (r - x - 1)) (fun y hy=>nb y (eH hy));simp only[ne_eq] at this;rw[this]
theorem Xv{T o:List Nat}(h:Ord T o):(nZ T o).length=T.length:=by
 have:=h.perm.filter (fun x=>decide (x≠0));rw[nZ,eT,this.length_eq];rw[List.range_succ_eq_map,dM];simp only[ne_eq,not_true_eq_false,decide_false,aO,if_false];rw[cR.2]
 ·simp
 ·intro a ha;obtain⟨b,-,rfl⟩:=bw.1 ha;simp
theorem E1{α:Type}{R:α->α->Prop}{P:α->Bool}(hd:∀ a b,R a b->P b=true->P a=true):∀ {l:List α},l.Pairwise R ->
  (∀ a∈l.take (l.countP P),P a=true)/\(∀ a∈l.drop (l.countP P),P a=false)
 | [],_=>by simp
 | x::l,h=>by
  obtain⟨h1,h2⟩:=bH.1 h;have ih:=E1 hd h2;cases hx:P x with
  | true=>
   rw[cE,if_pos (by simp[hx]),cQ,cC];refine⟨fun a ha=>?_,ih.2⟩;rcases aJ.1 ha with rfl | ha
   ·exact hx
   ·exact ih.1 a ha
  | false=>
   have z:(x::l).countP P=0:=by
    rw[List.countP_eq_zero];intro a ha;rcases aJ.1 ha with rfl | ha
    ·simp[hx]
    ·intro hp;have:=hd x a (h1 a ha) hp;rw[hx] at this;cases this
   rw[z];refine⟨by simp,fun a ha=>?_⟩;rw[cz] at ha;have:=(List.countP_eq_zero.1 z) a ha;cases hp:P a
   ·rfl
   ·exact absurd hp this
def Tn(T o:List Nat)(c:Nat):List Nat:=
 (o.take (o.countP fun j=>decide (T.drop j < c::T))).map (·+1)++0::(o.drop (o.countP fun j=>decide (T.drop j < c::T))).map (·+1)
theorem Ord.put{T o:List Nat}(h:Ord T o)(c:Nat):Ord (c::T) (Tn T o c):=by
 unfold Tn;have hd:=E1 (R:=fun i k=>T.drop i < T.drop k) (P:=fun j=>decide (T.drop j < c::T)) (by intro a b h1 h2;simp only[decide_eq_true_eq] at h2 ⊢;exact aav h1 h2) h.sorted
 have hs:=h.sorted;have hp:=h.perm;have hm:∀ j∈o,j<=T.length:=fun j hj=>h.mem.1 hj;generalize (o.countP fun j=>decide (T.drop j < c::T))=n at *;have ho:o=o.take n++o.drop n:=(dm n o).symm;have m1:∀ j∈o.take n,j<=T.length:=fun j hj=>hm j (eH hj);have m2:∀ j∈o.drop n,j<=T.length:=fun j hj=>hm j (eE hj);generalize o.take n=a at *;generalize o.drop n=b at *;subst ho;rw[List.pairwise_append] at hs;refine⟨?_,?_⟩
 ·have e:(a.map (·+1)++0::b.map (·+1)).Perm (0::(a++b).map (·+1)):=by rw[dh];exact List.perm_middle
  refine e.trans ?_;rw[az,List.range_succ_eq_map];exact List.Perm.cons 0 (hp.map _)
 ·have dr:∀ j,(c::T).drop (j+1)=T.drop j:=fun j=>cC;rw[List.pairwise_append,bH];refine⟨?_,⟨?_,?_⟩,?_⟩
  ·rw[List.pairwise_map];simp only[dr];exact hs.1
  ·intro k hk;obtain⟨j,hj,rfl⟩:=bw.1 hk;have h1:=hd.2 j hj;simp only[decide_eq_false_iff_not] at h1;rw[dr,cz];rcases aau (T.drop j) (c::T) with h2 | h2 | h2
   ·exact absurd h2 h1
   ·have:=congrArg List.length h2;simp only[dL,az] at this;omega
   ·exact h2
  ·rw[List.pairwise_map];simp only[dr];exact hs.2.1
  ·intro i hi k hk;obtain⟨j,hj,rfl⟩:=bw.1 hi;have h1:=hd.1 j hj;simp only[decide_eq_true_eq] at h1;rcases aJ.1 hk with rfl | hk
   ·rw[dr,cz];exact h1
   ·obtain⟨j2,hj2,rfl⟩:=bw.1 hk;rw[dr,dr];exact hs.2.2 j hj j2 hj2
theorem Ord.nil:Ord [] [0]:=⟨by simp,by simp⟩
theorem E2:∀ (T:List Nat),∃ o,Ord T o/\(jY T).1=nZ T o/\(jY T).2.1=o.idxOf 0
 | []=>⟨[0],Ord.nil,by simp[jY,nZ],by simp[jY]⟩
 | c::T=>by
  obtain⟨o,h,e1,e2⟩:=E2 T;refine⟨Tn T o c,h.put c,?_,?_⟩
  ·simp only[jY];rw[e1,e2];have h0:(0:Nat)∈o:=h.mem.2 (cm _);have hx:=List.idxOf_lt_length_iff.2 h0;have hz:o[o.idxOf 0]=0:=cO hx;have nd:=h.nodup;have e:o=o.take (o.idxOf 0)++0::o.drop (o.idxOf 0+1):=by conv=>lhs;rw[<- dm (o.idxOf 0) o,bC hx,hz]
   have hl:(o.take (o.idxOf 0)).length=o.idxOf 0:=by simp;omega
   have ep:nZ (c::T) (Tn T o c)=o.map fun j=>(c::T).getD j 0:=by unfold nZ Tn;generalize (o.countP fun j=>decide (T.drop j < c::T))=n;rw[cG,dM];simp only[ne_eq,not_true_eq_false,decide_false,aO,if_false];rw[<- cG,<- dh,dm,cR.2 (by intro a ha;obtain⟨b,-,rfl⟩:=bw.1 ha;simp),fo];rfl
   rw[ep];have t1:=E0 h (o.idxOf 0);rw[if_pos (av _)] at t1;generalize o.idxOf 0=x at *;unfold EX;have fa:∀ y∈o.take x,y≠0:=by rintro y hy rfl;rw[e,dF] at nd;exact nd.2.2 0 hy 0 dO rfl
   have fb:∀ y∈o.drop (x+1),y≠0:=by rintro y hy rfl;rw[e,dF,cH] at nd;exact nd.2.1.1 hy
   have t2:(nZ T o).drop x=(o.drop (x+1)).map fun j=>T.getD (j - 1) 0:=by
    have:nZ T o=(o.take x).map (fun j=>T.getD (j - 1) 0)++(o.drop (x+1)).map fun j=>T.getD (j - 1) 0:=by
     conv=>lhs;unfold nZ;rw[e]
     rw[cG,dM,cR.2 (by intro y hy;simpa using fa y hy),cR.2 (by intro y hy;simpa using fb y hy)];simp
    rw[this,List.drop_left' (by simp;omega)]
   have t3:nZ T (o.take x)=(o.take x).map fun j=>T.getD (j - 1) 0:=by unfold nZ;rw[cR.2 (by intro y hy;simpa using fa y hy)]
   rw[<- t1,t2,t3]
   conv=>rhs;rw[e,dh,aK]
   have g:∀ y:Nat,y≠0->(c::T).getD y 0=T.getD (y - 1) 0:=by intro y hy;obtain⟨z,rfl⟩:∃ z,y=z+1:=⟨y - 1,om⟩;rfl
   congr 1
   ·apply bQ;intro y hy;exact(g y (fa y hy)).symm
   ·congr 1;apply bQ;intro y hy;exact(g y (fb y hy)).symm
  ·simp only[jY];rw[e1,e2,NU];have h0:(0:Nat)∈o:=h.mem.2 (cm _);have hx:=List.idxOf_lt_length_iff.2 h0;have hz:o[o.idxOf 0]?=some 0:=by rw[aq hx,cO hx]
   have rk:=Tm h hz c;rw[cz,E0 h,if_pos (av _)] at rk;rw[<- rk];unfold Tn;have hn:(o.countP fun j=>decide (T.drop j < c::T))<=o.length:=List.countP_le_length;generalize (o.countP fun j=>decide (T.drop j < c::T))=n at *;rw[List.idxOf_append,if_neg (by intro hm;obtain⟨y,-,hy⟩:=bw.1 hm;omega),List.idxOf_cons_self];simp;omega
end AM
namespace TuF
open Go Go.RowKit AM fO LtA SyP TmM TsA TsB TsC TsE TsI TsJ TtA TtB TtC TtD TtE TtF TtG TtH TtI TtJ TtK TtL TtM TtN TtO TtP TuA TuB TuC TuD TuE Bt
theorem PZ:∀ n:Nat,(List.replicate n [Value.int .i64 0]).flatten=is (List.replicate n 0)
 | 0=>rfl
 | n+1=>by rw[bO,dc,PZ n,bO];rfl
theorem NW(l:List Nat)(j i:Nat):(is l).set j (.int .i64 (i:Nat))=is (l.set j i):=by unfold is;rw[List.map_set]
def oI(o:List Nat)(i:Nat):List Nat:=o.map fun x=>if x < i then x else 0
theorem aax{o:List Nat}{n:Nat}(h:o.length=n):oI o 0=List.replicate n 0:=by
 subst h;apply cY
 ·simp[oI]
 ·intro q h1 h2;simp[oI]
theorem adz{o:List Nat}{n:Nat}(h:∀ x∈o,x < n):oI o n=o:=by
 unfold oI
 conv=>rhs;rw[<- List.map_id o]
 exact bQ fun x hx=>by rw[if_pos (h x hx)];rfl
theorem adA{o:List Nat}{i j:Nat}(hn:o.Nodup)(hj:o[j]?=some i):(oI o i).set j i=oI o (i+1):=by
 obtain⟨h1,h2⟩:=af.1 hj;apply cY
 ·simp[oI]
 ·intro q q1 q2;rw[List.getElem_set];have q3:q < o.length:=by simpa[oI] using q2
  simp only[oI,ef];by_cases e:j=q
  ·subst e;rw[if_pos rfl,h2,if_pos om]
  ·rw[if_neg e];have hne:o[q]≠i:=fun e2=>e (by rw[<- hn.idxOf_getElem j h1,<- hn.idxOf_getElem q q3,h2,e2]);by_cases e3:o[q] < i
   ·rw[if_pos e3,if_pos om]
   ·rw[if_neg e3,if_neg om]
theorem CM(x:List Nat):∀ (o:List Nat) (row:Nat) (acc:List Nat) (idx:Nat),o.Nodup->uF x o row acc idx=(acc++nZ x o,if 0∈o then row+o.idxOf 0 else idx)
 | [],row,acc,idx,_=>by simp[uF,nZ]
 | i::o,row,acc,idx,h=>by
  rw[cH] at h;rw[uF];by_cases h0:i=0
  ·subst h0;rw[if_pos rfl,CM x o (row+1) acc row h.2,if_neg h.1];simp[nZ]
  ·rw[if_neg h0,CM x o (row+1) _ idx h.2];have h0':¬ 0=i:=fun e=>h0 e.symm;refine Prod.ext ?_ ?_
   ·simp[nZ,h0]
   ·simp only[aJ,h0',false_or];split
    ·rw[List.idxOf_cons,show(i==0)=false by simpa using h0,cond_false];omega
    ·rfl
section
variable{hp:List Blk}{L:Nat}{H d:List Nat}
theorem P0{n:Nat}{r o:List Nat}(hr:r.length=n)(hol:o.length=n)(hn:n<=255)(hnd:o.Nodup)(hb:∀ x∈o,x < n)(hat:∀ i,i < n->o[r.getD i 0]?=some i)(hF:Fit hp.length L H):∀ (j i:Nat),i+j=n->∃ fr,
  fW env GD [14,13,12,4] (hp.length+2) [(14,.int .i64 i),(13,.int .i64 n),(12,.slice (some ⟨hp.length,0,some n⟩) n 1),(4,.slice (some ⟨hp.length+1,0,some 0⟩) n 1)] ⟨hp++[.cells n true (is r),.cells 0 true (is (oI o i))],L,H,[]⟩
   = some (.exit 0,fr,⟨hp++[.cells n true (is r),.cells 0 true (is o)],L,H,[]⟩)/\fr.get 4=some (.slice (some ⟨hp.length+1,0,some 0⟩) n 1)
 | 0,i,hij=>by
  have h1:¬ (i:Int) < (n:Int):=om
  obtain rfl:i=n:=om
  rw[adz hb,fC GD.eq_1];simp(disch:=first|exact dis|fail) only[sy,simprocAttr,-List.reduceReplicate,hF.all,h1];exact⟨_,rfl,rfl⟩
 | j+1,i,hij=>by
  have h1:(i:Int) < (n:Int):=om
  obtain⟨fr,ih,ih2⟩:=P0 hr hol hn hnd hb hat hF j (i+1) om;refine⟨fr,?_,ih2⟩;have ha:=hat i om;have hx:=(af.1 ha).1;have iK:=adA hnd ha;have his:=NW (oI o i) (r.getD i 0) i;rw[iK] at his;have hc:(is r)[i]?=some (.int .i64 (r.getD i 0:Nat)):=by rw[is,bW,aE,aq om];rfl
  have hil:(is (oI o i)).length=n:=by simp[is,oI,hol]
  generalize r.getD i 0=y at *;generalize is (oI o i)=P at *;generalize is (oI o (i+1))=P2 at *;have h2:0<=(i:Int)/\(i:Int) < (n:Int):=om
  have h3:0<=(y:Int)/\(y:Int) < (n:Int):=om
  have s1:y+1<=n:=om
  simp only[aC,aI] at ih;rw[fC GD.eq_1];simp(disch:=first|exact dis|fail) only[sy,simprocAttr,-List.reduceReplicate,hF.all,h1,h2,h3,hc,hil,s1,his,ih]
theorem vo{x:List Nat}{v:Value}(hR:Rd ⟨hp,L,H,[]⟩ v x)(hxs:x.length<=254)(h8:By x)(hF:Fit hp.length L H):∃ o,Ord x o/\∀ d,
  fS env (.func 53) [v] ⟨hp,L,H,d⟩=some (.slice (some ⟨hp.length,0,some 0⟩) (x.length+1) 1,⟨hp++[.cells 0 true (is o)],L,H,d⟩):=by
 obtain⟨l,k,w,hK,hl,hlk,hRk,kr⟩:=NT hR hxs h8 hF;have ho:=RdP.Xn hK hlk hRk;have hO:Ord x (RdP.rows l k):=⟨ho.1,ho.2⟩;have hat:∀ i,i < x.length+1->(RdP.rows l k)[(RdP.rnk l k).getD i 0]?=some i:=fun i hi=>RdP.aaj hK hlk om;have hrl:(RdP.rnk l k).length=x.length+1:=by rw[RdP.uh,hl]
 refine⟨RdP.rows l k,hO,fun d=>?_⟩;generalize RdP.rows l k=o at *;generalize RdP.rnk l k=r at *;obtain⟨n,hn⟩:∃ n,n=x.length+1:=⟨_,rfl⟩;rw[<- hn] at hat hrl ⊢;simp only[<- hn] at kr;obtain⟨fr,l0,l1⟩:=P0 (hp:=hp) (L:=L) (H:=H) hrl (hO.len.trans hn.symm) om hO.nodup (fun y hy=>by have:=hO.mem.1 hy;omega) hat hF n 0 om;rw[aax (hO.len.trans hn.symm),<- PZ] at l0;rw[fF 53 _ _ ahJ];have h0n:¬ (n:Int)=0:=om
 have hge:0<=(n:Int):=om
 have hn3:(n:Int)<=1048576:=om
 have hn4:n<=1048576:=om
 have hG:=fun c1=>kO (h:=hp) (nw:=[c1,.cells 0 true (is o)]) (L:=L) (H:=H) (v:=.slice (some ⟨hp.length+1,0,some 0⟩) n 1) 1 rfl (by simp[refs,fU,fJ]) (by simp[refs,fU,fJ]);have o2:AM.one hp.length (hp.length+1) (hp.length+1)=hp.length:=iZ;simp only[aN] at l0;simp(disch:=first|exact dis|fail) only[sy,simprocAttr,-List.reduceReplicate,hF.all,ac0,kr,hge,hn3,hn4,h0n,bI,dH,l0,l1,hG,ren,ke,iX,o2,aK,br]
theorem To{x:List Nat}{v:Value}(hR:Rd ⟨hp,L,H,[]⟩ v x)(h1:1<=x.length)(hxs:x.length<=254)(h8:By x)(hF:Fit hp.length L H) :
  fS env (.func 15) [v] ⟨hp,L,H,d⟩=some (.tuple #[.slice (some ⟨hp.length,0,some x.length⟩) x.length 1,.int .i64 ((jY x).2.1:Nat)],⟨hp++[.cells x.length true (u8s (jY x).1)],L,H,d⟩):=by obtain⟨o,hO,ko⟩:=vo hR hxs h8 hF;obtain⟨o2,hO2,t1,t2⟩:=E2 x;obtain rfl:=hO.uniq hO2;rw[t1,t2];have hcl:=Xv hO;have h0:(0:Nat)∈o:=hO.mem.2 (cm _);obtain⟨a,e,rfl⟩:=hR.len;obtain⟨fr,l0,l1,l2⟩:=He (hp:=hp) (L:=L) (H:=H) hR om (by rw[hO.len];omega) (fun i hi=>hO.mem.1 hi) hF o.length 0 [] 0 om (by simp);rw[cz,CM x o 0 [] 0 hO.nodup,if_pos h0] at l0 l1 l2;simp only[aV,aX] at l0 l1 l2;rw[Cy hcl om] at l0;rw[KA hcl om] at l1;unfold Xa at l0;rw[hO.len] at l0;rw[fF 15 _ _ ahC];have hG:=fun c1=>kO (h:=hp) (nw:=[c1,.cells x.length true (u8s (nZ x o))]) (L:=L) (H:=H) (v:=.tuple #[.slice (some ⟨hp.length+1,0,some x.length⟩) x.length 1,.int .i64 (o.idxOf 0:Nat)]) 1 rfl (by simp[refs,fU,fJ]) (by simp[refs,fU,fJ]);have o2:AM.one hp.length (hp.length+1) (hp.length+1)=hp.length:=iZ;simp only[aN,G8,Cz] at l0;simp(disch:=first|exact dis|fail) only[sy,simprocAttr,-List.reduceReplicate,hF.all,acU,ko,l0,l1,l2,hG,ren,ke,iX,o2,aK,br]
end
end TuF
namespace TuG
open Go Go.RowKit AM fO LtA SyP TmM TsA TsB TsC TsE TsF TsI TsJ TtA TtB TtC TtD TtE TtF TtG TtH TtI TtJ TtK TtL TtM TtN TtO TtP TuA TuB TuC TuD TuE TuF Bt
def col(x:List Nat):List Nat:=(jY x.reverse).1
theorem P3(x:List Nat):(col x).length=x.length:=by rw[col,(xW _).1,eP]
theorem Xw{x:List Nat}(h:By x):By (col x):=KV _ fun b hb=>h b (List.mem_reverse.1 hb)
section
variable{hp:List Blk}{L:Nat}{H d:List Nat}
theorem KW{x:List Nat}{v:Value}{m:Nat}(hR:Rd ⟨hp,L,H,[]⟩ v x)(hm:x.length=m)(h1:1<=m)(hxs:m<=254)(hF:Fit hp.length L H) :
  fS env (.func 23) [v] ⟨hp,L,H,d⟩=some (.tuple #[.slice (some ⟨hp.length,0,some m⟩) m 1,.int .i64 ((jY x.reverse).2.1:Nat)],⟨hp++[.cells m true (u8s (col x))],L,H,d⟩):=by subst hm;rw[fF 23 _ _ ahH];have k1:=fun d=>sX (d:=d) hR (by intro e;rw[e] at h1;simp at h1) om hF;have hby:By x.reverse:=fun b hb=>hR.by_ b (List.mem_reverse.1 hb);have hR2:Rd ⟨hp++[.cells x.length true (u8s x.reverse)],L,H,[]⟩ (.slice (some ⟨hp.length,0,some x.length⟩) x.reverse.length 1) x.reverse:=Rd.whole (by rw[gA]) hF.lS hby (.inr rfl);have k2:=fun d=>To (d:=d) hR2 (by rw[eP];exact h1) (by rw[eP];exact hxs) hby (hF.mono (by simp));simp only[eP] at k2;have hl:=(xW x.reverse);change ∀ d,fS env _ _ _=some (_,(⟨_++[.cells x.length true (u8s (col x))],_,_,_⟩:St)) at k2;generalize col x=y at *;generalize (jY x.reverse).2.1=idx at *;generalize x.length=m at *;have hG:=fun c1=>kO (h:=hp) (nw:=[c1,.cells m true (u8s y)]) (L:=L) (H:=H) (v:=.tuple #[.slice (some ⟨hp.length+1,0,some m⟩) m 1,.int .i64 (idx:Nat)]) 1 rfl (by simp[refs,fU,fJ]) (by simp[refs,fU,fJ]);have o2:AM.one hp.length (hp.length+1) (hp.length+1)=hp.length:=iZ;simp only[aB,az,aT,aX] at k2;simp(disch:=first|exact dis|fail) only[sy,simprocAttr,-List.reduceReplicate,hF.all,acZ,k1,k2,hG,ren,ke,iX,o2,aK,br]
theorem wE{x:List Nat}{v:Value}{N:Nat}(hR:Rd ⟨hp,L,H,[]⟩ v x)(h1:1<=x.length)(hxs:x.length<=254)(hN:(enc (col x)).length=N)(h0:N≠0)(hF:Fit hp.length L H) :
  fS env (.func 18) [v] ⟨hp,L,H,d⟩=some (.slice (some ⟨hp.length,0,some N⟩) N 1,⟨hp++[.cells N true (is (enc (col x)))],L,H,d⟩):=by rw[fF 18 _ _ ahD];have k1:=fun d=>KW (d:=d) hR rfl h1 hxs hF;have hcl:=P3 x;have hR2:Rd ⟨hp++[.cells x.length true (u8s (col x))],L,H,[]⟩ (.slice (some ⟨hp.length,0,some x.length⟩) (col x).length 1) (col x):=Rd.whole (by rw[gA]) hF.lS (Xw hR.by_) (.inr rfl);have k2:=fun d=>W4 (d:=d) hR2 om (hF.mono (by simp));rw[mP hN h0,j8 hN h0,hcl] at k2;generalize enc (col x)=s at *;generalize col x=y at *;generalize (jY x.reverse).2.1=idx at *;generalize x.length=m at *;have hG:=fun c1=>kO (h:=hp) (nw:=[c1,.cells N true (is s)]) (L:=L) (H:=H) (v:=.slice (some ⟨hp.length+1,0,some N⟩) N 1) 1 rfl (by simp[refs,fU,fJ]) (by simp[refs,fU,fJ]);have o2:AM.one hp.length (hp.length+1) (hp.length+1)=hp.length:=iZ;simp only[aB,az,aT,aX] at k2;simp(disch:=first|exact dis|fail) only[sy,simprocAttr,-List.reduceReplicate,hF.all,acV,k1,k2,hG,ren,ke,iX,o2,aK,br]
end
end TuG
namespace TwA
open Go Go.RowKit AM fO LtA SyP TmM TsA TsB TsC TsE TsI TsJ TuF Bt
theorem KX{l:List Nat}{i:Nat}(h:i < l.length):(is l)[i]?=some (.int .i64 (l[i]:Nat)):=by simp[is,h]
theorem mZ{l:List Nat}{n:Nat}(h:l.length=n):(is l).length=n:=by rw[mE,h]
theorem P4(l:List Nat):((is l).flatMap fJ).isEmpty=true:=by rw[qY (oS l)];rfl
theorem NX{hp:List Blk}{H:List Nat}{v:Value}{l:List Nat}(h:Si hp H v l)(nw:List Blk):Si (hp++nw) H v l:=by obtain⟨b,of,g,e,pl,cs,rfl,hh,hb,hc⟩:=h;exact⟨b,of,g,e,pl,cs,rfl,hh,by rw[aA (af.1 hb).1,hb],hc⟩
structure Ta(t:List Nat)(B:Nat):Prop where
 len:t.length=258
 le:∀ n∈t,n<=B
theorem Ta.at{t:List Nat}{B i:Nat}(h:Ta t B)(hi:i < 258):∃ n,t[i]?=some n/\n<=B/\(is t)[i]?=some (.int .i64 (n:Nat)):=by
 have hl:i < t.length:=by rw[h.len];exact hi
 exact⟨t[i],aq hl,h.le _ (bN hl),KX hl⟩
theorem Ta.set{t:List Nat}{B C s n:Nat}(h:Ta t B)(hn:n<=C)(hB:B<=C):Ta (t.set s n) C:=⟨by rw[aG,h.len],fun x hx=>by
 rcases eD hx with hx | rfl
 ·exact bh (h.le x hx) hB
 ·exact hn⟩
def sr(t:List Nat)(s:Nat):List Nat:=t.set s ((t[s]?).getD 0+1)
def gM(S:List Nat):List Nat:=S.foldl sr (List.replicate 258 0)
theorem Ta.sr{t:List Nat}{B s:Nat}(h:Ta t B):Ta (sr t s) (B+1):=by
 refine h.set ?_ om;cases e:t[s]? with
 | none=>simp
 | some n=>have:=h.le n (aW e);simp;omega
theorem Ta.fold:∀ {S t:List Nat} {B:Nat},Ta t B->Ta (S.foldl TwA.sr t) (B+S.length)
 | [],t,B,h=>h
 | s::S,t,B,h=>by have:=Ta.fold (S:=S) (h.sr (s:=s));rw[show B+(s::S).length=B+1+S.length by simp;omega];exact this
theorem Ta.zero:Ta (List.replicate 258 0) 0:=⟨by simp,fun n hn=>by rw[(List.mem_replicate.1 hn).2];omega⟩
theorem Ta.gM(S:List Nat):Ta (gM S) S.length:=by have:=Ta.zero.fold (S:=S);rwa [aX] at this
def cost(t l:List Nat):Nat->Nat
 | 0=>0
 | i+1=>cost t l i+(t[i]?).getD 0*(l[i]?).getD 0
theorem P5{t l:List Nat}{B C:Nat}(ht:Ta t B)(hl:Ta l C):∀ i,i<=258->cost t l i<=i*(B*C)
 | 0,_=>by simp[cost]
 | i+1,h=>by have ih:=P5 ht hl i om;obtain⟨n,hn,hn2,-⟩:=ht.at (i:=i) om;obtain⟨m,hm,hm2,-⟩:=hl.at (i:=i) om;have:=eY hn2 hm2;simp only[cost,hn,hm,dn,bS];omega
theorem yY{l:List Nat}{i:Nat}(h:i < l.length):(u8s l)[i]?=some (.int .u8 (l[i]:Int)):=by rw[j0,aq h];rfl
section
variable{hp:List Blk}{L:Nat}{H d:List Nat}
theorem aay{s:Nat}(hs:s < 258)(hF:Fit hp.length L H):fS env (.func 129) [.int .i64 s] ⟨hp,L,H,d⟩=some (.bool true,⟨hp,L,H,d⟩):=by
 rw[fF 129 _ _ aff];have h1:(s:Int)>=0:=om
 have h2:(s:Int) < 258:=om
 simp(disch:=first|exact dis|fail) only[sy,simprocAttr,-List.reduceReplicate,hF.all,V7,h1,h2]
theorem zl{t:List Nat}{B:Nat}(h:Ta t B)(hB:B<=2147483647)(hF:Fit hp.length L H):∀ k i:Nat,i+k=258->∃ fr,fW env GI [5,6] hp.length [(5,.agg (is t).toArray),(6,.int .i64 i)] ⟨hp,L,H,[]⟩=some (.exit 0,fr,⟨hp,L,H,[]⟩)
 | 0,i,e=>by
  obtain rfl:i=258:=om
  rw[fC GI.eq_1];simp(disch:=first|exact dis|fail) only[sy,simprocAttr,-List.reduceReplicate,hF.all];exact⟨_,rfl⟩
 | k+1,i,e=>by
  obtain⟨fr,e1⟩:=zl h hB hF k (i+1) om;obtain⟨n,-,hn,hc⟩:=h.at (i:=i) om;have h1:(i:Int) < 258:=om
  have h2:0<=(i:Int)/\(i:Int) < 258:=om
  have h3:¬ (n:Int) < 0:=om
  have h4:¬ (n:Int) > 2147483647:=om
  have hl:=mZ h.len;rw[fC GI.eq_1];simp only[aC,aI] at e1;simp(disch:=first|exact dis|fail) only[sy,simprocAttr,-List.reduceReplicate,hF.all,h1,h2,h3,h4,hc,hl,e1];exact⟨fr,rfl⟩
theorem zm{t:List Nat}{B:Nat}(h:Ta t B)(hB:B<=2147483647)(hF:Fit hp.length L H):fS env (.func 66) [.agg (is t).toArray] ⟨hp,L,H,d⟩=some (.bool true,⟨hp,L,H,d⟩):=by rw[fF 66 _ _ ahP];obtain⟨fr,e1⟩:=zl (hp:=hp++[.cells 0 true (is t)]) (L:=L) (H:=H) h hB (hF.mono (by simp)) 258 0 rfl;have hl:=mZ h.len;simp only[aN,aB,az,aT,aX] at e1;simp(disch:=first|exact dis|fail) only[sy,simprocAttr,-List.reduceReplicate,hF.all,ZR,jR,oS,hl,fR hl,e1]
theorem Xx{t:List Nat}{s n:Nat}(h:t[s]?=some n):(is t).set s (.int .i64 ((n:Int)+1))=is (sr t s):=by have:=NW t s (n+1);rw[sr,h];simpa using this
theorem KY{S:List Nat}{v:Value}{B:Nat}(hS:Si hp H v S)(hs:∀ s∈S,s < 258)(hB:B+S.length<=2147483000)(c1 c2:Blk)(hF:Fit hp.length L H):∀ (n i:Nat) (t:List Nat),i+n=S.length->Ta t (B+i)->∃ fr,
  fW env GF [2,14,15,16,6,4] (hp.length+3) [(2,.pointer (some ⟨hp.length,0,some 0⟩)),(14,v),(15,.int .i64 S.length),(16,.int .i64 i),(6,.pointer (some ⟨hp.length+2,0,some 0⟩)),(4,.pointer (some ⟨hp.length+1,0,some 0⟩))] ⟨hp++[.cells 0 true (is t),c1,c2],L,H,[]⟩
   = some (.exit 0,fr,⟨hp++[.cells 0 true (is ((S.drop i).foldl sr t)),c1,c2],L,H,[]⟩)/\fr.get 2=some (.pointer (some ⟨hp.length,0,some 0⟩))/\fr.get 4=some (.pointer (some ⟨hp.length+1,0,some 0⟩))
 | 0,i,t,e,h=>by
  rw[c9 om];obtain⟨b,of,g,ee,pl,cs,rfl,hh,hb,hc⟩:=hS;have h1:¬ (i:Int) < S.length:=om
  rw[fC GF.eq_1];simp(disch:=first|exact dis|fail) only[sy,simprocAttr,-List.reduceReplicate,hF.all,h1];exact⟨_,rfl,rfl,rfl⟩
 | n+1,i,t,e,h=>by
  have hi:i < S.length:=om
  have hx:=hs _ (bN hi);obtain⟨fr,ih,ih2⟩:=KY hS hs hB c1 c2 hF n (i+1) (sr t S[i]) om (by have:=h.sr (s:=S[i]);rwa [cA] at this);rw[bC hi,dg];refine⟨fr,?_,ih2⟩;obtain⟨b,of,g,ee,pl,cs,rfl,hh,hb,hc⟩:=hS;have hc:=hc i hi;have hbl:=(af.1 hb).1;obtain⟨m,hm,hle,hm2⟩:=h.at hx;have h1:(i:Int) < S.length:=om
  have h2:0<=(i:Int)/\(i:Int) < S.length:=om
  have hbs:=Xx hm;have hw:=fun hp L H d hF=>aay (hp:=hp) (L:=L) (H:=H) (d:=d) hx hF;have h3:0<=((S[i]:Nat):Int)/\((S[i]:Nat):Int) < 258:=om
  have h4:¬ (m:Int)=2147483647:=om
  have hl:=mZ h.len;have hsl:S[i]+1<=258:=om
  simp only[aC,aI] at ih;generalize sr t S[i]=t' at *;generalize S[i]=x at *;rw[fC GF.eq_1];simp(disch:=first|exact dis|fail) only[sy,simprocAttr,-List.reduceReplicate,hF.all,h1,h2,hb,hh,hc,hw,h3,h4,hl,hm2,hbs,hsl,ih]
theorem Tp{S t:List Nat}{v:Value}{B:Nat}(hS:Si hp H v S)(hs:∀ s∈S,s < 258)(h:Ta t B)(hB:B+S.length<=2147483000)(hF:Fit hp.length L H) :
  fS env (.func 61) [.agg (is t).toArray,v] ⟨hp,L,H,d⟩=some (.tuple #[.agg (is (S.foldl sr t)).toArray,.int .i64 0],⟨hp,L,H,d⟩):=by
 rw[fF 61 _ _ ahK];have hl:=mZ h.len;have hl2:=mZ (h.fold (S:=S)).len;have hv:=fun hp L H d hF=>zm (hp:=hp) (L:=L) (H:=H) (d:=d) h om hF;have hr:(List.replicate 258 (Value.int .i64 0)).length=258:=by simp
 have hput:∀ {cs:List Value},cs.length=258->putAt (List.replicate 258 (Value.int .i64 0)) 0 cs=cs:=fun h=>gH (by rw[h,hr]);obtain⟨fr,e1,e2,e3⟩:=KY (L:=L) (B:=B) hS hs hB (.cells 0 true (List.replicate 258 (.int .i64 0))) (.cells 0 true (is t)) hF S.length 0 t om h;simp only[cz,aN] at e1;obtain⟨b,of,g,ee,pl,cs,rfl,hh,hb,hc⟩:=hS;generalize S.foldl sr t=t' at *;generalize hz:List.replicate 258 (Value.int .i64 0)=z at *;simp(disch:=first|exact dis|fail) only[sy,simprocAttr,-List.reduceReplicate,hF.all,ac1,hz,jR,oS,hl,hl2,hr,fR hl,fR hl2,hv,hput hl,hput hl2,e1,e2,e3,P4]
theorem P6{S:List Nat}{v:Value}(hS:Si hp H v S)(hs:∀ s∈S,s < 258)(hB:S.length<=2147483000)(hF:Fit hp.length L H) :
  fS env (.func 19) [v] ⟨hp,L,H,d⟩=some (.tuple #[.agg (is (gM S)).toArray,.int .i64 0],⟨hp,L,H,d⟩):=by
 rw[fF 19 _ _ ahE];have hl2:=mZ (Ta.gM S).len;have hr:(List.replicate 258 (Value.int .i64 0)).length=258:=by simp
 have hput:∀ {cs:List Value},cs.length=258->putAt (List.replicate 258 (Value.int .i64 0)) 0 cs=cs:=fun h=>gH (by rw[h,hr]);have k:=fun c d=>Tp (hp:=hp++[c]) (L:=L) (d:=d) (NX hS [c]) hs Ta.zero om (hF.mono (by simp));have hz0:is (List.replicate 258 0)=List.replicate 258 (Value.int .i64 0):=by simp[is]
 rw[hz0] at k;change ∀ c d,fS env _ _ _=some (.tuple #[.agg (is (gM S)).toArray,_],_) at k;generalize gM S=t' at *;generalize hz:List.replicate 258 (Value.int .i64 0)=z at *;simp(disch:=first|exact dis|fail) only[sy,simprocAttr,-List.reduceReplicate,hF.all,acW,hz,jR,oS,hl2,hr,fR hl2,k,hput hl2,P4]
theorem E3{t:List Nat}{l:List Nat}(ht:Ta t 100000)(hl:Ta l 255)(hb:H.contains hp.length=false)(c0:Blk)(hF:Fit hp.length L H):∀ k i:Nat,i+k=258->∃ fr,
  fW env GC [4,11,10,3] (hp.length+2) [(4,.int .i64 (cost t l i:Nat)),(11,.int .i64 i),(10,.agg (is t).toArray),(3,.pointer (some ⟨hp.length+1,0,some 0⟩))] ⟨hp++[c0,.cells 0 true (u8s l)],L,H,[]⟩
   = some (.exit 0,fr,⟨hp++[c0,.cells 0 true (u8s l)],L,H,[]⟩)/\fr.get 4=some (.int .i64 (cost t l 258:Nat))
 | 0,i,e=>by
  obtain rfl:i=258:=om
  rw[fC GC.eq_1];simp(disch:=first|exact dis|fail) only[sy,simprocAttr,-List.reduceReplicate,hF.all];exact⟨_,rfl,rfl⟩
 | k+1,i,e=>by
  obtain⟨fr,e1,e2⟩:=E3 ht hl hb c0 hF k (i+1) om;refine⟨fr,?_,e2⟩;obtain⟨n,hn,hn2,hc⟩:=ht.at (i:=i) om;have hil:i < l.length:=by rw[hl.len];omega
  have hm2:=hl.le _ (bN hil);have hm:l[i]?=some l[i]:=aq hil;have hcl:(u8s l)[i]?=some (.int .u8 (l[i]:Int)):=yY hil;have Mj:((cost t l i:Nat):Int)+(n:Int)*(l[i]:Nat)=(cost t l (i+1):Nat):=by simp[cost,hn,hm]
  have hle:=P5 ht hl (i+1) om;have hmul:n*l[i]<=100000*255:=eY hn2 hm2;have aiq:((n*l[i]:Nat):Int)=(n:Int)*(l[i]:Nat):=by simp
  have h1:(i:Int) < 258:=om
  have h2:0<=(i:Int)/\(i:Int) < 258:=om
  have hlen:=mZ ht.len;rw[fC GC.eq_1];simp only[aC,aI] at e1;generalize l[i]=m at *;simp(disch:=first|exact dis|fail) only[sy,simprocAttr,-List.reduceReplicate,hF.all,h1,h2,hc,hcl,hlen,Mj,e1]
theorem E4{t:List Nat}{l:List Nat}(ht:Ta t 100000)(hl:Ta l 255)(hF:Fit hp.length L H) :
  fS env (.func 21) [.agg (is t).toArray,.agg (u8s l).toArray] ⟨hp,L,H,d⟩=some (.int .i64 (cost t l 258:Nat),⟨hp,L,H,d⟩):=by
 rw[fF 21 _ _ ahF];obtain⟨fr,e1,e2⟩:=E3 (L:=L) ht hl hF.lS (.cells 0 true (is t)) hF 258 0 rfl;have hlen:=mZ ht.len;have hl8:(u8s l).length=258:=by rw[fH,hl.len]
 have hv:=fun hp L H d hF=>zm (hp:=hp) (L:=L) (H:=H) (d:=d) ht om hF;simp only[cost,aN] at e1;generalize cost t l 258=c at *;simp(disch:=first|exact dis|fail) only[sy,simprocAttr,-List.reduceReplicate,hF.all,acX,jR,oS,ju,gQ,hlen,hl8,fR hlen,fR hl8,hv,e1,e2]
end
end TwA
namespace TwS
open Go.Sort
variable{α:Type}[Inhabited α]{lt:α->α->Bool}
def vp(s m e:Nat)(D D1:Array α):Prop:=
 PermIn s e D D1/\(∀ i,s<=i->i < s+(e - m)->D1[i]! = D[i+(m - s)]!)/\(∀ i,s+(e - m)<=i->i < e->D1[i]! = D[i - (e - m)]!)
theorem xX{a s m e b:Nat}{D D1:Array α}(hS:SWO lt)(r:vp s m e D D1)(h1:SortedIn lt a m D)(h2:SortedIn lt m b D)(ha:a<=s)(hs:s<=m)(he:m<=e)(hb:e<=b)
  (x:s=a\/e=b\/lt D[e]! D[s - 1]! = false) (y:s=m\/m=e\/lt D[e - 1]! D[s]! = true) :
  SortedIn lt a s D1/\SortedIn lt s (s+(e - m)) D1/\SortedIn lt (s+(e - m)) e D1/\SortedIn lt e b D1/\∀ i j,a<=i->i < s+(e - m)->s+(e - m)<=j->j < b->lt D1[j]! D1[i]! = false:=by
 obtain⟨⟨-,p,-⟩,u,v⟩:=r;have asq:∀ x y,lt x y=true->lt y x=false:=fun x y h=>by
  cases e:lt y x with
  | false=>rfl
  | true=>have:=hS.trans _ _ _ h e;rw[hS.irrefl] at this;cases this
 have le1:∀ i j,a<=i->i<=j->j < m->lt D[j]! D[i]! = false:=fun i j h g k=>by
  by_cases c:i=j
  ·subst c;exact hS.irrefl _
  ·exact h1 i j h om k
 have le2:∀ i j,m<=i->i<=j->j < b->lt D[j]! D[i]! = false:=fun i j h g k=>by
  by_cases c:i=j
  ·subst c;exact hS.irrefl _
  ·exact h2 i j h om k
 refine⟨fun i j h g k=>?_,fun i j h g k=>?_,fun i j h g k=>?_,fun i j h g k=>?_,fun i j h g k n=>?_⟩
 ·rw[p i om,p j om];exact le1 i j h om om
 ·rw[u i om om,u j om om];exact le2 _ _ om om om
 ·rw[v i om om,v j om om];exact le1 _ _ om om om
 ·rw[p i om,p j om];exact le2 i j om om om
 ·by_cases c1:i < s<;>by_cases c2:j < e
  ·rw[p i om,v j om om];exact le1 _ _ om om om
  ·rw[p i om,p j om];rcases x with x | x | x
   ·omega
   ·omega
   ·exact hS.ntrans _ _ _ (le2 e j om om om) (hS.ntrans _ _ _ x (le1 i (s - 1) om om om))
  ·rw[u i om om,v j om om];rcases y with y | y | y
   ·omega
   ·omega
   ·exact hS.ntrans _ _ _ (le1 s _ om om om) (hS.ntrans _ _ _ (asq _ _ y) (le2 _ (e - 1) om om om))
  ·rw[u i om om,p j om];exact le2 _ _ om om om
theorem nP{a m b:Nat}{D:Array α}(h1:SortedIn lt a m D)(h2:SortedIn lt m b D)(h3:∀ i j,a<=i->i < m->m<=j->j < b->lt D[j]! D[i]! = false):SortedIn lt a b D:=fun i j h g k=>by
 by_cases c:j < m
 ·exact h1 i j h g c
 ·by_cases d:i < m
  ·exact h3 i j h d om k
  ·exact h2 i j om g k
theorem sides{a m b:Nat}{D D1 D2:Array α}(hm:a<=m)(hb:m<=b)(hz:b<=D.size)(h3:∀ i j,a<=i->i < m->m<=j->j < b->lt D[j]! D[i]! = false)
  (p1:PermIn a m D D1) (s1:SortedIn lt a m D1) (p2:PermIn m b D1 D2) (s2:SortedIn lt m b D2):PermIn a b D D2/\SortedIn lt a b D2:=by
 have z1:=p1.1;refine⟨permIn_trans _ _ _ a b (permIn_mono _ _ a m a b om hb hz p1) (permIn_mono _ _ m b a b hm om om p2),nP (m:=m) ?_ s2 ?_⟩
 ·intro i j h g k;rw[p2.2.1 i om,p2.2.1 j om];exact s1 i j h g k
 ·have q1:=permIn_all D D1 a m (fun x=>∀ j,m<=j->j < b->lt D[j]! x=false) om p1 fun i h g j h' g'=>h3 i j h g h' g';have q2:=permIn_all D1 D2 m b (fun y=>∀ i,a<=i->i < m->lt y D1[i]! = false) om p2 fun j h g i h' g'=>by rw[p1.2.1 j om];exact q1 i h' g' j h g
  intro i j h g k n;rw[p2.2.1 i om];exact q2 j k n i h g
theorem KZ{s m:Nat}{D:Array α} : vp s m m D D:=⟨permIn_refl _ _ _,fun i h g=>by omega,fun i h g=>by rw[cL,Nat.sub_zero]⟩
theorem E5{m e:Nat}{D:Array α} : vp m m e D D:=⟨permIn_refl _ _ _,fun i h g=>by rw[cL,bY],fun i h g=>by omega⟩
theorem Tq{a b i:Nat}{D D1:Array α}(hS:SWO lt)(r:vp a (a+1) i D D1)(h2:SortedIn lt (a+1) b D)(hi:a+1<=i)(hb:i<=b)
  (x:i=a+1\/lt D[i - 1]! D[a]! = true) (y:i=b\/lt D[i]! D[a]! = false):SortedIn lt a b D1:=by
 obtain⟨q1,q2,q3,q4,q5⟩:=xX (a:=a) (b:=b) hS r (fun i j _ _ _=>by omega) h2 (av _) om hi hb (.inl rfl) (by rcases x with x | x;exact .inr (.inl x.symm);exact .inr (.inr x));refine nP (m:=a+(i - (a+1))) q2 ?_ q5;refine nP (m:=i) q3 q4 fun p j h g k n=>?_;obtain rfl:p=i - 1:=om
 rw[r.1.2.1 j om,r.2.2 (i - 1) om om,show i - 1 - (i - (a+1))=a by omega];rcases y with y | y
 ·omega
 ·by_cases c:i=j
  ·subst c;exact y
  ·exact hS.ntrans _ _ _ (h2 i j om om n) y
theorem Xy{a m i:Nat}{D D1:Array α}(hS:SWO lt)(r:vp i m (m+1) D D1)(h1:SortedIn lt a m D)(hi:a<=i)(hb:i<=m)
  (x:i=a\/lt D[m]! D[i - 1]! = false) (y:i=m\/lt D[m]! D[i]! = true):SortedIn lt a (m+1) D1:=by
 obtain⟨q1,q2,q3,q4,q5⟩:=xX (a:=a) (b:=m+1) hS r h1 (fun i j _ _ _=>by omega) hi hb om (av _) (.inr (.inl rfl)) (by rcases y with y | y;exact .inl y;exact .inr (.inr y));refine nP (m:=i+(m+1 - m)) ?_ q3 q5;refine nP (m:=i) q1 q2 fun p j h g k n=>?_;obtain rfl:j=i:=om
 rw[r.2.1 _ om om,r.1.2.1 p om,show j+(m - j)=m by omega];rcases x with x | x
 ·omega
 ·by_cases c:p=j - 1
  ·subst c;exact x
  ·exact hS.ntrans _ _ _ x (h1 p (j - 1) h om om)
def swr(a b:Nat):Nat->Nat->Array α->Array α
 | _,0,d=>d
 | i,k+1,d=>swr a b (i+1) k (swp d (a+i) (b+i))
theorem wF{a b n lo hi:Nat}(h:a+n<=b)(ha:lo<=a)(hb:b+n<=hi):∀ k i (d:Array α),i+k=n->hi<=d.size->PermIn lo hi d (swr a b i k d) /\
  (∀ t,t < n->(i<=t->(swr a b i k d)[a+t]! = d[b+t]!/\(swr a b i k d)[b+t]! = d[a+t]!))/\∀ j,(j < a+i\/a+n<=j)->(j < b+i\/b+n<=j)->(swr a b i k d)[j]! = d[j]!
 | 0,i,d,e,z=>⟨permIn_refl _ _ _,fun t g h=>by omega,fun j _ _=>rfl⟩
 | k+1,i,d,e,z=>by
  obtain⟨p,q,r⟩:=wF h ha hb k (i+1) (swp d (a+i) (b+i)) om (by rw[size_swp];exact z);refine⟨permIn_trans _ _ _ _ _ (swp_permIn d lo hi _ _ om om om om z) p,fun t g g2=>?_,fun j g g2=>?_⟩
  ·by_cases c:t=i
   ·subst c;show(swr a b (t+1) k _)[a+t]! = _/\(swr a b (t+1) k _)[b+t]! = _;rw[r _ om om,r _ om om];exact⟨swp_left d _ _ om om,swp_right d _ _ om⟩
   ·have:=q t g om;rw[swp_other _ _ _ _ om om,swp_other _ _ _ _ om om] at this;exact this
  ·show(swr a b (i+1) k _)[j]! = _;rw[r j om om,swp_other _ _ _ _ om om]
theorem adB{m i:Nat}{D:Array α}(hi:i<=m)(z:m+i<=D.size):vp (m - i) m (m+i) D (swr (m - i) m 0 i D):=by
 obtain⟨p,q,r⟩:=wF (a:=m - i) (b:=m) (n:=i) (lo:=m - i) (hi:=m+i) om om om i 0 D om z;refine⟨p,fun j h g=>?_,fun j h g=>?_⟩
 ·have:=(q (j - (m - i)) om om).1;rw[show m - i+(j - (m - i))=j by omega] at this;rw[this];congr 1;omega
 ·have:=(q (j - m) om om).2;rw[show m+(j - m)=j by omega] at this;rw[this];congr 1;omega
theorem adC{m i j:Nat}{D D1:Array α}(hi:i<=m)(hj:j < i)(z:m+j<=D.size)(r:vp (m - (i - j)) m (m+j) (swr (m - i) m 0 j D) D1):vp (m - i) m (m+j) D D1:=by
 obtain⟨p,q,u⟩:=wF (a:=m - i) (b:=m) (n:=j) (lo:=m - i) (hi:=m+j) om om om j 0 D om z;obtain⟨p1,q1,u1⟩:=r;refine⟨permIn_trans _ _ _ _ _ p (permIn_mono _ _ _ _ _ _ om (av _) (by rw[p.1];exact z) p1),fun t h g=>?_,fun t h g=>?_⟩
 ·have:=(q (t - (m - i)) om om).1;rw[show m - i+(t - (m - i))=t by omega] at this;rw[p1.2.1 t om,this];congr 1;omega
 ·by_cases c:t < m - (i - j)+j
  ·rw[q1 t om om];have:=(q (t - (m - (i - j))) om om).2;rw[show m+(t - (m - (i - j)))=t+(m - (m - (i - j))) by omega] at this;rw[this];congr 1;omega
  ·rw[u1 t om om];rw[show t - (m+j - m)=t - j by omega];exact u _ om om
theorem adD{m i j:Nat}{D D1:Array α}(hi:i<=m)(hj:i < j)(z:m+j<=D.size)(r:vp (m - i) m (m+(j - i)) (swr (m - i) (m+j - i) 0 i D) D1):vp (m - i) m (m+j) D D1:=by
 obtain⟨p,q,u⟩:=wF (a:=m - i) (b:=m+j - i) (n:=i) (lo:=m - i) (hi:=m+j) om om om i 0 D om z;obtain⟨p1,q1,u1⟩:=r;refine⟨permIn_trans _ _ _ _ _ p (permIn_mono _ _ _ _ _ _ (av _) om (by rw[p.1];exact z) p1),fun t h g=>?_,fun t h g=>?_⟩
 ·by_cases c:t < m - i+(j - i)
  ·rw[q1 t om om];exact u _ om om
  ·rw[u1 t om om];have:=(q (t - (m+(j - i) - m) - (m - i)) om om).1;rw[show m - i+(t - (m+(j - i) - m) - (m - i))=t - (m+(j - i) - m) by omega] at this;rw[this];congr 1;omega
 ·have:=(q (t - (m+j - i)) om om).2;rw[show m+j - i+(t - (m+j - i))=t by omega] at this;rw[p1.2.1 t om,this];congr 1;omega
def upc:Nat->Nat->Array α->Array α
 | _,0,d=>d
 | p,k+1,d=>upc (p+1) k (swp d p (p+1))
def dnc:Nat->Nat->Array α->Array α
 | _,0,d=>d
 | p,k+1,d=>dnc (p - 1) k (swp d p (p - 1))
theorem P7:∀ k p (d:Array α),p+k < d.size->vp p (p+1) (p+1+k) d (upc p k d)
 | 0,p,d,h=>KZ
 | k+1,p,d,h=>by
  obtain⟨p1,q1,u1⟩:=P7 k (p+1) (swp d p (p+1)) (by rw[size_swp];omega);refine⟨permIn_trans _ _ _ _ _ (swp_permIn d _ _ p (p+1) om om om om om) (permIn_mono _ _ _ _ _ _ om om (by rw[size_swp];omega) p1),fun t h' g=>?_,fun t h' g=>?_⟩
  ·show(upc (p+1) k _)[t]! = _;by_cases c:t=p
   ·subst c;rw[p1.2.1 t om,swp_left _ _ _ om om];congr 1;omega
   ·rw[q1 t om om,swp_other _ _ _ _ om om];congr 1;omega
  ·show(upc (p+1) k _)[t]! = _;rw[u1 t om om,show t - (p+1+1+k - (p+1+1))=p+1 by omega,swp_right _ _ _ om];congr 1;omega
theorem P8:∀ k p (d:Array α),k<=p->p < d.size->vp (p - k) p (p+1) d (dnc p k d)
 | 0,p,d,h,z=>E5
 | k+1,p,d,h,z=>by
  obtain⟨p1,q1,u1⟩:=P8 k (p - 1) (swp d p (p - 1)) om (by rw[size_swp];omega);refine⟨permIn_trans _ _ _ _ _ (swp_permIn d _ _ p (p - 1) om om om om om) (permIn_mono _ _ _ _ _ _ om om (by rw[size_swp];omega) p1),fun t h' g=>?_,fun t h' g=>?_⟩
  ·show(dnc (p - 1) k _)[t]! = _;obtain rfl:t=p - (k+1):=om
   rw[q1 _ om om,show p - (k+1)+(p - 1 - (p - 1 - k))=p - 1 by omega,swp_right _ _ _ om];congr 1;omega
  ·show(dnc (p - 1) k _)[t]! = _;by_cases c:t=p
   ·subst c;rw[p1.2.1 t om,swp_left _ _ _ om om];congr 1;omega
   ·rw[u1 t om om,swp_other _ _ _ _ om om];congr 1;omega
end TwS
namespace TwB
open Go Go.RowKit Go.Sort AM fO LtA SyP TmM TsA TsB TsI TtC TuF TwA Bt
section
variable{hp:List Blk}{L:Nat}{H d:List Nat}
def Tr:Value:=.func (.func 134) #[] #[]
theorem Xz{n:Nat}(hn:n<=2147483647)(hF:Fit hp.length L H):fS env (.func 134) [.int .i64 n] ⟨hp,L,H,d⟩=some (.bool false,⟨hp,L,H,d⟩):=by
 rw[fF 134 _ _ afk];have h3:¬ (n:Int) < 0:=om
 have h4:¬ (n:Int) > 2147483647:=om
 simp(disch:=first|exact dis|fail) only[sy,simprocAttr,-List.reduceReplicate,hF.all,Pk,h3,h4]
theorem CN{t:List Nat}{B b e:Nat}(h:Ta t B)(hB:B<=2147483647)(hb:hp[b]?=some (.cells 0 true (is t)))(hh:H.contains b=false)(hF:Fit hp.length L H):∀ k i:Nat,i+k=258->∃ fr,fW env Aa [0,1,7,8] hp.length [(0,.slice (some ⟨b,0,some 0⟩) 258 e),(1,Tr),(7,.int .i64 258),(8,.int .i64 i)] ⟨hp,L,H,[]⟩=some (.exit 0,fr,⟨hp,L,H,[]⟩)
 | 0,i,e=>by
  obtain rfl:i=258:=om
  rw[fC Aa.eq_1];simp(disch:=first|exact dis|fail) only[sy,simprocAttr,-List.reduceReplicate,hF.all];exact⟨_,rfl⟩
 | k+1,i,e=>by
  obtain⟨fr,e1⟩:=CN h hB hb hh hF k (i+1) om;obtain⟨n,-,hn,hc⟩:=h.at (i:=i) om;have h1:(i:Int) < 258:=om
  have h2:0<=(i:Int)/\(i:Int) < 258:=om
  have hw:=fun hp L H d hF=>Xz (hp:=hp) (L:=L) (H:=H) (d:=d) (bh hn hB) hF;rw[fC Aa.eq_1];simp only[aC,aI,Tr] at e1 ⊢;simp(disch:=first|exact dis|fail) only[sy,simprocAttr,-List.reduceReplicate,hF.all,h1,h2,hb,hh,hc,hw];exact⟨fr,e1⟩
theorem NY{t:List Nat}{B b e:Nat}(h:Ta t B)(hB:B<=2147483647)(hb:hp[b]?=some (.cells 0 true (is t)))(hh:H.contains b=false)(hF:Fit hp.length L H) :
  fS env (.func 183) [.slice (some ⟨b,0,some 0⟩) 258 e,Tr] ⟨hp,L,H,d⟩=some (.int .i64 (-1),⟨hp,L,H,d⟩):=by rw[fF 183 _ _ afw];obtain⟨fr,e1⟩:=CN (L:=L) (e:=e) h hB hb hh hF 258 0 rfl;simp only[aN,Tr] at e1 ⊢;simp(disch:=first|exact dis|fail) only[sy,simprocAttr,-List.reduceReplicate,hF.all,Wi,e1]
theorem DO{t:List Nat}{B b e:Nat}(h:Ta t B)(hB:B<=2147483647)(hb:hp[b]?=some (.cells 0 true (is t)))(hh:H.contains b=false)(hF:Fit hp.length L H) :
  fS env (.func 133) [.slice (some ⟨b,0,some 0⟩) 258 e,Tr] ⟨hp,L,H,d⟩=some (.bool false,⟨hp,L,H,d⟩):=by rw[fF 133 _ _ afj];have k:=fun d=>NY (e:=e) (d:=d) h hB hb hh hF;simp(disch:=first|exact dis|fail) only[sy,simprocAttr,-List.reduceReplicate,hF.all,Wa,k]
theorem tu{t:List Nat}{B:Nat}(h:Ta t B)(hB:B<=2147483647)(hF:Fit hp.length L H) :
  fS env (.func 63) [.agg (is t).toArray] ⟨hp,L,H,d⟩=some (.bool true,⟨hp,L,H,d⟩):=by rw[fF 63 _ _ ahM];have hl:=mZ h.len;have qU:lH 258 none none none=some (0,258,none):=rfl;have k:=fun e d=>DO (hp:=hp++[.cells 0 true (is t)]) (L:=L) (H:=H) (b:=hp.length) (e:=e) (d:=d) h hB (by rw[gA]) hF.lS (hF.mono (by simp));simp only[Tr] at k;simp(disch:=first|exact dis|fail) only[sy,simprocAttr,-List.reduceReplicate,hF.all,ac2,jR,oS,hl,fR hl,qU,k]
def key(t:List Nat)(s:Nat):Int:=((t[s]?).getD 0:Nat)
def ltK(t:List Nat)(x y:Nat):Bool:=decide (key t x < key t y)
def iB(q:Nat):Value:=.func (.func 131) #[] #[.pointer (some ⟨q,0,some 0⟩)]
theorem XA{t:List Nat}{B q x y:Nat}(h:Ta t B)(hq:hp[q]?=some (.cells 0 true (is t)))(hh:H.contains q=false)(hx:x < 258)(hy:y < 258)(hF:Fit hp.length L H) :
  fS env (.func 131) [.int .i64 x,.int .i64 y,.pointer (some ⟨q,0,some 0⟩)] ⟨hp,L,H,d⟩=some (.int .i64 (o8 (key t x) (key t y)),⟨hp,L,H,d⟩):=by
 rw[fF 131 _ _ afh];obtain⟨n,hn,-,hc⟩:=h.at hx;obtain⟨m,hm,-,hc'⟩:=h.at hy;have e1:key t x=n:=by rw[key,hn];rfl
 have e2:key t y=m:=by rw[key,hm];rfl
 rw[e1,e2];have h2:0<=(x:Int)/\(x:Int) < 258:=om
 have h3:0<=(y:Int)/\(y:Int) < 258:=om
 have k:=fun a b hp L H d hF=>KC (hp:=hp) (L:=L) (H:=H) (d:=d) a b hF;simp(disch:=first|exact dis|fail) only[sy,simprocAttr,-List.reduceReplicate,hF.all,V9,h2,h3,hq,hh,hc,hc',k]
end
def isA(W:Array Nat):List Value:=is W.toList
structure Sy(W:Array Nat)(n:Nat):Prop where
 sz:W.size=n
 lt:∀ i,i < n->W[i]! < 258
variable{W:Array Nat}{n:Nat}
theorem Sy.len(h:Sy W n):(isA W).length=n:=by rw[isA,mE,bZ,h.sz]
theorem Sy.at(h:Sy W n){i:Nat}(hi:i < n):(isA W)[i]?=some (.int .i64 (W[i]!:Nat)):=by have:=h.sz;rw[isA,KX (by rw[bZ];omega)];simp[show i < W.size by omega]
theorem Sy.swp(h:Sy W n){i j:Nat}(hi:i < n)(hj:j < n):Sy (Go.Sort.swp W i j) n:=by refine⟨by rw[<- h.sz];simp[Go.Sort.swp],fun k hk=>?_⟩;exact permIn_all W _ 0 n (fun x=>x < 258) (by rw[h.sz];omega) (swp_permIn W 0 n i j om hi om hj (by rw[h.sz];omega)) (fun i _ hi=>h.lt i hi) k om hk
theorem Sy.perm(h:Sy W n){W':Array Nat}{a b:Nat}(p:PermIn a b W W')(hb:b<=n)(ha:a<=b):Sy W' n:=by have:=h.sz;refine⟨by rw[p.1,h.sz],fun k hk=>?_⟩;exact permIn_all W _ 0 n (fun x=>x < 258) om (permIn_mono _ _ a b 0 n om hb om p) (fun i _ hi=>h.lt i hi) k om hk
theorem AE(W:Array Nat)(i j:Nat):((isA W).set i (.int .i64 (W[j]!:Nat))).set j (.int .i64 (W[i]!:Nat))=isA (Go.Sort.swp W i j):=by simp[isA,is,Go.Sort.swp,List.map_set]
end TwB
namespace TwC
open Go Go.RowKit Go.Sort AM fO LtA SyP TmM TsA TsB TsI TtC TuF TwA TwS TwB Bt
structure Cx(hp:List Blk)(L:Nat)(H:List Nat)(t:List Nat)(q b:Nat):Prop where
 ta:Ta t 100000
 qs:hp[q]?=some (.cells 0 true (is t))
 hq:H.contains q=false
 qb:b≠q
 bl:b < hp.length
 Lb:L<=b
 hb:H.contains b=false
 F:Fit hp.length L H
section
variable{hp:List Blk}{L:Nat}{H d t:List Nat}{q b g e n:Nat}
theorem Cx.ord{x y:Nat}{W:Array Nat}(c:Cx hp L H t q b)(hx:x < 258)(hy:y < 258):fS env (.func 131) [.int .i64 x,.int .i64 y,.pointer (some ⟨q,0,some 0⟩)] ⟨hp.set b (.cells g true (isA W)),L,H,d⟩=some (.int .i64 (o8 (key t x) (key t y)),⟨hp.set b (.cells g true (isA W)),L,H,d⟩):=
 XA c.ta (by rw[aZ c.qb];exact c.qs) c.hq hx hy (by rw[aG];exact c.F)
theorem tA{a b:Int} : o8 a b < 0↔a < b:=by
 unfold o8;split
 ·simp_all
 ·split<;>omega
theorem qC{a i:Nat}(c:Cx hp L H t q b)(he:e=0\/e=1)(hn:n<=100000)(be:Nat):∀ (j:Nat) (W:Array Nat),Sy W n->j < n->∃ fr,
  fW env Ac [9,2,1,3,8,0] hp.length [(9,.int .i64 j),(2,.int .i64 be),(1,.int .i64 a),(3,iB q),(8,.int .i64 i),(0,.slice (some ⟨b,0,some g⟩) n e)] ⟨hp.set b (.cells g true (isA W)),L,H,[]⟩
   = some (.exit 2,fr,⟨hp.set b (.cells g true (isA (insInner (ltK t) a j W))),L,H,[]⟩)
   /\ fr.get 2=some (.int .i64 be)/\fr.get 1=some (.int .i64 a)/\fr.get 3=some (iB q)/\fr.get 8=some (.int .i64 i)/\fr.get 0=some (.slice (some ⟨b,0,some g⟩) n e)
 | 0,W,hD,hj=>by
  have hF:=c.F;have h1:¬ (0:Int) > (a:Int):=om
  unfold insInner;rw[fC Ac.eq_1];simp only[aN];simp(disch:=first|exact dis|fail) only[sy,simprocAttr,-List.reduceReplicate,hF.all,h1];exact⟨_,rfl,rfl,rfl,rfl,rfl,rfl⟩
 | j+1,W,hD,hj=>by
  have hF:=c.F;unfold insInner;rw[fC Ac.eq_1];have hl:=fun d=>c.ord (g:=g) (d:=d) (W:=W) (hD.lt (j+1) hj) (hD.lt j om);have hlen:=hD.len;have r1:=hD.at hj;have r0:=hD.at (i:=j) om;have h2:0<=((j+1:Nat):Int)/\((j+1:Nat):Int) < (n:Int):=om
  have h3:0<=(j:Int)/\(j:Int) < (n:Int):=om
  have e1:((j+1:Nat):Int) - 1=(j:Int):=om
  have hg1:∀ B:Blk,(hp.set b B)[b]?=some B:=fun B=>aD c.bl;have hss:∀ A B:Blk,(hp.set b A).set b B=hp.set b B:=fun A B=>bG ..;have hnl:¬ b < L:=by have:=c.Lb;omega
  have s1:j+1+1<=n:=om
  have s0:j+1<=n:=om
  have hh:=c.hb;by_cases ha:j+1 > a
  ·have h1:((j+1:Nat):Int) > (a:Int):=om
   by_cases hlt:ltK t W[j+1]! W[j]! = true
   ·have hc:o8 (key t W[j+1]!) (key t W[j]!) < 0:=tA.2 (of_decide_eq_true hlt);have hsw:=AE W (j+1) j;obtain⟨fr,ih,ih2⟩:=qC (a:=a) (i:=i) c he hn be j (Go.Sort.swp W (j+1) j) (hD.swp hj om) om;have n4:(decide (j+1 > a)&&ltK t W[j+1]! W[j]!)=true:=by rw[hlt];simpa using ha
    rw[if_pos n4];refine⟨fr,?_,ih2⟩;simp only[iB] at ih ⊢;simp(disch:=first|exact dis|fail) only[sy,simprocAttr,-List.reduceReplicate,hF.all,h1,h2,h3,e1,hg1,hss,hh,hlen,r1,r0,s1,s0,hnl,hl,hc,hsw];exact ih
   ·have hc:¬ o8 (key t W[j+1]!) (key t W[j]!) < 0:=fun h=>hlt (decide_eq_true (tA.1 h));have n4:¬ (decide (j+1 > a)&&ltK t W[j+1]! W[j]!)=true:=by intro h;rw[au] at h;exact hlt h.2
    rw[if_neg n4];simp only[iB];simp(disch:=first|exact dis|fail) only[sy,simprocAttr,-List.reduceReplicate,hF.all,h1,h2,h3,e1,hg1,hss,hh,hlen,r1,r0,hl,hc];exact⟨_,rfl,rfl,rfl,rfl,rfl,rfl⟩
  ·have h1:¬ ((j+1:Nat):Int) > (a:Int):=om
   have n4:¬ (decide (j+1 > a)&&ltK t W[j+1]! W[j]!)=true:=by intro h;rw[au] at h;exact ha (of_decide_eq_true h.1)
   rw[if_neg n4];simp(disch:=first|exact dis|fail) only[sy,simprocAttr,-List.reduceReplicate,hF.all,h1,h2,h3,e1,hg1,hss,hh,hlen];exact⟨_,rfl,rfl,rfl,rfl,rfl,rfl⟩
theorem zn(a:Nat):∀ (j:Nat) (W:Array Nat),Sy W n->j < n->Sy (insInner (ltK t) a j W) n
 | 0,W,h,_=>h
 | j+1,W,h,hj=>by
  unfold insInner;split
  ·exact zn a j _ (h.swp hj om) om
  ·exact h
theorem qD{a be:Nat}(c:Cx hp L H t q b)(he:e=0\/e=1)(hn:n<=100000)(hbe:be<=n):∀ (k i:Nat) (W:Array Nat),Sy W n->be - i=k->i<=200000->∃ fr,
  fW env Ad [3,1,2,8,0] hp.length [(3,iB q),(1,.int .i64 a),(2,.int .i64 be),(8,.int .i64 i),(0,.slice (some ⟨b,0,some g⟩) n e)] ⟨hp.set b (.cells g true (isA W)),L,H,[]⟩
   = some (.exit 0,fr,⟨hp.set b (.cells g true (isA (insOuter (ltK t) a be i W))),L,H,[]⟩)
 | 0,i,W,hD,hk,hi=>by
  have hF:=c.F;have h1:¬ (i:Int) < (be:Int):=om
  unfold insOuter;rw[if_neg om];rw[fC Ad.eq_1];simp(disch:=first|exact dis|fail) only[sy,simprocAttr,-List.reduceReplicate,hF.all,h1];exact⟨_,rfl⟩
 | k+1,i,W,hD,hk,hi=>by
  have hF:=c.F;have h1:(i:Int) < (be:Int):=om
  obtain⟨fr1,e1,e2,e3,e4,e5,e6⟩:=qC (g:=g) (e:=e) (a:=a) (i:=i) c he hn be i W hD om;obtain⟨fr,ih⟩:=qD (a:=a) c he hn hbe k (i+1) (insInner (ltK t) a i W) (zn a i W hD om) om om;unfold insOuter;rw[if_pos om];rw[fC Ad.eq_1];simp only[iB,aC,aI] at e1 e4 ih ⊢;simp(disch:=first|exact dis|fail) only[sy,simprocAttr,-List.reduceReplicate,hF.all,h1,e1,e2,e3,e4,e5,e6,ih];exact⟨_,rfl⟩
theorem AF(t:List Nat):SWO (ltK t):=⟨fun x=>by simp[ltK],fun x y z h g=>by simp[ltK] at *;omega,fun x y z h g=>by simp[ltK] at *;omega⟩
theorem sY{a be:Nat}(c:Cx hp L H t q b){W:Array Nat}(hD:Sy W n)(he:e=0\/e=1)(hn:n<=100000)(hbe:be<=n)(ha:a<=be):∃ W',PermIn a be W W'/\SortedIn (ltK t) a be W' /\
  ∀ d,fS env (.func 227) [.slice (some ⟨b,0,some g⟩) n e,.int .i64 a,.int .i64 be,iB q] ⟨hp.set b (.cells g true (isA W)),L,H,d⟩=some (.tuple #[],⟨hp.set b (.cells g true (isA W')),L,H,d⟩):=by
 have:=insertionSort_holds (AF t) W a be ha (by rw[hD.sz];exact hbe);refine⟨_,this.1,this.2,fun d=>?_⟩;have hF:Fit (hp.set b (.cells g true (isA W))).length L H:=by rw[aG];exact c.F
 rw[fF 227 _ _ afI];obtain⟨fr,h⟩:=qD (g:=g) (e:=e) (a:=a) c he hn hbe (be - (a+1)) (a+1) W hD rfl om;simp only[iB,aC,aI] at h ⊢;unfold insertionSort;have hll:(hp.set b (.cells g true (isA W))).length=hp.length:=aG;simp(disch:=first|exact dis|fail) only[sy,simprocAttr,-List.reduceReplicate,hF.all,Wn,hll,h]
theorem NZ{a b':Nat} : ∀ (k i:Nat) (W:Array Nat),Sy W n->a+i+k<=n->b'+i+k<=n->Sy (swr a b' i k W) n
 | 0,i,W,h,_,_=>h
 | k+1,i,W,h,h1,h2=>NZ k (i+1) _ (h.swp om om) om om
theorem K0{a a2 cnt:Nat}(c:Cx hp L H t q b)(he:e=0\/e=1)(hn:n<=100000)(h1:a+cnt<=n)(h2:a2+cnt<=n):∀ (k i:Nat) (W:Array Nat),Sy W n->i+k=cnt->∃ fr,
  fW env Ax [10,3,2,0,1] hp.length [(10,.int .i64 i),(3,.int .i64 cnt),(2,.int .i64 a2),(0,.slice (some ⟨b,0,some g⟩) n e),(1,.int .i64 a)] ⟨hp.set b (.cells g true (isA W)),L,H,[]⟩
   = some (.exit 0,fr,⟨hp.set b (.cells g true (isA (swr a a2 i k W))),L,H,[]⟩)
 | 0,i,W,hD,hk=>by
  have hF:=c.F;have h1:¬ (i:Int) < (cnt:Int):=om
  rw[fC Ax.eq_1];simp(disch:=first|exact dis|fail) only[sy,simprocAttr,-List.reduceReplicate,hF.all,h1];exact⟨_,rfl⟩
 | k+1,i,W,hD,hk=>by
  have hF:=c.F;have g1:(i:Int) < (cnt:Int):=om
  obtain⟨fr,ih⟩:=K0 c he hn h1 h2 k (i+1) (Go.Sort.swp W (a+i) (a2+i)) (hD.swp om om) om;have hlen:=hD.len;have r1:=hD.at (i:=a+i) om;have r0:=hD.at (i:=a2+i) om;have q1:0<=(a:Int)+i/\(a:Int)+i < (n:Int):=om
  have q2:0<=(a2:Int)+i/\(a2:Int)+i < (n:Int):=om
  have t1:((a:Int)+i).toNat=a+i:=om
  have t2:((a2:Int)+i).toNat=a2+i:=om
  have hg1:∀ B:Blk,(hp.set b B)[b]?=some B:=fun B=>aD c.bl;have hss:∀ A B:Blk,(hp.set b A).set b B=hp.set b B:=fun A B=>bG ..;have hnl:¬ b < L:=by have:=c.Lb;omega
  have hh:=c.hb;have s1:a+i+1<=n:=om
  have s0:a2+i+1<=n:=om
  have hsw:=AE W (a+i) (a2+i);rw[fC Ax.eq_1];simp only[aC,aI] at ih;simp(disch:=first|exact dis|fail) only[sy,simprocAttr,-List.reduceReplicate,hF.all,g1,q1,q2,t1,t2,hg1,hss,hh,hlen,r1,r0,s1,s0,hnl,hsw];exact⟨fr,ih⟩
theorem CO{a a2 cnt:Nat}{W:Array Nat}{v:Value}(c:Cx hp L H t q b)(hD:Sy W n)(he:e=0\/e=1)(hn:n<=100000)(h1:a+cnt<=n)(h2:a2+cnt<=n) :
  fS env (.func 279) [.slice (some ⟨b,0,some g⟩) n e,.int .i64 a,.int .i64 a2,.int .i64 cnt,v] ⟨hp.set b (.cells g true (isA W)),L,H,d⟩=some (.tuple #[],⟨hp.set b (.cells g true (isA (swr a a2 0 cnt W))),L,H,d⟩):=by
 have hF:Fit (hp.set b (.cells g true (isA W))).length L H:=by rw[aG];exact c.F
 rw[fF 279 _ _ af5];obtain⟨fr,h⟩:=K0 (g:=g) (e:=e) c he hn h1 h2 cnt 0 W hD om;have hll:(hp.set b (.cells g true (isA W))).length=hp.length:=aG;simp only[aN] at h;simp(disch:=first|exact dis|fail) only[sy,simprocAttr,-List.reduceReplicate,hF.all,WD,hll,h]
end
end TwC
namespace TwD
open Go Go.RowKit Go.Sort AM fO LtA SyP TmM TsA TsB TsI TtC TuF TwA TwS TwB TwC Bt
section
variable{hp:List Blk}{L:Nat}{H d t:List Nat}{q b g e n:Nat}
theorem CP{m:Nat}(c:Cx hp L H t q b)(he:e=0\/e=1)(hn:n<=100000):∀ (k i j:Nat) (W:Array Nat),i+j<=k->1<=i->1<=j->i<=m->m+j<=n->Sy W n->∃ fr i' W1,
  fW env GP [10,0,2,4,11] hp.length [(10,.int .i64 i),(0,.slice (some ⟨b,0,some g⟩) n e),(2,.int .i64 m),(4,iB q),(11,.int .i64 j)] ⟨hp.set b (.cells g true (isA W)),L,H,[]⟩
   = some (.exit 0,fr,⟨hp.set b (.cells g true (isA W1)),L,H,[]⟩)
   /\ fr.get 10=some (.int .i64 (i':Nat))/\fr.get 0=some (.slice (some ⟨b,0,some g⟩) n e)/\fr.get 2=some (.int .i64 m)/\fr.get 4=some (iB q)/\i'<=m/\m+i'<=n/\Sy W1 n/\vp (m - i) m (m+j) W (swr (m - i') m 0 i' W1)
 | 0,i,j,W,h,h1,_,_,_,_=>by omega
 | k+1,i,j,W,h,h1,h2,h3,h4,hD=>by
  have hF:=c.F;have hF2:Fit (hp.set b (.cells g true (isA W))).length L H:=by rw[aG];exact c.F
  have hsz:=hD.sz;have e1:(m:Int) - i=((m - i:Nat):Int):=om
  rw[fC GP.eq_1];simp only[iB];by_cases hij:i=j
  ·subst hij;have hr:=adB (D:=W) h3 om;simp(disch:=first|exact dis|fail) only[sy,simprocAttr,-List.reduceReplicate,hF.all];exact⟨_,i,W,rfl,rfl,rfl,rfl,rfl,h3,h4,hD,hr⟩
  ·have g0:¬ (i:Int)=(j:Int):=om
   by_cases hgt:j < i
   ·have g1:(i:Int) > (j:Int):=om
    have e2:(i:Int) - j=((i - j:Nat):Int):=om
    have hD1:Sy (swr (m - i) m 0 j W) n:=NZ j 0 W hD om om;obtain⟨fr,i',W1,x1,x2,x3,x4,x5,x6,x7,x8,x9⟩:=CP c he hn k (i - j) j _ om om h2 om h4 hD1;have k1:=fun d=>CO (g:=g) (e:=e) (d:=d) (v:=iB q) c hD he hn (show m - i+j<=n by omega) (show m+j<=n by omega);refine⟨fr,i',W1,?_,x2,x3,x4,x5,x6,x7,x8,adC h3 hgt om x9⟩;simp only[iB] at x1 k1;simp(disch:=first|exact dis|fail) only[sy,simprocAttr,-List.reduceReplicate,hF.all,g0,g1,e1,e2,k1,x1]
   ·have g1:¬ (i:Int) > (j:Int):=om
    have e2:(j:Int) - i=((j - i:Nat):Int):=om
    have e3:(m:Int)+j - i=((m+j - i:Nat):Int):=om
    have hD1:Sy (swr (m - i) (m+j - i) 0 i W) n:=NZ i 0 W hD om om;obtain⟨fr,i',W1,x1,x2,x3,x4,x5,x6,x7,x8,x9⟩:=CP c he hn k i (j - i) _ om h1 om h3 om hD1;have k1:=fun d=>CO (g:=g) (e:=e) (d:=d) (v:=iB q) c hD he hn (show m - i+i<=n by omega) (show m+j - i+i<=n by omega);refine⟨fr,i',W1,?_,x2,x3,x4,x5,x6,x7,x8,adD h3 om om x9⟩;simp only[iB] at x1 k1;simp(disch:=first|exact dis|fail) only[sy,simprocAttr,-List.reduceReplicate,hF.all,g0,g1,e1,e2,e3,k1,x1]
theorem XB{a m be:Nat}{W:Array Nat}(c:Cx hp L H t q b)(hD:Sy W n)(he:e=0\/e=1)(hn:n<=100000)(h1:a < m)(h2:m < be)(h3:be<=n):∃ W',vp a m be W W' /\
  ∀ d,fS env (.func 257) [.slice (some ⟨b,0,some g⟩) n e,.int .i64 a,.int .i64 m,.int .i64 be,iB q] ⟨hp.set b (.cells g true (isA W)),L,H,d⟩=some (.tuple #[],⟨hp.set b (.cells g true (isA W')),L,H,d⟩):=by
 obtain⟨fr,i',W1,x1,x2,x3,x4,x5,x6,x7,x8,x9⟩:=CP (g:=g) (e:=e) (m:=m) c he hn (m - a+(be - m)) (m - a) (be - m) W om om om om om hD;rw[show m - (m - a)=a by omega,show m+(be - m)=be by omega] at x9;refine⟨_,x9,fun d=>?_⟩;have hF:Fit (hp.set b (.cells g true (isA W))).length L H:=by rw[aG];exact c.F
 have hF2:Fit (hp.set b (.cells g true (isA W1))).length L H:=by rw[aG];exact c.F
 rw[fF 257 _ _ afS];have k1:=fun d=>CO (g:=g) (e:=e) (d:=d) (v:=iB q) (a:=m - i') (a2:=m) c x8 he hn (show m - i'+i'<=n by omega) x7;have hll:∀ B,(hp.set b B).length=hp.length:=fun B=>aG;have e1:(m:Int) - a=((m - a:Nat):Int):=om
 have e2:(be:Int) - m=((be - m:Nat):Int):=om
 have e3:(m:Int) - i'=((m - i':Nat):Int):=om
 simp only[iB] at x1 x5 k1 ⊢;simp(disch:=first|exact dis|fail) only[sy,simprocAttr,-List.reduceReplicate,hF.all,Ww,hll,e1,e2,e3,x1,x2,x3,x4,x5,k1]
end
end TwD
namespace TwE
open Go Go.RowKit Go.Sort AM fO LtA SyP TmM TsA TsB TsI TtC TuF TwA TwS TwB TwC TwD Bt
theorem half(i j:Nat):Int.fdiv ((i:Int)+j) 2=(((i+j) / 2:Nat):Int):=by rw[cZ _ (by decide)];omega
section
variable{hp:List Blk}{L:Nat}{H d t:List Nat}{q b g e n:Nat}
theorem se0{a m be:Nat}{W:Array Nat}(c:Cx hp L H t q b)(hD:Sy W n)(he:e=0\/e=1)(hn:n<=100000)(hbe:be<=n)(ha:a < n):∀ (k i j:Nat),j - i<=k->m<=i->i<=j->j<=be->(i=m\/ltK t W[i - 1]! W[a]! = true)->(j=be\/ltK t W[j]! W[a]! = false)->∃ fr s,
  fW env GO [10,11,4,0,1] hp.length [(10,.int .i64 i),(11,.int .i64 j),(4,iB q),(0,.slice (some ⟨b,0,some g⟩) n e),(1,.int .i64 a)] ⟨hp.set b (.cells g true (isA W)),L,H,[]⟩
   = some (.exit 0,fr,⟨hp.set b (.cells g true (isA W)),L,H,[]⟩)
   /\ fr.get 10=some (.int .i64 (s:Nat))/\fr.get 0=some (.slice (some ⟨b,0,some g⟩) n e)/\fr.get 1=some (.int .i64 a)/\m<=s/\s<=be/\(s=m\/ltK t W[s - 1]! W[a]! = true)/\(s=be\/ltK t W[s]! W[a]! = false)
 | k,i,j,hk,h1,h2,h3,x,y=>by
  have hF:=c.F;rw[fC GO.eq_1];by_cases hij:i=j
  ·subst hij;have g0:¬ (i:Int) < (i:Int):=om
   simp only[iB];simp(disch:=first|exact dis|fail) only[sy,simprocAttr,-List.reduceReplicate,hF.all,g0];exact⟨_,i,rfl,rfl,rfl,rfl,h1,h3,x,y⟩
  ·obtain⟨k,rfl⟩:∃ k',k=k'+1:=⟨k - 1,om⟩;have g0:(i:Int) < (j:Int):=om
   have hh2:=half i j;obtain⟨h,hh⟩:∃ h,h=(i+j) / 2:=⟨_,rfl⟩;rw[<- hh] at hh2;have hhn:h < n:=om
   have r1:=hD.at hhn;have r0:=hD.at ha;have hlen:=hD.len;have b1:0<=(h:Int)/\(h:Int) < (n:Int):=om
   have b0:0<=(a:Int)/\(a:Int) < (n:Int):=om
   have hg1:∀ B:Blk,(hp.set b B)[b]?=some B:=fun B=>aD c.bl;have hb:=c.hb;have hl:=fun d=>c.ord (g:=g) (d:=d) (W:=W) (hD.lt h hhn) (hD.lt a ha);by_cases hlt:ltK t W[h]! W[a]! = true
   ·have hc:o8 (key t W[h]!) (key t W[a]!) < 0:=tA.2 (of_decide_eq_true hlt);obtain⟨fr,s,ih,ih2⟩:=se0 (m:=m) c hD he hn hbe ha k (h+1) j om om om h3 (.inr (by rw[ey];exact hlt)) y;refine⟨fr,s,?_,ih2⟩;simp only[iB,aC,aI] at ih ⊢;simp(disch:=first|exact dis|fail) only[sy,simprocAttr,-List.reduceReplicate,hF.all,g0,hh2,r1,r0,hlen,b1,b0,hg1,hb,hl,hc];exact ih
   ·have hc:¬ o8 (key t W[h]!) (key t W[a]!) < 0:=fun h=>hlt (decide_eq_true (tA.1 h));obtain⟨fr,s,ih,ih2⟩:=se0 (m:=m) c hD he hn hbe ha k i h om h1 om om x (.inr (by simpa using hlt));refine⟨fr,s,?_,ih2⟩;simp only[iB] at ih ⊢;simp(disch:=first|exact dis|fail) only[sy,simprocAttr,-List.reduceReplicate,hF.all,g0,hh2,r1,r0,hlen,b1,b0,hg1,hb,hl,hc];exact ih
theorem P9{s:Nat}(c:Cx hp L H t q b)(he:e=0\/e=1)(hn:n<=100000)(hs:s<=n):∀ (r p:Nat) (W:Array Nat),Sy W n->s - 1 - p=r->p < n->∃ fr,
  fW env Af [13,10,0] hp.length [(13,.int .i64 p),(10,.int .i64 s),(0,.slice (some ⟨b,0,some g⟩) n e)] ⟨hp.set b (.cells g true (isA W)),L,H,[]⟩
   = some (.exit 2,fr,⟨hp.set b (.cells g true (isA (upc p r W))),L,H,[]⟩)
 | 0,p,W,hD,hr,hp'=>by
  have hF:=c.F;have h1:¬ (p:Int) < (s:Int) - 1:=om
  rw[fC Af.eq_1];simp(disch:=first|exact dis|fail) only[sy,simprocAttr,-List.reduceReplicate,hF.all,h1];exact⟨_,rfl⟩
 | r+1,p,W,hD,hr,hp'=>by
  have hF:=c.F;have g1:(p:Int) < (s:Int) - 1:=om
  obtain⟨fr,ih⟩:=P9 (s:=s) c he hn hs r (p+1) (Go.Sort.swp W p (p+1)) (hD.swp om om) om om;have hlen:=hD.len;have r1:=hD.at (i:=p) hp';have r0:=hD.at (i:=p+1) om;have q1:0<=(p:Int)/\(p:Int) < (n:Int):=om
  have q2:0<=(p:Int)+1/\(p:Int)+1 < (n:Int):=om
  have t2:((p:Int)+1).toNat=p+1:=om
  have hg1:∀ B:Blk,(hp.set b B)[b]?=some B:=fun B=>aD c.bl;have hss:∀ A B:Blk,(hp.set b A).set b B=hp.set b B:=fun A B=>bG ..;have hnl:¬ b < L:=by have:=c.Lb;omega
  have hh:=c.hb;have s1:p+1<=n:=om
  have s0:p+1+1<=n:=om
  have hsw:=AE W p (p+1);rw[fC Af.eq_1];simp only[aC,aI] at ih;simp(disch:=first|exact dis|fail) only[sy,simprocAttr,-List.reduceReplicate,hF.all,g1,q1,q2,t2,hg1,hss,hh,hlen,r1,r0,s1,s0,hnl,hsw];exact⟨fr,ih⟩
theorem Qa{s:Nat}(c:Cx hp L H t q b)(he:e=0\/e=1)(hn:n<=100000):∀ (r p:Nat) (W:Array Nat),Sy W n->p - s=r->p < n->∃ fr,
  fW env Ae [17,14,0] hp.length [(17,.int .i64 p),(14,.int .i64 s),(0,.slice (some ⟨b,0,some g⟩) n e)] ⟨hp.set b (.cells g true (isA W)),L,H,[]⟩
   = some (.exit 6,fr,⟨hp.set b (.cells g true (isA (dnc p r W))),L,H,[]⟩)
 | 0,p,W,hD,hr,hp'=>by
  have hF:=c.F;have h1:¬ (p:Int) > (s:Int):=om
  rw[fC Ae.eq_1];simp(disch:=first|exact dis|fail) only[sy,simprocAttr,-List.reduceReplicate,hF.all,h1];exact⟨_,rfl⟩
 | r+1,p,W,hD,hr,hp'=>by
  have hF:=c.F;have g1:(p:Int) > (s:Int):=om
  have e1:(p:Int) - 1=((p - 1:Nat):Int):=om
  obtain⟨fr,ih⟩:=Qa (s:=s) c he hn r (p - 1) (Go.Sort.swp W p (p - 1)) (hD.swp om om) om om;have hlen:=hD.len;have r1:=hD.at (i:=p) hp';have r0:=hD.at (i:=p - 1) om;have q1:0<=(p:Int)/\(p:Int) < (n:Int):=om
  have q2:0<=((p - 1:Nat):Int)/\((p - 1:Nat):Int) < (n:Int):=om
  have hg1:∀ B:Blk,(hp.set b B)[b]?=some B:=fun B=>aD c.bl;have hss:∀ A B:Blk,(hp.set b A).set b B=hp.set b B:=fun A B=>bG ..;have hnl:¬ b < L:=by have:=c.Lb;omega
  have hh:=c.hb;have s1:p+1<=n:=om
  have s0:p - 1+1<=n:=om
  have hsw:=AE W p (p - 1);rw[fC Ae.eq_1];simp(disch:=first|exact dis|fail) only[sy,simprocAttr,-List.reduceReplicate,hF.all,g1,e1,q1,q2,hg1,hss,hh,hlen,r1,r0,s1,s0,hnl,hsw];exact⟨fr,ih⟩
theorem se2{a m:Nat}{W:Array Nat}(c:Cx hp L H t q b)(hD:Sy W n)(he:e=0\/e=1)(hn:n<=100000)(hm:m < n):∀ (k i j:Nat),j - i<=k->a<=i->i<=j->j<=m->(i=a\/ltK t W[m]! W[i - 1]! = false)->(j=m\/ltK t W[m]! W[j]! = true)->∃ fr s,
  fW env GN [14,15,4,2,0] hp.length [(14,.int .i64 i),(15,.int .i64 j),(4,iB q),(2,.int .i64 m),(0,.slice (some ⟨b,0,some g⟩) n e)] ⟨hp.set b (.cells g true (isA W)),L,H,[]⟩
   = some (.exit 4,fr,⟨hp.set b (.cells g true (isA W)),L,H,[]⟩)
   /\ fr.get 14=some (.int .i64 (s:Nat))/\fr.get 0=some (.slice (some ⟨b,0,some g⟩) n e)/\fr.get 2=some (.int .i64 m)/\a<=s/\s<=m/\(s=a\/ltK t W[m]! W[s - 1]! = false)/\(s=m\/ltK t W[m]! W[s]! = true)
 | k,i,j,hk,h1,h2,h3,x,y=>by
  have hF:=c.F;rw[fC GN.eq_1];by_cases hij:i=j
  ·subst hij;have g0:¬ (i:Int) < (i:Int):=om
   simp only[iB];simp(disch:=first|exact dis|fail) only[sy,simprocAttr,-List.reduceReplicate,hF.all,g0];exact⟨_,i,rfl,rfl,rfl,rfl,h1,h3,x,y⟩
  ·obtain⟨k,rfl⟩:∃ k',k=k'+1:=⟨k - 1,om⟩;have g0:(i:Int) < (j:Int):=om
   have hh2:=half i j;obtain⟨h,hh⟩:∃ h,h=(i+j) / 2:=⟨_,rfl⟩;rw[<- hh] at hh2;have hhn:h < n:=om
   have r1:=hD.at hhn;have r0:=hD.at hm;have hlen:=hD.len;have b1:0<=(h:Int)/\(h:Int) < (n:Int):=om
   have b0:0<=(m:Int)/\(m:Int) < (n:Int):=om
   have hg1:∀ B:Blk,(hp.set b B)[b]?=some B:=fun B=>aD c.bl;have hb:=c.hb;have hl:=fun d=>c.ord (g:=g) (d:=d) (W:=W) (hD.lt m hm) (hD.lt h hhn);by_cases hlt:ltK t W[m]! W[h]! = true
   ·have hc:o8 (key t W[m]!) (key t W[h]!) < 0:=tA.2 (of_decide_eq_true hlt);obtain⟨fr,s,ih,ih2⟩:=se2 (a:=a) c hD he hn hm k i h om h1 om om x (.inr hlt);refine⟨fr,s,?_,ih2⟩;simp only[iB] at ih ⊢;simp(disch:=first|exact dis|fail) only[sy,simprocAttr,-List.reduceReplicate,hF.all,g0,hh2,r1,r0,hlen,b1,b0,hg1,hb,hl,hc];exact ih
   ·have hc:¬ o8 (key t W[m]!) (key t W[h]!) < 0:=fun h=>hlt (decide_eq_true (tA.1 h));obtain⟨fr,s,ih,ih2⟩:=se2 (a:=a) c hD he hn hm k (h+1) j om om om h3 (.inr (by rw[ey];simpa using hlt)) y;refine⟨fr,s,?_,ih2⟩;simp only[iB,aC,aI] at ih ⊢;simp(disch:=first|exact dis|fail) only[sy,simprocAttr,-List.reduceReplicate,hF.all,g0,hh2,r1,r0,hlen,b1,b0,hg1,hb,hl,hc];exact ih
theorem se8{a m be mid N p s0 r0:Nat}{W:Array Nat}(c:Cx hp L H t q b)(hD:Sy W n)(he:e=0\/e=1)(hn:n<=100000)(hb0:∀ x,s0<=x->x < r0->x < n/\x<=p/\p - x < n)(hr:r0<=n)(hpn:p<=200000) :
  ∀ (k i j:Nat),j - i<=k->s0<=i->i<=j->j<=r0->(i=s0\/ltK t W[p - (i - 1)]! W[i - 1]! = false)->(j=r0\/ltK t W[p - j]! W[j]! = true)->∃ fr s,
  fW env GM [20,3,18,1,2,19,21,4,22,0] hp.length [(20,.int .i64 i),(3,.int .i64 be),(18,.int .i64 mid),(1,.int .i64 a),(2,.int .i64 m),(19,.int .i64 N),(21,.int .i64 j),(4,iB q),(22,.int .i64 p),(0,.slice (some ⟨b,0,some g⟩) n e)] ⟨hp.set b (.cells g true (isA W)),L,H,[]⟩
   = some (.exit 8,fr,⟨hp.set b (.cells g true (isA W)),L,H,[]⟩)
   /\ (fr.get 20=some (.int .i64 (s:Nat))/\fr.get 3=some (.int .i64 be)/\fr.get 18=some (.int .i64 mid)/\fr.get 1=some (.int .i64 a)/\fr.get 2=some (.int .i64 m)/\fr.get 19=some (.int .i64 N)/\fr.get 4=some (iB q)/\fr.get 0=some (.slice (some ⟨b,0,some g⟩) n e))/\s0<=s/\s<=r0/\(s=s0\/ltK t W[p - (s - 1)]! W[s - 1]! = false)/\(s=r0\/ltK t W[p - s]! W[s]! = true)
 | k,i,j,hk,h1,h2,h3,x,y=>by
  have hF:=c.F;rw[fC GM.eq_1];by_cases hij:i=j
  ·subst hij;have g0:¬ (i:Int) < (i:Int):=om
   simp only[iB];simp(disch:=first|exact dis|fail) only[sy,simprocAttr,-List.reduceReplicate,hF.all,g0];exact⟨_,i,rfl,⟨rfl,rfl,rfl,rfl,rfl,rfl,rfl,rfl⟩,h1,h3,x,y⟩
  ·obtain⟨k,rfl⟩:∃ k',k=k'+1:=⟨k - 1,om⟩;have g0:(i:Int) < (j:Int):=om
   have hh2:=half i j;obtain⟨h,hh⟩:∃ h,h=(i+j) / 2:=⟨_,rfl⟩;rw[<- hh] at hh2;obtain⟨hhn,hhp,hpn2⟩:=hb0 h om om;have r1:=hD.at hhn;have r0':=hD.at hpn2;have hlen:=hD.len;have e1:(p:Int) - h=((p - h:Nat):Int):=om
   have b1:0<=(h:Int)/\(h:Int) < (n:Int):=om
   have b0:0<=((p - h:Nat):Int)/\((p - h:Nat):Int) < (n:Int):=om
   have hg1:∀ B:Blk,(hp.set b B)[b]?=some B:=fun B=>aD c.bl;have hb:=c.hb;have hl:=fun d=>c.ord (g:=g) (d:=d) (W:=W) (hD.lt (p - h) hpn2) (hD.lt h hhn);by_cases hlt:ltK t W[p - h]! W[h]! = true
   ·have hc:o8 (key t W[p - h]!) (key t W[h]!) < 0:=tA.2 (of_decide_eq_true hlt);obtain⟨fr,s,ih,ih2⟩:=se8 (a:=a) (m:=m) (be:=be) (mid:=mid) (N:=N) c hD he hn hb0 hr hpn k i h om h1 om om x (.inr hlt);refine⟨fr,s,?_,ih2⟩;simp only[iB] at ih ⊢;simp(disch:=first|exact dis|fail) only[sy,simprocAttr,-List.reduceReplicate,hF.all,g0,hh2,e1,r1,r0',hlen,b1,b0,hg1,hb,hl,hc];exact ih
   ·have hc:¬ o8 (key t W[p - h]!) (key t W[h]!) < 0:=fun h=>hlt (decide_eq_true (tA.1 h));obtain⟨fr,s,ih,ih2⟩:=se8 (a:=a) (m:=m) (be:=be) (mid:=mid) (N:=N) c hD he hn hb0 hr hpn k (h+1) j om om om h3 (.inr (by rw[ey];simpa using hlt)) y;refine⟨fr,s,?_,ih2⟩;simp only[iB,aC,aI] at ih ⊢;simp(disch:=first|exact dis|fail) only[sy,simprocAttr,-List.reduceReplicate,hF.all,g0,hh2,e1,r1,r0',hlen,b1,b0,hg1,hb,hl,hc];exact ih
end
end TwE
namespace TwF
open Go Go.RowKit Go.Sort AM fO LtA SyP TmM TsA TsB TsI TtC TuF TwA TwS TwB TwC TwD TwE Bt
def fs:fG->fG
 | .seq a _=>a
 | c=>c
def sn:fG->fG
 | .seq _ b=>b
 | c=>c
def A0:fG:=fs lF.code
def B0:fG:=sn lF.code
def A1:fG:=fs B0
def B1:fG:=sn B0
def A2:fG:=fs B1
def B2:fG:=sn B1
def A3:fG:=fs B2
def B3:fG:=sn B2
def A4:fG:=fs B3
def B4:fG:=sn B3
def A5:fG:=fs B4
def B5:fG:=sn B4
def A6:fG:=fs B5
def B6:fG:=sn B5
def A7:fG:=fs B6
def B7:fG:=sn B6
def A8:fG:=fs B7
def B8:fG:=sn B7
def X1:fG:=fs B8
def B9:fG:=sn B8
def X2:fG:=fs B9
def X3:fG:=sn B9
theorem code_eq:lF.code=.seq A0 (.seq A1 (.seq A2 (.seq A3 (.seq A4 (.seq A5 (.seq A6 (.seq A7 (.seq A8 (.seq X1 (.seq X2 X3)))))))))):=rfl
theorem res_eq:lF.results=[]:=rfl
structure Gf(fr:Fr)(q b g n e s be mid a m en:Nat):Prop where
 s:fr.get 20=some (.int .i64 s)
 be:fr.get 3=some (.int .i64 be)
 mid:fr.get 18=some (.int .i64 mid)
 a:fr.get 1=some (.int .i64 a)
 m:fr.get 2=some (.int .i64 m)
 en:fr.get 24=some (.int .i64 en)
 c:fr.get 4=some (iB q)
 d:fr.get 0=some (.slice (some ⟨b,0,some g⟩) n e)
section
variable{hp:List Blk}{L:Nat}{H d t:List Nat}{q b g e n:Nat}
theorem x1{fr:Fr}{s be mid a m en:Nat}{W:Array Nat}(c:Cx hp L H t q b)(hD:Sy W n)(he:e=0\/e=1)(hn:n<=100000)(G:Gf fr q b g n e s be mid a m en)(h1:s<=m)(h2:m<=en)(h3:en<=n):∃ fr' W1,
  ga env X1 fr ⟨hp.set b (.cells g true (isA W)),L,H,[]⟩=some (.normal,fr',⟨hp.set b (.cells g true (isA W1)),L,H,[]⟩)/\vp s m en W W1/\Gf fr' q b g n e s be mid a m en:=by
 obtain⟨g1,g2,g3,g4,g5,g6,g7,g8⟩:=G;have hF:=c.F;have hF2:Fit (hp.set b (.cells g true (isA W))).length L H:=by rw[aG];exact c.F
 simp only[iB] at g7;by_cases c1:s < m
 ·have k1:(s:Int) < (m:Int):=om
  by_cases c2:m < en
  ·have k2:(m:Int) < (en:Int):=om
   obtain⟨W1,r,k3⟩:=XB (g:=g) (e:=e) c hD he hn c1 c2 h3;simp only[iB] at k3;simp(disch:=first|exact dis|fail) only[sy,simprocAttr,-List.reduceReplicate,hF.all,X1,B8,B7,B6,B5,B4,B3,B2,B1,B0,fs,sn,lF,g1,g2,g3,g4,g5,g6,g7,g8,k1,k2,k3];exact⟨_,W1,rfl,r,g1,g2,g3,g4,g5,g6,g7,g8⟩
  ·have k2:¬ (m:Int) < (en:Int):=om
   obtain rfl:m=en:=om
   simp(disch:=first|exact dis|fail) only[sy,simprocAttr,-List.reduceReplicate,hF.all,X1,B8,B7,B6,B5,B4,B3,B2,B1,B0,fs,sn,lF,g1,g2,g3,g4,g5,g6,g7,g8,k1,k2];exact⟨_,W,rfl,KZ,g1,g2,g3,g4,g5,g6,g7,g8⟩
 ·have k1:¬ (s:Int) < (m:Int):=om
  obtain rfl:s=m:=om
  simp(disch:=first|exact dis|fail) only[sy,simprocAttr,-List.reduceReplicate,hF.all,X1,B8,B7,B6,B5,B4,B3,B2,B1,B0,fs,sn,lF,g1,g2,g3,g4,g5,g6,g7,g8,k1];exact⟨_,W,rfl,E5,g1,g2,g3,g4,g5,g6,g7,g8⟩
def Mg(hp:List Blk)(L:Nat)(H t:List Nat)(q b g e n a m be:Nat)(W:Array Nat):Prop:=∃ W',PermIn a be W W'/\SortedIn (ltK t) a be W' /\
  ∀ d,fS env (.func 228) [.slice (some ⟨b,0,some g⟩) n e,.int .i64 a,.int .i64 m,.int .i64 be,iB q] ⟨hp.set b (.cells g true (isA W)),L,H,d⟩=some (.tuple #[],⟨hp.set b (.cells g true (isA W')),L,H,d⟩)
theorem x2{fr:Fr}{s be mid a m en:Nat}{W:Array Nat}(c:Cx hp L H t q b)(G:Gf fr q b g n e s be mid a m en)(h1:a<=s)(h2:s<=mid)(hs1:SortedIn (ltK t) a s W)(hs2:SortedIn (ltK t) s mid W)(hc:a < s->s < mid->Mg hp L H t q b g e n a s mid W):∃ fr' W1,
  ga env X2 fr ⟨hp.set b (.cells g true (isA W)),L,H,[]⟩=some (.normal,fr',⟨hp.set b (.cells g true (isA W1)),L,H,[]⟩)/\PermIn a mid W W1/\SortedIn (ltK t) a mid W1/\Gf fr' q b g n e s be mid a m en:=by
 obtain⟨g1,g2,g3,g4,g5,g6,g7,g8⟩:=G;have hF:=c.F;have hF2:Fit (hp.set b (.cells g true (isA W))).length L H:=by rw[aG];exact c.F
 simp only[iB] at g7;by_cases c1:a < s
 ·have k1:(a:Int) < (s:Int):=om
  by_cases c2:s < mid
  ·have k2:(s:Int) < (mid:Int):=om
   obtain⟨W1,r1,r2,k3⟩:=hc c1 c2;simp only[iB] at k3;simp(disch:=first|exact dis|fail) only[sy,simprocAttr,-List.reduceReplicate,hF.all,X2,B9,B8,B7,B6,B5,B4,B3,B2,B1,B0,fs,sn,lF,g1,g2,g3,g4,g5,g6,g7,g8,k1,k2,k3];exact⟨_,W1,rfl,r1,r2,g1,g2,g3,g4,g5,g6,g7,g8⟩
  ·have k2:¬ (s:Int) < (mid:Int):=om
   obtain rfl:s=mid:=om
   simp(disch:=first|exact dis|fail) only[sy,simprocAttr,-List.reduceReplicate,hF.all,X2,B9,B8,B7,B6,B5,B4,B3,B2,B1,B0,fs,sn,lF,g1,g2,g3,g4,g5,g6,g7,g8,k1,k2];exact⟨_,W,rfl,permIn_refl _ _ _,hs1,g1,g2,g3,g4,g5,g6,g7,g8⟩
 ·have k1:¬ (a:Int) < (s:Int):=om
  obtain rfl:a=s:=om
  simp(disch:=first|exact dis|fail) only[sy,simprocAttr,-List.reduceReplicate,hF.all,X2,B9,B8,B7,B6,B5,B4,B3,B2,B1,B0,fs,sn,lF,g1,g2,g3,g4,g5,g6,g7,g8,k1];exact⟨_,W,rfl,permIn_refl _ _ _,hs2,g1,g2,g3,g4,g5,g6,g7,g8⟩
theorem x3{fr:Fr}{s be mid a m en:Nat}{W:Array Nat}(c:Cx hp L H t q b)(G:Gf fr q b g n e s be mid a m en)(h1:mid<=en)(h2:en<=be)(hs1:SortedIn (ltK t) mid en W)(hs2:SortedIn (ltK t) en be W)(hc:mid < en->en < be->Mg hp L H t q b g e n mid en be W):∃ fr' W1,
  ga env X3 fr ⟨hp.set b (.cells g true (isA W)),L,H,[]⟩=some (.normal,fr',⟨hp.set b (.cells g true (isA W1)),L,H,[]⟩)/\PermIn mid be W W1/\SortedIn (ltK t) mid be W1:=by
 obtain⟨g1,g2,g3,g4,g5,g6,g7,g8⟩:=G;have hF:=c.F;have hF2:Fit (hp.set b (.cells g true (isA W))).length L H:=by rw[aG];exact c.F
 simp only[iB] at g7;by_cases c1:mid < en
 ·have k1:(mid:Int) < (en:Int):=om
  by_cases c2:en < be
  ·have k2:(en:Int) < (be:Int):=om
   obtain⟨W1,r1,r2,k3⟩:=hc c1 c2;simp only[iB] at k3;simp(disch:=first|exact dis|fail) only[sy,simprocAttr,-List.reduceReplicate,hF.all,X3,B9,B8,B7,B6,B5,B4,B3,B2,B1,B0,fs,sn,lF,g1,g2,g3,g4,g5,g6,g7,g8,k1,k2,k3];exact⟨_,W1,rfl,r1,r2⟩
  ·have k2:¬ (en:Int) < (be:Int):=om
   obtain rfl:en=be:=om
   simp(disch:=first|exact dis|fail) only[sy,simprocAttr,-List.reduceReplicate,hF.all,X3,B9,B8,B7,B6,B5,B4,B3,B2,B1,B0,fs,sn,lF,g1,g2,g3,g4,g5,g6,g7,g8,k1,k2];exact⟨_,W,rfl,permIn_refl _ _ _,hs1⟩
 ·have k1:¬ (mid:Int) < (en:Int):=om
  obtain rfl:mid=en:=om
  simp(disch:=first|exact dis|fail) only[sy,simprocAttr,-List.reduceReplicate,hF.all,X3,B9,B8,B7,B6,B5,B4,B3,B2,B1,B0,fs,sn,lF,g1,g2,g3,g4,g5,g6,g7,g8,k1];exact⟨_,W,rfl,permIn_refl _ _ _,hs2⟩
end
end TwF
namespace TwG
open Go Go.RowKit Go.Sort AM fO LtA SyP TmM TsA TsB TsI TtC TuF TwA TwS TwB TwC TwD TwE TwF Bt
theorem nQ{lt:Nat->Nat->Bool}{a b:Nat}{D D1:Array Nat}(h:SortedIn lt a b D)(e:∀ i,a<=i->i < b->D1[i]! = D[i]!):SortedIn lt a b D1:=fun i j h1 h2 h3=>by rw[e i h1 om,e j om h3];exact h i j h1 h2 h3
section
variable{hp:List Blk}{L:Nat}{H d t:List Nat}{q b g e n:Nat}
theorem front{a m be:Nat}{W:Array Nat}(c:Cx hp L H t q b)(he:e=0\/e=1)(hn:n<=100000)(h1:a+1=m)(h2:m < be)(h3:be<=n)(hD:Sy W n)(s2:SortedIn (ltK t) m be W):Mg hp L H t q b g e n a m be W:=by
 subst h1;have hF:Fit (hp.set b (.cells g true (isA W))).length L H:=by rw[aG];exact c.F
 have hll:∀ B,(hp.set b B).length=hp.length:=fun B=>aG;obtain⟨fr,s,x1,x2,x3,x4,x5,x6,x7,x8⟩:=se0 (g:=g) (e:=e) (a:=a) (m:=a+1) (be:=be) c hD he hn h3 om (be - (a+1)) (a+1) be om (av _) om (av _) (.inl rfl) (.inl rfl);obtain⟨fr2,y1⟩:=P9 (g:=g) (e:=e) (s:=s) c he hn om (s - 1 - a) a W hD rfl om;have hr:=P7 (s - 1 - a) a W (by have:=hD.sz;omega);rw[show a+1+(s - 1 - a)=s by omega] at hr;refine⟨_,permIn_mono _ _ a s a be om x6 (by rw[hD.sz];omega) hr.1,Tq (AF t) hr s2 x5 x6 x7 x8,fun d=>?_⟩;rw[fF 228 _ _ WJ];have e1:(a:Int)+1 - a=1:=om
 simp only[iB,aC,aI] at x1 ⊢;simp(disch:=first|exact dis|fail) only[sy,simprocAttr,-List.reduceReplicate,hF.all,lF,hll,e1,x1,x2,x3,x4,y1]
theorem back{a m be:Nat}{W:Array Nat}(c:Cx hp L H t q b)(he:e=0\/e=1)(hn:n<=100000)(h0:a+1 < m)(h1:m+1=be)(h3:be<=n)(hD:Sy W n)(s1:SortedIn (ltK t) a m W):Mg hp L H t q b g e n a m be W:=by
 subst h1;have hF:Fit (hp.set b (.cells g true (isA W))).length L H:=by rw[aG];exact c.F
 have hll:∀ B,(hp.set b B).length=hp.length:=fun B=>aG;obtain⟨fr,s,x1,x2,x3,x4,x5,x6,x7,x8⟩:=se2 (g:=g) (e:=e) (a:=a) (m:=m) c hD he hn om (m - a) a m om (av _) om (av _) (.inl rfl) (.inl rfl);obtain⟨fr2,y1⟩:=Qa (g:=g) (e:=e) (s:=s) c he hn (m - s) m W hD rfl om;have hr:=P8 (m - s) m W om (by have:=hD.sz;omega);rw[show m - (m - s)=s by omega] at hr;refine⟨_,permIn_mono _ _ s (m+1) a (m+1) om (av _) (by rw[hD.sz];omega) hr.1,Xy (AF t) hr s1 x5 x6 x7 x8,fun d=>?_⟩;rw[fF 228 _ _ WJ];have e0:¬ (m:Int) - a=1:=om
 have e1:(m:Int)+1 - m=1:=om
 simp only[iB,aC,aI] at x1 ⊢;simp(disch:=first|exact dis|fail) only[sy,simprocAttr,-List.reduceReplicate,hF.all,lF,hll,e0,e1,x1,x2,x3,x4,y1]
theorem XC{a m be mid s0 r0:Nat}{W:Array Nat}(c:Cx hp L H t q b)(he:e=0\/e=1)(hn:n<=100000)(h0:a+1 < m)(h1:m+1 < be)(h3:be<=n)(hD:Sy W n)(hm:mid=(a+be) / 2)
  (hsr:(m > mid/\s0=mid+m - be/\r0=mid)\/(m<=mid/\s0=a/\r0=m)):∃ fr s,ga env lF.code (gS 0 [.slice (some ⟨b,0,some g⟩) n e,.int .i64 a,.int .i64 m,.int .i64 be,iB q]) ⟨hp.set b (.cells g true (isA W)),L,H,[]⟩=ga env (.seq X1 (.seq X2 X3)) fr ⟨hp.set b (.cells g true (isA W)),L,H,[]⟩
   /\ Gf fr q b g n e s be mid a m (mid+m - s)/\s0<=s/\s<=r0/\(s=s0\/ltK t W[mid+m - 1 - (s - 1)]! W[s - 1]! = false)/\(s=r0\/ltK t W[mid+m - 1 - s]! W[s]! = true):=by
 have hF:Fit (hp.set b (.cells g true (isA W))).length L H:=by rw[aG];exact c.F
 have hll:∀ B,(hp.set b B).length=hp.length:=fun B=>aG;obtain⟨fr,s,x1,⟨g1,g2,g3,g4,g5,g6,g7,g8⟩,x2,x3,x4,x5⟩:=se8 (g:=g) (e:=e) (a:=a) (m:=m) (be:=be) (mid:=mid) (N:=mid+m) (p:=mid+m - 1) (s0:=s0) (r0:=r0) c hD he hn (by intro x hx hx2;omega) om om (r0 - s0) s0 r0 (av _) (av _) om (av _) (.inl rfl) (.inl rfl);have e0:¬ (m:Int) - a=1:=om
 have e1:¬ (be:Int) - m=1:=om
 have e2:=half a be;rw[<- hm] at e2;have e3:(mid:Int)+m - 1=((mid+m - 1:Nat):Int):=om
 have e4:(mid:Int)+m - s=((mid+m - s:Nat):Int):=om
 simp only[iB,aC] at x1 g6 g7 ⊢;rw[code_eq];rcases hsr with ⟨a1,a2,a3⟩ | ⟨a1,a2,a3⟩
 ·have k1:(m:Int) > (mid:Int):=om
  have e5:(mid:Int)+m - be=(s0:Int):=om
  subst a3;simp(disch:=first|exact dis|fail) only[sy,simprocAttr,-List.reduceReplicate,hF.all,A0,A1,A2,A3,A4,A5,A6,A7,A8,B8,B7,B6,B5,B4,B3,B2,B1,B0,fs,sn,lF,hll,e0,e1,e2,e3,e4,e5,k1,x1,g1,g2,g3,g4,g5,g6,g7,g8];exact⟨_,s,rfl,⟨g1,g2,g3,g4,g5,rfl,g7,g8⟩,x2,x3,x4,x5⟩
 ·have k1:¬ (m:Int) > (mid:Int):=om
  subst a2 a3;simp(disch:=first|exact dis|fail) only[sy,simprocAttr,-List.reduceReplicate,hF.all,A0,A1,A2,A3,A4,A5,A6,A7,A8,B8,B7,B6,B5,B4,B3,B2,B1,B0,fs,sn,lF,hll,e0,e1,e2,e3,e4,k1,x1,g1,g2,g3,g4,g5,g6,g7,g8];exact⟨_,s,rfl,⟨g1,g2,g3,g4,g5,rfl,g7,g8⟩,x2,x3,x4,x5⟩
theorem wG(c:Cx hp L H t q b)(he:e=0\/e=1)(hn:n<=100000):∀ (k a m be:Nat) (W:Array Nat),be - a<=k->a < m->m < be->be<=n->Sy W n->SortedIn (ltK t) a m W->SortedIn (ltK t) m be W->Mg hp L H t q b g e n a m be W
 | 0,a,m,be,W,h0,h1,h2,h3,hD,s1,s2=>by omega
 | k+1,a,m,be,W,h0,h1,h2,h3,hD,s1,s2=>by
  by_cases c1:a+1=m
  ·exact front c he hn c1 h2 h3 hD s2
  by_cases c2:m+1=be
  ·exact back c he hn om c2 h3 hD s1
  obtain⟨mid,hm⟩:∃ mid,mid=(a+be) / 2:=⟨_,rfl⟩;obtain⟨s0,r0,hsr⟩:∃ s0 r0,(m > mid/\s0=mid+m - be/\r0=mid)\/(m<=mid/\s0=a/\r0=m):=by
   by_cases h:m > mid
   ·exact⟨_,_,.inl ⟨h,rfl,rfl⟩⟩
   ·exact⟨_,_,.inr ⟨om,rfl,rfl⟩⟩
  obtain⟨fr,s,w0,G,y1,y2,y3,y4⟩:=XC (g:=g) (e:=e) c he hn om om h3 hD hm hsr;have q1:a<=s/\s<=m/\m<=mid+m - s/\mid+m - s<=be/\s<=mid:=om
  obtain⟨fr1,W1,w1,R,G1⟩:=x1 c hD he hn G q1.2.1 q1.2.2.1 om;have hx:s=a\/mid+m - s=be\/ltK t W[mid+m - s]! W[s - 1]! = false:=by
   rcases y3 with y3 | y3
   ·omega
   ·by_cases hs:s=a
    ·exact .inl hs
    ·rw[show mid+m - 1 - (s - 1)=mid+m - s by omega] at y3;exact .inr (.inr y3)
  have hy:s=m\/m=mid+m - s\/ltK t W[mid+m - s - 1]! W[s]! = true:=by
   rcases y4 with y4 | y4
   ·omega
   ·rw[show mid+m - 1 - s=mid+m - s - 1 by omega] at y4;exact .inr (.inr y4)
  obtain⟨p1,p2,p3,p4,p5⟩:=xX (AF t) R s1 s2 q1.1 q1.2.1 q1.2.2.1 q1.2.2.2.1 hx hy;rw[show s+(mid+m - s - m)=mid by omega] at p2 p3 p5;have hD1:Sy W1 n:=hD.perm R.1 om om;obtain⟨fr2,W2,w2,r2,o2,G2⟩:=x2 c G1 q1.1 q1.2.2.2.2 p1 p2 fun h h'=>wG c he hn k a s mid W1 om h h' om hD1 p1 p2;have hD2:Sy W2 n:=hD1.perm r2 om om;have p3':=nQ (D1:=W2) p3 fun i h _=>r2.2.1 i (.inr h);have p4':=nQ (D1:=W2) p4 fun i h _=>r2.2.1 i (.inr om);obtain⟨fr3,W3,w3,r3,o3⟩:=x3 c G2 om q1.2.2.2.1 p3' p4' fun h h'=>wG c he hn k mid (mid+m - s) be W2 om h h' h3 hD2 p3' p4';have hs:=sides (lt:=ltK t) (a:=a) (m:=mid) (b:=be) om om (by rw[hD1.sz];exact h3) p5 r2 o2 r3 o3;have hz:=hD.sz;refine⟨W3,permIn_trans _ _ _ _ _ (permIn_mono _ _ s (mid+m - s) a be q1.1 q1.2.2.2.1 om R.1) hs.1,hs.2,fun d=>?_⟩;rw[fF 228 _ _ WJ];have hF:Fit (hp.set b (.cells g true (isA W))).length L H:=by rw[aG];exact c.F
  have hll:∀ B,(hp.set b B).length=hp.length:=fun B=>aG;show Zu lF.results _ (ga env lF.code (gS 0 _) ⟨hp.set b (.cells g true (isA W)),L,H,[]⟩)=_;rw[w0,F6,w1,rB,F6,w2,rB,w3,res_eq];simp(disch:=first|exact dis|fail) only[sy,simprocAttr,-List.reduceReplicate,hF.all,hll]
end
end TwG
namespace TwH
open Go Go.RowKit Go.Sort AM fO LtA SyP TmM TsA TsB TsI TtC TuF TwA TwS TwB TwC TwD TwE TwF TwG Bt
def Lo(lt:Nat->Nat->Bool)(B a:Nat)(W:Array Nat):Prop:=∀ x,B∣x->x < a->SortedIn lt x (x+B) W
def Hi(lt:Nat->Nat->Bool)(B a n:Nat)(W:Array Nat):Prop:=∀ x,B∣x->a<=x->SortedIn lt x (min (x+B) n) W
theorem dv{B a x:Nat}(h1:B∣a)(h2:B∣x)(h3:a < x):a+B<=x:=by have h:=(Nat.dvd_sub_iff_left (Nat.le_of_lt h3) h1).2 h2;have:=Nat.le_of_dvd om h;omega
theorem empty{lt:Nat->Nat->Bool}{a b:Nat}{W:Array Nat}(h:b<=a+1):SortedIn lt a b W:=fun i j h1 h2 h3=>by omega
variable{lt:Nat->Nat->Bool}{B a n:Nat}{W W':Array Nat}
theorem Lo.step(h:Lo lt B a W)(hd:B∣a)(p:PermIn a (a+B) W W')(s:SortedIn lt a (a+B) W'):Lo lt B (a+B) W':=fun x hx h2=>by
 by_cases h3:x < a
 ·have:=dv hx hd h3;exact nQ (h x hx h3) fun i _ hi=>p.2.1 i (.inl om)
 ·by_cases h4:x=a
  ·subst h4;exact s
  ·have:=dv hd hx om;omega
theorem Lo.all(h:Lo lt B a W)(hd:B∣a)(ha:a<=n)(hn:n < a+B)(p:PermIn a n W W')(s:SortedIn lt a n W'):Hi lt B 0 n W':=fun x hx _=>by
 by_cases h3:x < a
 ·have:=dv hx hd h3;rw[dG om];exact nQ (h x hx h3) fun i _ hi=>p.2.1 i (.inl om)
 ·by_cases h4:x=a
  ·subst h4;rw[eL om];exact s
  ·have:=dv hd hx om;exact empty om
theorem Hi.past(h:Hi lt B a n W){b c:Nat}(hb:a<=b)(p:PermIn c b W W'):Hi lt B b n W':=fun x hx h2=>nQ (h x hx om) fun i hi _=>p.2.1 i (.inr om)
section
variable{hp:List Blk}{L:Nat}{H d t:List Nat}{q b g e n:Nat}
theorem agu(c:Cx hp L H t q b)(he:e=0\/e=1)(hn:n<=100000):∀ (k a:Nat) (W:Array Nat),n - a<=k->20∣a->a<=n->Sy W n->Lo (ltK t) 20 a W->∃ fr a' W',
  fW env GL [7,8,1,0,2,6] hp.length [(7,.int .i64 a),(8,.int .i64 ((a:Int)+20)),(1,.int .i64 n),(0,.slice (some ⟨b,0,some g⟩) n e),(2,iB q),(6,.int .i64 20)] ⟨hp.set b (.cells g true (isA W)),L,H,[]⟩
   = some (.exit 0,fr,⟨hp.set b (.cells g true (isA W')),L,H,[]⟩)
   /\ (fr.get 7=some (.int .i64 (a':Nat))/\fr.get 1=some (.int .i64 n)/\fr.get 0=some (.slice (some ⟨b,0,some g⟩) n e)/\fr.get 2=some (iB q)/\fr.get 6=some (.int .i64 20))/\PermIn 0 n W W'/\Sy W' n/\20∣a'/\a'<=n/\n < a'+20/\Lo (ltK t) 20 a' W'
 | k,a,W,hk,hd,ha,hD,hL=>by
  have hF:=c.F;have hF2:Fit (hp.set b (.cells g true (isA W))).length L H:=by rw[aG];exact c.F
  have hll:∀ B,(hp.set b B).length=hp.length:=fun B=>aG;rw[fC GL.eq_1];by_cases h:a+20<=n
  ·obtain⟨k,rfl⟩:∃ k',k=k'+1:=⟨k - 1,om⟩;have g1:(a:Int)+20<=(n:Int):=om
   obtain⟨W1,p1,s1,e1⟩:=sY (g:=g) (e:=e) (a:=a) (be:=a+20) c hD he hn h om;have hD1:=hD.perm p1 h om;obtain⟨fr,a',W',x1,x2,x3,x4,x5⟩:=agu c he hn k (a+20) W1 om om h hD1 (hL.step hd p1 s1);refine⟨fr,a',W',?_,x2,permIn_trans _ _ _ _ _ (permIn_mono _ _ a (a+20) 0 n om h (by rw[hD.sz];omega) p1) x3,x4,x5⟩;simp only[iB,aC,cu] at x1 e1 ⊢;simp(disch:=first|exact dis|fail) only[sy,simprocAttr,-List.reduceReplicate,hF.all,g1,hll,e1];exact x1
  ·have g1:¬ (a:Int)+20<=(n:Int):=om
   simp only[iB];simp(disch:=first|exact dis|fail) only[sy,simprocAttr,-List.reduceReplicate,hF.all,g1];exact⟨_,a,W,rfl,⟨rfl,rfl,rfl,rfl,rfl⟩,permIn_refl _ _ _,hD,hd,ha,om,hL⟩
theorem agv{B:Nat}(c:Cx hp L H t q b)(he:e=0\/e=1)(hn:n<=100000)(hB:1<=B)(hBn:B<=n):∀ (k a:Nat) (W:Array Nat),n - a<=k->2*B∣a->a<=n->Sy W n->Lo (ltK t) (2*B) a W->Hi (ltK t) B a n W->∃ fr a' W',
  fW env GJ [7,8,1,0,2,6] hp.length [(7,.int .i64 a),(8,.int .i64 ((a:Int)+2*B)),(1,.int .i64 n),(0,.slice (some ⟨b,0,some g⟩) n e),(2,iB q),(6,.int .i64 B)] ⟨hp.set b (.cells g true (isA W)),L,H,[]⟩
   = some (.exit 4,fr,⟨hp.set b (.cells g true (isA W')),L,H,[]⟩)
   /\ (fr.get 7=some (.int .i64 (a':Nat))/\fr.get 1=some (.int .i64 n)/\fr.get 0=some (.slice (some ⟨b,0,some g⟩) n e)/\fr.get 2=some (iB q)/\fr.get 6=some (.int .i64 B))/\PermIn 0 n W W'/\Sy W' n/\2*B∣a'/\a'<=n/\n < a'+2*B/\Lo (ltK t) (2*B) a' W'/\Hi (ltK t) B a' n W'
 | k,a,W,hk,hd,ha,hD,hL,hH=>by
  have hF:=c.F;have hF2:Fit (hp.set b (.cells g true (isA W))).length L H:=by rw[aG];exact c.F
  have hll:∀ B,(hp.set b B).length=hp.length:=fun B=>aG;rw[fC GJ.eq_1];by_cases h:a+2*B<=n
  ·obtain⟨k,rfl⟩:∃ k',k=k'+1:=⟨k - 1,om⟩;have g1:(a:Int)+2*B<=(n:Int):=om
   have hdB:B∣a:=Nat.dvd_trans (Nat.dvd_mul_left B 2) hd;have i1:=hH a hdB (av _);have i2:=hH (a+B) (Nat.dvd_add hdB (Nat.dvd_refl B)) om;rw[dG om] at i1 i2;obtain⟨W1,p1,s1,e1⟩:=wG (g:=g) c he hn (2*B) a (a+B) (a+2*B) W om om om h hD i1 (by rw[show a+2*B=a+B+B by omega];exact i2);have hD1:=hD.perm p1 h om;obtain⟨fr,a',W',x1,x2,x3,x4,x5⟩:=agv c he hn hB hBn k (a+2*B) W1 om (Nat.dvd_add hd (Nat.dvd_refl _)) h hD1 (hL.step hd p1 s1) (hH.past om p1);refine⟨fr,a',W',?_,x2,permIn_trans _ _ _ _ _ (permIn_mono _ _ a (a+2*B) 0 n om h (by rw[hD.sz];omega) p1) x3,x4,x5⟩;simp only[iB,aC,Int.natCast_mul,cu] at x1 e1 ⊢;simp(disch:=first|exact dis|fail) only[sy,simprocAttr,-List.reduceReplicate,hF.all,g1,hll,e1];exact x1
  ·have g1:¬ (a:Int)+2*B<=(n:Int):=om
   simp only[iB];simp(disch:=first|exact dis|fail) only[sy,simprocAttr,-List.reduceReplicate,hF.all,g1];exact⟨_,a,W,rfl,⟨rfl,rfl,rfl,rfl,rfl⟩,permIn_refl _ _ _,hD,hd,ha,om,hL,hH⟩
theorem adF(c:Cx hp L H t q b)(he:e=0\/e=1)(hn:n<=100000):∀ (k B:Nat) (W:Array Nat),n - B<=k->1<=B->B<=2*n+20->Sy W n->Hi (ltK t) B 0 n W->∃ fr W',
  fW env GK [1,0,2,6] hp.length [(1,.int .i64 n),(0,.slice (some ⟨b,0,some g⟩) n e),(2,iB q),(6,.int .i64 B)] ⟨hp.set b (.cells g true (isA W)),L,H,[]⟩
   = some (.exit 2,fr,⟨hp.set b (.cells g true (isA W')),L,H,[]⟩)/\PermIn 0 n W W'/\SortedIn (ltK t) 0 n W'
 | k,B,W,hk,hB,hB2,hD,hH=>by
  have hF:=c.F;have hF2:Fit (hp.set b (.cells g true (isA W))).length L H:=by rw[aG];exact c.F
  have hll:∀ B,(hp.set b B).length=hp.length:=fun B=>aG;rw[fC GK.eq_1];by_cases h:B < n
  ·obtain⟨k,rfl⟩:∃ k',k=k'+1:=⟨k - 1,om⟩;have g1:(B:Int) < (n:Int):=om
   obtain⟨fr1,a,W1,x1,⟨f1,f2,f3,f4,f5⟩,x2,x3,x4,x5,x6,x7,x8⟩:=agv (g:=g) (e:=e) c he hn hB (Nat.le_of_lt h) n 0 W om (Nat.dvd_zero _) om hD (fun x _ h=>by omega) hH;have hdB:B∣a:=Nat.dvd_trans (Nat.dvd_mul_left B 2) x4;have i1:=x8 a hdB (av _);have hF3:Fit (hp.set b (.cells g true (isA W1))).length L H:=by rw[aG];exact c.F
   simp only[aN,Int.zero_add] at x1;by_cases hm:a+B < n
   ·have g2:(a:Int)+B < (n:Int):=om
    have i2:=x8 (a+B) (Nat.dvd_add hdB (Nat.dvd_refl B)) om;rw[dG om] at i1;rw[eL om] at i2;obtain⟨W2,p2,s2,e2⟩:=wG (g:=g) c he hn n a (a+B) n W1 om om hm (av _) x3 i1 i2;obtain⟨fr,W',y1,y2,y3⟩:=adF c he hn k (B*2) W2 om om om (x3.perm p2 (av _) x5) (by rw[bE];exact x7.all x4 x5 x6 p2 s2);refine⟨fr,W',?_,permIn_trans _ _ _ _ _ x2 (permIn_trans _ _ _ _ _ (permIn_mono _ _ a n 0 n om (av _) (by rw[x3.sz];omega) p2) y2),y3⟩;simp only[iB,aC,Int.natCast_mul,cu] at x1 f4 e2 y1 ⊢;simp(disch:=first|exact dis|fail) only[sy,simprocAttr,-List.reduceReplicate,hF.all,g1,g2,hll,x1,f1,f2,f3,f4,f5,e2];exact y1
   ·have g2:¬ (a:Int)+B < (n:Int):=om
    rw[eL om] at i1;obtain⟨fr,W',y1,y2,y3⟩:=adF c he hn k (B*2) W1 om om om x3 (by rw[bE];exact x7.all x4 x5 x6 (permIn_refl _ _ _) i1);refine⟨fr,W',?_,permIn_trans _ _ _ _ _ x2 y2,y3⟩;simp only[iB,aC,Int.natCast_mul,cu] at x1 f4 y1 ⊢;simp(disch:=first|exact dis|fail) only[sy,simprocAttr,-List.reduceReplicate,hF.all,g1,g2,hll,x1,f1,f2,f3,f4,f5];exact y1
  ·have g1:¬ (B:Int) < (n:Int):=om
   have i1:=hH 0 (Nat.dvd_zero _) (av _);rw[aX,eL om] at i1;simp only[iB];simp(disch:=first|exact dis|fail) only[sy,simprocAttr,-List.reduceReplicate,hF.all,g1];exact⟨_,W,rfl,permIn_refl _ _ _,i1⟩
theorem K6{W:Array Nat}(c:Cx hp L H t q b)(he:e=0\/e=1)(hn:n<=100000)(hD:Sy W n):∃ W',PermIn 0 n W W'/\SortedIn (ltK t) 0 n W' /\
  ∀ d,fS env (.func 130) [.slice (some ⟨b,0,some g⟩) n e,iB q] ⟨hp.set b (.cells g true (isA W)),L,H,d⟩=some (.tuple #[],⟨hp.set b (.cells g true (isA W')),L,H,d⟩):=by
 obtain⟨fr1,a,W1,x1,⟨f1,f2,f3,f4,f5⟩,x2,x3,x4,x5,x6,x7⟩:=agu (g:=g) (e:=e) c he hn n 0 W om (Nat.dvd_zero _) om hD (fun x _ h=>by omega);obtain⟨W2,p2,s2,e2⟩:=sY (g:=g) (e:=e) (a:=a) (be:=n) c x3 he hn (av _) x5;obtain⟨fr3,W3,y1,y2,y3⟩:=adF (g:=g) (e:=e) c he hn n 20 W2 om om om (x3.perm p2 (av _) x5) (x7.all x4 x5 x6 p2 s2);have hz:=hD.sz;have hz1:=x3.sz;refine⟨W3,permIn_trans _ _ _ _ _ x2 (permIn_trans _ _ _ _ _ (permIn_mono _ _ a n 0 n om (av _) om p2) y2),y3,fun d=>?_⟩;have hF:Fit (hp.set b (.cells g true (isA W))).length L H:=by rw[aG];exact c.F
 have hll:∀ B,(hp.set b B).length=hp.length:=fun B=>aG;simp only[iB,aN,Int.zero_add,cu] at x1 f4 e2 y1 ⊢;have k:∀ d,fS env (.func 181) [.slice (some ⟨b,0,some g⟩) n e,.int .i64 n,.func (.func 131) #[] #[.pointer (some ⟨q,0,some 0⟩)]] ⟨hp.set b (.cells g true (isA W)),L,H,d⟩=some (.tuple #[],⟨hp.set b (.cells g true (isA W3)),L,H,d⟩):=fun d=>by
  rw[fF 181 _ _ afu];have hF1:Fit (hp.set b (.cells g true (isA W1))).length L H:=by rw[aG];exact c.F
  simp(disch:=first|exact dis|fail) only[sy,simprocAttr,-List.reduceReplicate,hF.all,Wg,hll,x1,f1,f2,f3,f4,f5,e2,y1]
 rw[fF 130 _ _ afg];simp(disch:=first|exact dis|fail) only[sy,simprocAttr,-List.reduceReplicate,hF.all,V8,k]
end
end TwH
end Go.Proofs.YtgdpefeomemllaaGreat
