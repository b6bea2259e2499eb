/- Conditions: none. -/
import Derived.Test.YtgdpefeomemllaaGreatF5
set_option linter.all false
set_option maxRecDepth 100000
section
namespace Go.Proofs.YtgdpefeomemllaaGreat
namespace LtA
open Go Go.RowKit AM af Bt
variable{hp:List Blk}{L:Nat}{H d:List Nat}
theorem cD(a b c:Int)(hF:Fit hp.length L H):aN env (.func 245) [.int .i64 a,.int .i64 b,.int .i64 c] ⟨hp,L,H,d⟩=some (.bool (decide (b<=a/\a<=c)),⟨hp,L,H,d⟩):=by
 rw [aA 245 _ _ abA]
 by_cases h1:b<=a
 ·have h1':a>=b:=h1
  have e:decide (b<=a/\a<=c)=decide (a<=c):=by rw [decide_eq_decide];omega
  rw [e]
  simp (disch:=first | exact AM.dis | fail) only [af.sy,simprocAttr,-List.reduceReplicate,hF.all,FY,h1']
 ·have h1':¬ a>=b:=h1
  have e:decide (b<=a/\a<=c)=false:=by rw [decide_eq_false_iff_not];omega
  rw [e]
  simp (disch:=first | exact AM.dis | fail) only [af.sy,simprocAttr,-List.reduceReplicate,hF.all,FY,h1']
structure Gs(c:Ts):Prop where
 len:c.l.length=258
 by_:By c.l
 Aa : -9223372036854775808<=c.sym
 Ab:c.sym<=9223372036854775807
 pW : -9223372036854775808<=c.bits
 sA:c.bits<=9223372036854775807
 zv : -9223372036854775808<=c.now
 zw:c.now<=9223372036854775807
 Uw : -9223372036854775808<=c.way
 Ux:c.way<=9223372036854775807
theorem nj(s:Sh)(r:List Sh)(v w:Value)(l m:List Value):bD (s::r) (v::l) (w::m)=(jk s v w).bind fun b=>(bD r l m).map fun c=>b&&c:=rfl
theorem Km:bD [] [] []=some true:=rfl
theorem BU:∀ (n:Nat) {xs ys:List Value} {r:List Sh} {xs' ys':List Value} {b b':Bool},xs.length=n->ys.length=n->bD (List.replicate n .nu) xs ys=some b->bD r xs' ys'=some b'->bD (List.replicate n .nu++r) (xs++xs') (ys++ys')=some (b&&b')
 | 0,xs,ys,r,xs',ys',b,b',h1,h2,e,e'=>by
  cases xs<;>cases ys<;>simp at h1 h2
  simp [bD] at e
  subst e
  simpa using e'
 | n+1,xs,ys,r,xs',ys',b,b',h1,h2,e,e'=>by
  cases xs with
  | nil=>simp at h1
  | cons x xs=>
   cases ys with
   | nil=>simp at h2
   | cons y ys=>
    rw [List.replicate_succ,nj] at e
    obtain ⟨b1,e1,e2⟩:=Option.bind_eq_some_iff.1 e
    obtain ⟨b2,e3,e4⟩:=Option.map_eq_some_iff.1 e2
    rw [List.replicate_succ,List.cons_append,List.cons_append,List.cons_append,nj,e1,Option.bind_some,BU n (by simpa using h1) (by simpa using h2) e3 e',Option.map_some,<- Bool.and_assoc,e4]
theorem HC:∀ {a b:List Nat} {n:Nat},a.length=n->b.length=n->bD (List.replicate n .nu) (u8s a) (u8s b)=some (decide (a=b))
 | [],[],_,h,_=>by subst h;rfl
 | [],_::_,_,h1,h2=>by rw [List.length_nil] at h1;subst h1;simp at h2
 | _::_,[],_,h1,h2=>by rw [List.length_nil] at h2;subst h2;simp at h1
 | x::a,y::b,0,h1,h2=>by simp at h1
 | x::a,y::b,n+1,h1,h2=>by
  have ih:=HC (a:=a) (b:=b) (n:=n) (by simpa using h1) (by simpa using h2)
  have hd:((x:Int)==(y:Int))=decide (x=y):=by rw [Bool.eq_iff_iff];simp;omega
  show bD (.nu::List.replicate n .nu) (.int .u8 (x:Int)::u8s a) (.int .u8 (y:Int)::u8s b)=_
  rw [nj,ih]
  have e:jk .nu (.int .u8 (x:Int)) (.int .u8 (y:Int))=some (decide (x=y)):=by rw [<- hd];rfl
  rw [e]
  simp only [Option.bind_some,Option.map_some,Option.some.injEq,List.cons.injEq]
  rw [<- Bool.decide_and]
theorem UC(a b:Int):jk .nu (.int .i64 a) (.int .i64 b)=some (decide (a=b)):=by
 have hd:(a==b)=decide (a=b):=by rw [Bool.eq_iff_iff];simp
 rw [<- hd];rfl
theorem aag{c o:Ts}(h1:c.l.length=258)(h2:o.l.length=258):bD (List.replicate 262 .nu) (tsC c) (tsC o)=some (decide (c=o)):=by
 have e0:=HC h1 h2
 have e1:bD (List.replicate 4 .nu) [.int .i64 c.sym,.int .i64 c.bits,.int .i64 c.now,.int .i64 c.way] [.int .i64 o.sym,.int .i64 o.bits,.int .i64 o.now,.int .i64 o.way]=some (decide (c.sym=o.sym)&&(decide (c.bits=o.bits)&&(decide (c.now=o.now)&&(decide (c.way=o.way)&&true)))):=by
  simp only [List.replicate_succ,List.replicate_zero,nj,Km,UC,Option.bind_some,Option.map_some]
 have e2:=BU 258 (by rw [aq,h1]) (by rw [aq,h2]) e0 e1
 rw [List.replicate_append_replicate] at e2
 unfold tsC
 rw [e2]
 simp only [Option.some.injEq,Bool.and_true]
 rw [<- Bool.decide_and,<- Bool.decide_and,<- Bool.decide_and,<- Bool.decide_and,decide_eq_decide]
 exact Ts.zy.symm
theorem zD{c:Ts}(h:Gs c)(hF:Fit hp.length L H):aN env (.func 244) [.agg (tsC c).toArray] ⟨hp,L,H,d⟩=some (.bool (decide (pX c)),⟨hp,L,H,d⟩):=by
 rw [aA 244 _ _ abz]
 have hl:=h.len
 have hw:=fun hp L H d a b c hF=>cD (hp:=hp) (L:=L) (H:=H) (d:=d) a b c hF
 by_cases h1:0<=c.bits/\c.bits<=3
 ·have hpw:(2:Int) ^ c.bits.toNat<=8:=DP (by omega)
  have ad3:0 < (2:Int) ^ c.bits.toNat:=Int.pow_pos (by decide)
  have hng:(c.bits < 0)=False:=eq_false (by omega)
  have hmin:min c.bits.toNat 64=c.bits.toNat:=by omega
  have hwr:IntKind.i64.wrap (2 ^ c.bits.toNat)=2 ^ c.bits.toNat:=w64 (by omega) (by omega)
  by_cases h2:0<=c.now/\c.now<=2 ^ c.bits.toNat - 1
  ·have e:decide (pX c)=decide (c=⟨zs,0,c.bits,c.now,0⟩):=by
    rw [decide_eq_decide]
    exact ⟨fun hh=>hh.2.2.2.2,fun hh=>⟨h1.1,h1.2,h2.1,by omega,hh⟩⟩
   rw [e]
   obtain ⟨o,ho⟩:∃ o:Ts,o=⟨zs,0,c.bits,c.now,0⟩:=⟨_,rfl⟩
   have hz:=fU
   have hol:o.l.length=258:=by rw [ho];exact hz
   have s1:(tsC z0).set 259 (.int .i64 c.bits)=tsC { z0 with bits:=c.bits }:=oG hz _
   have s2:(tsC { z0 with bits:=c.bits }).set 260 (.int .i64 c.now)=tsC o:=by rw [wE (c:={ z0 with bits:=c.bits }) hz,ho];rfl
   have q:=aag hl hol
   have lz:(tsC z0).length=262:=az (c:=z0) hz
   have lz2:(tsC { z0 with bits:=c.bits }).length=262:=az (c:={ z0 with bits:=c.bits }) hz
   rw [<- ho]
   simp (disch:=first | exact AM.dis | fail) only [af.sy,simprocAttr,-List.reduceReplicate,hF.all,AY,hw,bu,aV,bV,iq hl,iu hl,h1,h2,hng,hmin,hwr,kU,s1,s2,q,bq hl,az hl,lz,lz2]
  ·have e:decide (pX c)=false:=by
    rw [decide_eq_false_iff_not]
    intro hh
    exact h2 ⟨hh.2.2.1,by have:=hh.2.2.2.1;omega⟩
   rw [e]
   simp (disch:=first | exact AM.dis | fail) only [af.sy,simprocAttr,-List.reduceReplicate,hF.all,AY,hw,bu,aV,bV,iq hl,iu hl,h1,h2,hng,hmin,hwr,bq hl,az hl]
 ·have e:decide (pX c)=false:=by
   rw [decide_eq_false_iff_not]
   intro hh
   exact h1 ⟨hh.1,hh.2.1⟩
  rw [e]
  simp (disch:=first | exact AM.dis | fail) only [af.sy,simprocAttr,-List.reduceReplicate,hF.all,AY,hw,bu,aV,bV,iq hl,iu hl,h1,bq hl,az hl]
theorem wF(a b:Int):(a==b)=decide (a=b):=by rw [Bool.eq_iff_iff];simp
theorem n8(was now way:Int)(hF:Fit hp.length L H):aN env (.func 247) [.int .i64 was,.int .i64 now,.int .i64 way] ⟨hp,L,H,d⟩=some (.bool (decide (cF was now way)),⟨hp,L,H,d⟩):=by
 rw [aA 247 _ _ abC]
 by_cases h1:way=0
 ·have e:decide (cF was now way)=decide (was=now):=by rw [decide_eq_decide];unfold cF;rw [if_pos h1]
  rw [e]
  simp (disch:=first | exact AM.dis | fail) only [af.sy,simprocAttr,-List.reduceReplicate,hF.all,AZ,h1]
  rw [wF]
 ·by_cases h2:way=1
  ·have e:decide (cF was now way)=decide (was < now):=by rw [decide_eq_decide];unfold cF;rw [if_neg h1,if_pos h2]
   rw [e]
   simp (disch:=first | exact AM.dis | fail) only [af.sy,simprocAttr,-List.reduceReplicate,hF.all,AZ,h1,h2]
  ·have e:decide (cF was now way)=decide (was > now):=by rw [decide_eq_decide];unfold cF;rw [if_neg h1,if_neg h2]
   rw [e]
   simp (disch:=first | exact AM.dis | fail) only [af.sy,simprocAttr,-List.reduceReplicate,hF.all,AZ,h1,h2]
theorem qK{c:Ts}(h:Gs c)(hF:Fit hp.length L H):∀ k i:Nat,i+k=258->(∀ s,s < i->c.l.getD s 0<=15/\¬ (c.sym<=(s:Int)/\0 < c.l.getD s 0))->∃ ex fr,
  aX env mL [1,6,7] (hp.length+1) [(1,.pointer (some ⟨hp.length,0,some 0⟩)),(6,.agg (u8s c.l).toArray),(7,.int .i64 i)] ⟨hp++[.cells 0 true (tsC c)],L,H,[]⟩=some (ex,fr,⟨hp++[.cells 0 true (tsC c)],L,H,[]⟩) /\
   ((ex=.exit 0/\pY c)\/(ex=.ret/\fr.get 2=some (.bool false)/\¬ pY c))
 | 0,i,e,hk=>by
  obtain rfl:i=258:=by omega
  rw [aB mL.eq_1]
  simp (disch:=first | exact AM.dis | fail) only [af.sy,simprocAttr,-List.reduceReplicate,hF.all]
  exact ⟨_,_,rfl,.inl ⟨rfl,fun s hs=>hk s hs⟩⟩
 | k+1,i,e,hk=>by
  have hil:i < c.l.length:=by have:=h.len;omega
  have h1:(i:Int) < 258:=by omega
  have h2:0<=(i:Int):=by omega
  have hc:=A5 hil
  have hg:c.l.getD i 0=c.l[i]:=by rw [List.getD_eq_getElem?_getD,List.getElem?_eq_getElem hil];rfl
  have hl:=h.len
  have ty:=fV hl
  by_cases c1:c.l[i] > 15
  ·have c1':(c.l[i]:Int) > 15:=by omega
   rw [aB mL.eq_1]
   simp (disch:=first | exact AM.dis | fail) only [af.sy,simprocAttr,-List.reduceReplicate,hF.all,h1,h2,hc,c1',ty,az hl]
   exact ⟨_,_,rfl,.inr ⟨rfl,rfl,fun hh=>by have:=(hh i (by omega)).1;omega⟩⟩
  have c1':¬ (c.l[i]:Int) > 15:=by omega
  by_cases c2:c.sym<=(i:Int)
  ·by_cases c3:0 < c.l[i]
   ·have c3':(c.l[i]:Int) > 0:=by omega
    have c2':(i:Int)>=c.sym:=c2
    rw [aB mL.eq_1]
    simp (disch:=first | exact AM.dis | fail) only [af.sy,simprocAttr,-List.reduceReplicate,hF.all,h1,h2,hc,c1',c2',c3',ty,az hl]
    exact ⟨_,_,rfl,.inr ⟨rfl,rfl,fun hh=>(hh i (by omega)).2 ⟨c2,by omega⟩⟩⟩
   ·have c3':¬ (c.l[i]:Int) > 0:=by omega
    have c2':(i:Int)>=c.sym:=c2
    obtain ⟨ex,fr,e1,e2⟩:=qK h hF k (i+1) (by omega) fun s hs=>by
     rcases Nat.lt_or_ge s i with h3 | h3
     ·exact hk s h3
     ·obtain rfl:s=i:=by omega
      rw [hg];omega
    simp only [Int.natCast_add,Int.natCast_one] at e1
    rw [aB mL.eq_1]
    simp (disch:=first | exact AM.dis | fail) only [af.sy,simprocAttr,-List.reduceReplicate,hF.all,h1,h2,hc,c1',c2',c3',ty,az hl,e1]
    exact ⟨ex,fr,rfl,e2⟩
  ·have c2':¬ (i:Int)>=c.sym:=c2
   obtain ⟨ex,fr,e1,e2⟩:=qK h hF k (i+1) (by omega) fun s hs=>by
    rcases Nat.lt_or_ge s i with h3 | h3
    ·exact hk s h3
    ·obtain rfl:s=i:=by omega
     rw [hg];omega
   simp only [Int.natCast_add,Int.natCast_one] at e1
   rw [aB mL.eq_1]
   simp (disch:=first | exact AM.dis | fail) only [af.sy,simprocAttr,-List.reduceReplicate,hF.all,h1,h2,hc,c1',c2',ty,az hl,e1]
   exact ⟨ex,fr,rfl,e2⟩
theorem Kn{c:Ts}(h:Gs c)(hF:Fit hp.length L H):aN env (.func 246) [.agg (tsC c).toArray] ⟨hp,L,H,d⟩=some (.bool (decide (pY c)),⟨hp,L,H,d⟩):=by
 rw [aA 246 _ _ abB]
 have hl:=h.len
 obtain ⟨ex,fr,e1,e2⟩:=qK h hF 258 0 rfl (fun s hs=>by omega)
 simp only [Int.natCast_zero] at e1
 rcases e2 with ⟨rfl,e2⟩ | ⟨rfl,e3,e2⟩
 ·rw [decide_eq_true e2]
  simp (disch:=first | exact AM.dis | fail) only [af.sy,simprocAttr,-List.reduceReplicate,hF.all,FZ,bu,aV,bV,az hl,sv hl,e1]
 ·rw [decide_eq_false e2]
  simp (disch:=first | exact AM.dis | fail) only [af.sy,simprocAttr,-List.reduceReplicate,hF.all,FZ,bu,aV,bV,az hl,sv hl,e1,e3]
theorem Ko{c:Ts}(h:Gs c)(hF:Fit hp.length L H):aN env (.func 204) [.agg (tsC c).toArray] ⟨hp,L,H,d⟩=some (.bool (decide (Vld c)),⟨hp,L,H,d⟩):=by
 rw [aA 204 _ _ abr]
 have hl:=h.len
 have hw:=fun hp L H d a b c hF=>cD (hp:=hp) (L:=L) (H:=H) (d:=d) a b c hF
 have hbg:=fun hp L H d hF=>zD (hp:=hp) (L:=L) (H:=H) (d:=d) h hF
 have hkn:=fun hp L H d hF=>Kn (hp:=hp) (L:=L) (H:=H) (d:=d) h hF
 have htn:=fun hp L H d a b c hF=>n8 (hp:=hp) (L:=L) (H:=H) (d:=d) a b c hF
 have htb:=fun hp L H d hF=>yx (hp:=hp) (L:=L) (H:=H) (d:=d) hl h.by_ hF
 have tb:=iq hl
 have ty:=fV hl
 have tn:=iu hl
 have tw:=jG hl
 by_cases c0:pX c
 ·rw [decide_eq_true (show Vld c from .inl c0)]
  simp (disch:=first | exact AM.dis | fail) only [af.sy,simprocAttr,-List.reduceReplicate,hF.all,iA,hw,hbg,bu,aV,bV,c0,bq hl,az hl]
 have bad:¬ (qJ c/\pY c/\fM c)->decide (Vld c)=false:=fun hh=>decide_eq_false fun hv=>hv.elim c0 hh
 by_cases c1:4<=c.bits/\c.bits<=5
 ·by_cases c2:0<=c.sym/\c.sym<=258
  ·by_cases c3:0<=c.now/\c.now<=15
   ·by_cases c4:0<=c.way/\c.way<=2
    ·by_cases c5:pY c
     ·have R:qJ c:=⟨c1.1,c1.2,c2.1,c2.2,c3.1,c3.2,c4.1,c4.2⟩
      have e:decide (Vld c)=decide (fM c):=by
       rw [decide_eq_decide]
       exact ⟨fun hv=>hv.elim (fun hh=>absurd hh c0) fun hh=>hh.2.2,fun hh=>.inr ⟨R,c5,hh⟩⟩
      rw [e]
      by_cases c6:c.sym=0
      ·by_cases w0:c.way=0
       ·have et:decide (fM c)=true:=by rw [decide_eq_true_eq];unfold fM;rw [if_pos c6];exact .inl w0
        rw [et]
        simp (disch:=first | exact AM.dis | fail) only [af.sy,simprocAttr,-List.reduceReplicate,hF.all,iA,hw,hbg,hkn,bu,aV,bV,c0,c1,c2,c3,c4,c5,c6,w0,tb,ty,tn,tw,bq hl,az hl]
       ·by_cases w1:c.way=1
        ·have et:decide (fM c)=decide (c.now > 0):=by rw [decide_eq_decide];unfold fM;rw [if_pos c6];omega
         rw [et]
         by_cases n0:c.now > 0
         ·simp (disch:=first | exact AM.dis | fail) only [af.sy,simprocAttr,-List.reduceReplicate,hF.all,iA,hw,hbg,hkn,bu,aV,bV,c0,c1,c2,c3,c4,c5,c6,w0,w1,n0,tb,ty,tn,tw,bq hl,az hl]
         ·simp (disch:=first | exact AM.dis | fail) only [af.sy,simprocAttr,-List.reduceReplicate,hF.all,iA,hw,hbg,hkn,bu,aV,bV,c0,c1,c2,c3,c4,c5,c6,w0,w1,n0,tb,ty,tn,tw,bq hl,az hl]
        ·have w2:c.way=2:=by omega
         have et:decide (fM c)=decide (c.now < 15):=by rw [decide_eq_decide];unfold fM;rw [if_pos c6];omega
         rw [et]
         simp (disch:=first | exact AM.dis | fail) only [af.sy,simprocAttr,-List.reduceReplicate,hF.all,iA,hw,hbg,hkn,bu,aV,bV,c0,c1,c2,c3,c4,c5,c6,w0,w1,w2,tb,ty,tn,tw,bq hl,az hl]
      ·by_cases c7:c.sym=258
       ·have hc7:(u8s c.l)[257]?=some (.int .u8 (c.l.getD 257 0:Nat)):=by
         rw [A5 (by omega),List.getD_eq_getElem?_getD,List.getElem?_eq_getElem (by omega)];rfl
        have hc8:(tsC c)[257]?=some (.int .u8 (c.l.getD 257 0:Nat)):=by
         unfold tsC;rw [List.getElem?_append_left (by rw [aq];omega)];exact hc7
        have et:decide (fM c)=(decide (c.bits=4)&&(decide (c.way=0)&&(decide (c.now=(c.l.getD 257 0:Nat))&&lp c.l))):=by
         have hT:fM c↔(c.bits=4/\c.way=0/\c.now=(c.l.getD 257 0:Nat)/\lp c.l=true):=by
          unfold fM
          rw [if_neg c6,if_pos c7]
         rw [Bool.eq_iff_iff,decide_eq_true_iff,hT]
         simp
        rw [et]
        have tl:=sv hl
        have hwr:IntKind.i64.wrap ((c.l.getD 257 0:Nat):Int)=(c.l.getD 257 0:Nat):=by have:=(c5 257 (by omega)).1;exact w64 (by omega) (by omega)
        by_cases b4:c.bits=4
        ·by_cases w0:c.way=0
         ·by_cases n0:c.now=(c.l.getD 257 0:Nat)
          ·have n1:(c.now==((c.l.getD 257 0:Nat):Int))=true:=by rw [wF,decide_eq_true n0]
           rw [decide_eq_true n0]
           clear n0
           simp (disch:=first | exact AM.dis | fail) only [af.sy,simprocAttr,-List.reduceReplicate,hF.all,iA,hw,hbg,hkn,htb,bu,aV,bV,c0,c1,c2,c3,c4,c5,c6,c7,b4,w0,n1,hwr,hc8,tl,tb,ty,tn,tw,bq hl,az hl]
          ·have n1:(c.now==((c.l.getD 257 0:Nat):Int))=false:=by rw [wF,decide_eq_false n0]
           rw [decide_eq_false n0]
           clear n0
           simp (disch:=first | exact AM.dis | fail) only [af.sy,simprocAttr,-List.reduceReplicate,hF.all,iA,hw,hbg,hkn,htb,bu,aV,bV,c0,c1,c2,c3,c4,c5,c6,c7,b4,w0,n1,hwr,hc8,tl,tb,ty,tn,tw,bq hl,az hl]
         ·simp (disch:=first | exact AM.dis | fail) only [af.sy,simprocAttr,-List.reduceReplicate,hF.all,iA,hw,hbg,hkn,htb,bu,aV,bV,c0,c1,c2,c3,c4,c5,c6,c7,b4,w0,hc8,tl,tb,ty,tn,tw,bq hl,az hl]
        ·simp (disch:=first | exact AM.dis | fail) only [af.sy,simprocAttr,-List.reduceReplicate,hF.all,iA,hw,hbg,hkn,htb,bu,aV,bV,c0,c1,c2,c3,c4,c5,c6,c7,b4,hc8,tl,tb,ty,tn,tw,bq hl,az hl]
       ·obtain ⟨k,hk⟩:∃ k:Nat,c.sym - 1=(k:Nat):=⟨(c.sym - 1).toNat,by omega⟩
        have ad4:k < 257:=by omega
        have hck:(tsC c)[k]?=some (.int .u8 (c.l.getD k 0:Nat)):=by
         unfold tsC
         rw [List.getElem?_append_left (by rw [aq];omega),A5 (by omega),List.getD_eq_getElem?_getD,List.getElem?_eq_getElem (by omega)];rfl
        have et:decide (fM c)=decide (cF (c.l.getD k 0:Nat) c.now c.way):=by
         rw [decide_eq_decide]
         unfold fM
         rw [if_neg c6,if_neg c7,show c.sym.toNat - 1=k by omega]
        rw [et]
        have k0:0<=(k:Int)/\(k:Int) < 258:=by omega
        have Xx:k<=261:=by omega
        have hwr:IntKind.i64.wrap ((c.l.getD k 0:Nat):Int)=(c.l.getD k 0:Nat):=by have:=(c5 k (by omega)).1;exact w64 (by omega) (by omega)
        simp (disch:=first | exact AM.dis | fail) only [af.sy,simprocAttr,-List.reduceReplicate,hF.all,iA,hw,hbg,hkn,htn,bu,aV,bV,c0,c1,c2,c3,c4,c5,c6,c7,hk,k0,Xx,hwr,hck,tb,ty,tn,tw,bq hl,az hl]
     ·rw [bad fun hh=>c5 hh.2.1]
      simp (disch:=first | exact AM.dis | fail) only [af.sy,simprocAttr,-List.reduceReplicate,hF.all,iA,hw,hbg,hkn,bu,aV,bV,c0,c1,c2,c3,c4,c5,tb,ty,tn,tw,bq hl,az hl]
    ·rw [bad fun hh=>c4 ⟨hh.1.Uw,hh.1.Ux⟩]
     simp (disch:=first | exact AM.dis | fail) only [af.sy,simprocAttr,-List.reduceReplicate,hF.all,iA,hw,hbg,bu,aV,bV,c0,c1,c2,c3,c4,tb,ty,tn,tw,bq hl,az hl]
   ·rw [bad fun hh=>c3 ⟨hh.1.zv,hh.1.zw⟩]
    simp (disch:=first | exact AM.dis | fail) only [af.sy,simprocAttr,-List.reduceReplicate,hF.all,iA,hw,hbg,bu,aV,bV,c0,c1,c2,c3,tb,ty,tn,tw,bq hl,az hl]
  ·rw [bad fun hh=>c2 ⟨hh.1.Aa,hh.1.Ab⟩]
   simp (disch:=first | exact AM.dis | fail) only [af.sy,simprocAttr,-List.reduceReplicate,hF.all,iA,hw,hbg,bu,aV,bV,c0,c1,c2,tb,ty,tn,tw,bq hl,az hl]
 ·rw [bad fun hh=>c1 ⟨hh.1.pW,hh.1.sA⟩]
  simp (disch:=first | exact AM.dis | fail) only [af.sy,simprocAttr,-List.reduceReplicate,hF.all,iA,hw,hbg,bu,aV,bV,c0,c1,tb,ty,tn,tw,bq hl,az hl]
theorem Vld.ok{c:Ts}(hl:c.l.length=258)(h:Vld c)(hs:c.sym≠258):aac c:=by
 obtain ⟨i,hi⟩:=h.adM hl
 refine hi.ok ?_
 rcases hi with hh | ⟨f,hh⟩
 ·have:=hh.sym;omega
 ·have:=hh.Ab;omega
theorem tI{c:Ts}(h:Gs c){bit:Int}(hF:Fit hp.length L H):aN env (.func 154) [.agg (tsC c).toArray,.int .i64 bit] ⟨hp,L,H,d⟩=some (.tuple #[.agg (tsC (lV c bit).1).toArray,.bool (lV c bit).2.1,.int .i64 (lV c bit).2.2],⟨hp,L,H,d⟩):=by
 rw [aA 154 _ _ abf]
 have hl:=h.len
 have hv:=fun hp L H d hF=>Ko (hp:=hp) (L:=L) (H:=H) (d:=d) h hF
 have ty:=fV hl
 have hz:=fU
 have lz:(tsC z0).length=262:=az (c:=z0) hz
 have tkz:(tsC z0).take 262=tsC z0:=bq hz
 have pzz:putAt (tsC z0) 0 (tsC z0)=tsC z0:=eS rfl
 have hfd:bit.fdiv 2=bit / 2:=yf _ (by decide)
 have h21:(2:Int) ^ (1:Nat)=2:=rfl
 by_cases c0:Vld c
 ·by_cases c1:c.sym=258
  ·have e:lV c bit=(z0,false,2):=by unfold lV;rw [if_neg fun hh=>hh.2.1 c1]
   rw [e]
   simp (disch:=first | exact AM.dis | fail) only [af.sy,simprocAttr,-List.reduceReplicate,hF.all,uM,hv,c0,c1,ty,kU,bu,aV,bV,bq hl,az hl,lz,tkz,pzz]
  ·by_cases c2:bit=0\/bit=1
   ·obtain ⟨bn,rfl⟩:∃ bn:Nat,bit=(bn:Nat):=⟨bit.toNat,by omega⟩
    have hb2:bn < 2:=by omega
    have hq':(bn:Int) / 2=0:=by omega
    have o:=c0.ok hl c1
    have hnx:=fun hp L H d hF=>tN (hp:=hp) (L:=L) (H:=H) (d:=d) o hb2 hF
    have e:lV c (bn:Int)=(if (bU c bn).2 then ((bU c bn).1,decide ((bU c bn).1.sym=258),0) else (z0,false,100)):=by
     unfold lV;rw [if_pos ⟨c0,c1,c2⟩,Int.toNat_natCast]
    rw [e]
    have hln:=O9 hl bn
    cases hf:(bU c bn).2 with
    | false=>
     rw [hf] at hnx
     rw [if_neg (by simp)]
     generalize (bU c bn).1=c2 at *
     have pc:putAt (tsC c) 0 (tsC c2)=tsC c2:=eS (by rw [az hln,az hl])
     simp (disch:=first | exact AM.dis | fail) only [af.sy,simprocAttr,-List.reduceReplicate,hF.all,uM,hv,c0,c1,ty,h21,hfd,hq',hnx,kU,bu,aV,bV,bq hl,az hl,bq hln,az hln,pc,lz,tkz,pzz]
    | true=>
     rw [hf] at hnx
     rw [if_pos rfl]
     generalize (bU c bn).1=c2 at *
     have pc:putAt (tsC c) 0 (tsC c2)=tsC c2:=eS (by rw [az hln,az hl])
     have pz:putAt (tsC z0) 0 (tsC c2)=tsC c2:=eS (by rw [az hln,lz])
     have ty2:=fV hln
     simp (disch:=first | exact AM.dis | fail) only [af.sy,simprocAttr,-List.reduceReplicate,hF.all,uM,hv,c0,c1,ty,ty2,h21,hfd,hq',hnx,kU,bu,aV,bV,bq hl,az hl,bq hln,az hln,pc,pz,lz,tkz,pzz]
     rw [wF]
   ·have e:lV c bit=(z0,false,2):=by unfold lV;rw [if_neg fun hh=>c2 hh.2.2]
    have hq':¬ bit / 2=0:=by omega
    rw [e]
    simp (disch:=first | exact AM.dis | fail) only [af.sy,simprocAttr,-List.reduceReplicate,hF.all,uM,hv,c0,c1,ty,h21,hfd,hq',kU,bu,aV,bV,bq hl,az hl,lz,tkz,pzz]
 ·have e:lV c bit=(z0,false,2):=by unfold lV;rw [if_neg fun hh=>c0 hh.1]
  rw [e]
  simp (disch:=first | exact AM.dis | fail) only [af.sy,simprocAttr,-List.reduceReplicate,hF.all,uM,hv,c0,kU,bu,aV,bV,bq hl,az hl,lz,tkz,pzz]
end LtA
end Go.Proofs.YtgdpefeomemllaaGreat
end
namespace Go.Proofs.YtgdpefeomemllaaGreat
namespace ArA
open Go Go.RowKit AM af
abbrev arP(r:Nat):Value:=.pointer (some ⟨r,0,some 0⟩)
section
variable{hp:List Blk}{r q L:Nat}{H d:List Nat}{A:Arn}
theorem gu(hF:Fit hp.length L H)(k:iM hp.length r q H A)(s n:Int) :
  aN env (.func 115) [arP r,.agg #[.int .i64 s,.int .i64 n]] ⟨put hp r q A,L,H,d⟩=some (.bool (A.has s n),⟨put hp r q A,L,H,d⟩):=by
 have h1:=k.vp
 have h2:=k.vq
 have h3:=k.Bq
 have h4:=k.yW
 have h5:=k.size
 rw [aA 115 _ _ aa6]
 simp (disch:=first | exact AM.gn | fail) only [af.sy,simprocAttr,-List.reduceReplicate,syR,Int.le_refl,hF.all,k.hr,k.hq,FL]
 iterate 4 (all_goals (try (split<;>rename_i hq<;>(try simp only [Decidable.not_not] at hq)<;>(first | simp (disch:=first | exact AM.gn | fail) only [af.sy,simprocAttr,-List.reduceReplicate,syR,Int.le_refl,hF.all,k.hr,k.hq,eq_false hq] | simp (disch:=first | exact AM.gn | fail) only [af.sy,simprocAttr,-List.reduceReplicate,syR,Int.le_refl,hF.all,k.hr,k.hq,eq_true hq]))))
 all_goals (simp [Arn.has, *])
theorem jM(hF:Fit hp.length L H)(k:iM hp.length r q H A)(s len i n:Int)(h0:0<=n)(hn:n<=4) :
  aN env (.func 180) [arP r,.agg #[.int .i64 s,.int .i64 len],.int .i64 i,.int .i64 n] ⟨put hp r q A,L,H,d⟩=some (A.rX q s len i n,⟨put hp r q A,L,H,d⟩):=by
 have h1:=k.vp
 have h2:=k.vq
 have h3:=k.Bq
 have h4:=k.yW
 have h5:=k.size
 have hne:=k.ne
 rw [aA 180 _ _ abj]
 cases hh:A.has s len with
 | false=>
  simp (disch:=first | exact AM.gn | fail) only [af.sy,simprocAttr,-List.reduceReplicate,syR,Int.le_refl,hF.all,k.hr,k.hq,uN,gu,hh]
  simp [Arn.rX,Arn.part,hh]
 | true=>
  have hh':=Arn.wu.1 hh
  by_cases c1:i < 0
  ·simp (disch:=first | exact AM.gn | fail) only [af.sy,simprocAttr,-List.reduceReplicate,syR,Int.le_refl,hF.all,k.hr,k.hq,uN,gu,hh,c1]
   simp only [Arn.rX]
   rw [if_neg (by rw [Arn.ou];omega)]
  by_cases c2:i > len - n
  ·simp (disch:=first | exact AM.gn | fail) only [af.sy,simprocAttr,-List.reduceReplicate,syR,Int.le_refl,hF.all,k.hr,k.hq,uN,gu,hh,c1,c2]
   simp only [Arn.rX]
   rw [if_neg (by rw [Arn.ou];omega)]
  ·have c3:0<=i+s/\i+s<=i+s+n/\i+s+n<=i+s+n/\i+s+n<=(A.bs.length:Int):=by omega
   have e1:(i+s+n).toNat - (i+s).toNat=n.toNat:=by omega
   simp (disch:=first | exact AM.gn | fail) only [af.sy,simprocAttr,-List.reduceReplicate,syR,Int.le_refl,hF.all,k.hr,k.hq,uN,gu,hh,c1,c2,c3,e1]
   simp only [Arn.rX]
   rw [if_pos (by rw [Arn.ou];omega),Int.add_comm i s]
theorem oJ(k:iM hp.length r q H A){s len i n:Int}(h:A.part s len i n=true)(h0:1<=n){j:Nat}(hj:j < n.toNat):(u8s A.bs)[(s+i).toNat+j]?=some (.int .u8 (A.slot s (i+j):Nat)):=by
 have:=k.wv h (by omega)
 rw [eo,Arn.slot,List.getD_eq_getElem?_getD]
 have e:(s+(i+j)).toNat=(s+i).toNat+j:=by omega
 rw [e,List.getElem?_eq_getElem (by omega)];rfl
theorem BV(hF:Fit hp.length L H)(k:iM hp.length r q H A)(s len i:Int) :
  aN env (.func 125) [arP r,.agg #[.int .i64 s,.int .i64 len],.int .i64 i] ⟨put hp r q A,L,H,d⟩=some (.tuple #[.int .u8 (A.GX s len i),.bool (A.part s len i 1)],⟨put hp r q A,L,H,d⟩):=by
 have h1:=k.vp
 have h2:=k.vq
 have h3:=k.Bq
 have h4:=k.yW
 have h5:=k.size
 have hne:=k.ne
 rw [aA 125 _ _ aa8]
 cases hh:A.part s len i 1 with
 | false=>
  simp (disch:=first | exact AM.gn | fail) only [af.sy,simprocAttr,-List.reduceReplicate,syR,Int.le_refl,hF.all,k.hr,k.hq,AS,jM,Arn.rX,hh]
  simp [Arn.GX,hh]
 | true=>
  have hs:=oJ k hh (by omega) (j:=0) (by decide)
  have hs2:=k.wv hh (by omega)
  simp only [Nat.add_zero,Int.natCast_zero,Int.add_zero] at hs
  simp (disch:=first | exact AM.gn | fail) only [af.sy,simprocAttr,-List.reduceReplicate,syR,Int.le_refl,hF.all,k.hr,k.hq,AS,jM,Arn.rX,hh,hs]
  simp [Arn.GX,hh]
theorem sB(hF:Fit hp.length L H)(k:iM hp.length r q H A)(s len i:Int) :
  aN env (.func 226) [arP r,.agg #[.int .i64 s,.int .i64 len],.int .i64 i] ⟨put hp r q A,L,H,d⟩=some (if A.pU s len i=true then .slice (some ⟨q,(s+4*i).toNat,some 0⟩) 4 0 else .slice none 0 0,⟨put hp r q A,L,H,d⟩):=by
 have h1:=k.vp
 have h2:=k.vq
 have h3:=k.Bq
 have h4:=k.yW
 have h5:=k.size
 have hne:=k.ne
 rw [aA 226 _ _ aby]
 by_cases c1:i < 0
 ·simp (disch:=first | exact AM.gn | fail) only [af.sy,simprocAttr,-List.reduceReplicate,syR,Int.le_refl,hF.all,k.hr,k.hq,yq,c1]
  rw [if_neg (by simp [Arn.pU];omega)]
 by_cases c2:i > 1048576
 ·simp (disch:=first | exact AM.gn | fail) only [af.sy,simprocAttr,-List.reduceReplicate,syR,Int.le_refl,hF.all,k.hr,k.hq,yq,c1,c2]
  rw [if_neg (by simp [Arn.pU];omega)]
 have e:i*4=4*i:=Int.mul_comm _ _
 have hw:A.pU s len i=A.part s len (4*i) 4:=by
  simp only [Arn.pU];rw [decide_eq_true (by omega),Bool.true_and]
 rw [hw]
 cases hh:A.part s len (4*i) 4 with
 | false=>simp (disch:=first | exact AM.gn | fail) only [af.sy,simprocAttr,-List.reduceReplicate,syR,Int.le_refl,hF.all,k.hr,k.hq,yq,c1,c2,e,jM,Arn.rX,hh]
 | true=>
  have hs2:=k.wv hh (by omega)
  simp (disch:=first | exact AM.gn | fail) only [af.sy,simprocAttr,-List.reduceReplicate,syR,Int.le_refl,hF.all,k.hr,k.hq,yq,c1,c2,e,jM,Arn.rX,hh]
theorem Pb(hF:Fit hp.length L H)(k:iM hp.length r q H A)(s len i:Int) :
  aN env (.func 179) [arP r,.agg #[.int .i64 s,.int .i64 len],.int .i64 i] ⟨put hp r q A,L,H,d⟩=some (.tuple #[.int .u32 (A.Bs s len i),.bool (A.pU s len i)],⟨put hp r q A,L,H,d⟩):=by
 have h1:=k.vp
 have h2:=k.vq
 have h3:=k.Bq
 have h4:=k.yW
 have h5:=k.size
 have hne:=k.ne
 rw [aA 179 _ _ abi]
 cases hh:A.pU s len i with
 | false=>
  simp (disch:=first | exact AM.gn | fail) only [af.sy,simprocAttr,-List.reduceReplicate,syR,Int.le_refl,hF.all,k.hr,k.hq,FR,sB,hh]
  rw [aB mJ.eq_1]
  simp (disch:=first | exact AM.gn | fail) only [af.sy,simprocAttr,-List.reduceReplicate,syR,Int.le_refl,hF.all,k.hr,k.hq]
  simp [Arn.Bs,hh]
 | true=>
  have hw:=k.TI hh
  have s0:=oJ k hw.2.2.2.2 (by omega) (j:=0) (by decide)
  have s1:=oJ k hw.2.2.2.2 (by omega) (j:=1) (by decide)
  have s2:=oJ k hw.2.2.2.2 (by omega) (j:=2) (by decide)
  have s3:=oJ k hw.2.2.2.2 (by omega) (j:=3) (by decide)
  have b0:=Arn.wz k.by_ s (4*i)
  have b1:=Arn.wz k.by_ s (4*i+1)
  have b2:=Arn.wz k.by_ s (4*i+2)
  have b3:=Arn.wz k.by_ s (4*i+3)
  simp only [Nat.add_zero,Int.natCast_zero,Int.add_zero,Int.natCast_one,Int.cast_ofNat_Int] at s0 s1 s2 s3
  simp (disch:=first | exact AM.gn | fail) only [af.sy,simprocAttr,-List.reduceReplicate,syR,Int.le_refl,hF.all,k.hr,k.hq,FR,sB,hh]
  rw [aB mJ.eq_1]
  simp (disch:=first | exact AM.gn | fail) only [af.sy,simprocAttr,-List.reduceReplicate,syR,Int.le_refl,hF.all,k.hr,k.hq,s0,ZH]
  rw [aB mJ.eq_1]
  simp (disch:=first | exact AM.gn | fail) only [af.sy,simprocAttr,-List.reduceReplicate,syR,Int.le_refl,hF.all,k.hr,k.hq,s1,ZG]
  rw [aB mJ.eq_1]
  simp (disch:=first | exact AM.gn | fail) only [af.sy,simprocAttr,-List.reduceReplicate,syR,Int.le_refl,hF.all,k.hr,k.hq,s2,WL]
  rw [aB mJ.eq_1]
  simp (disch:=first | exact AM.gn | fail) only [af.sy,simprocAttr,-List.reduceReplicate,syR,Int.le_refl,hF.all,k.hr,k.hq,s3,WM]
  rw [aB mJ.eq_1]
  simp (disch:=first | exact AM.gn | fail) only [af.sy,simprocAttr,-List.reduceReplicate,syR,Int.le_refl,hF.all,k.hr,k.hq]
  have e5:((le4 (A.slot s (4*i)) (A.slot s (4*i+1)) (A.slot s (4*i+2)) (A.slot s (4*i+3)):Nat):Int)=A.slot s (4*i)+A.slot s (4*i+1)*256+A.slot s (4*i+2)*65536+A.slot s (4*i+3)*16777216:=by unfold le4;omega
  simp only [Arn.Bs,hh,if_true,e5]
end
end ArA
namespace AM
open Go Go.RowKit
end AM
namespace ArA
open Go Go.RowKit AM af
end ArA
namespace AM
open Go Go.RowKit
end AM
namespace ArA
open Go Go.RowKit AM af
def lW(m k:Int):Int:=if 0<=m/\m<=65536/\1<=k/\k<=65536 then (m.tdiv k)*1024 else 0
def ke(s m t z:Int):Bool:=decide (m=0\/z=0\/s+m<=t\/t+z<=s)
def DQ(A:Arn)(s m t z k:Int):Bool:=A.has s m&&A.has t z&&decide (1<=m/\m<=65536)&&decide (1<=k/\k<=65536)&&ke s m t z&&decide (lW m k<=z)
theorem UD(m k:Int):0<=lW m k/\lW m k<=67108864:=by
 unfold lW
 split
 ·rename_i h
  have h1:m.tdiv k=m / k:=Int.tdiv_eq_ediv_of_nonneg h.1
  have h2:0<=m / k:=Int.ediv_nonneg h.1 (by omega)
  have h3:m / k<=m:=Int.ediv_le_self _ h.1
  rw [h1];omega
 ·omega
section
variable{hp:List Blk}{L:Nat}{H d:List Nat}{r q:Nat}{A:Arn}
theorem cD(hF:Fit hp.length L H)(n lo hi:Int):aN env (.func 268) [.int .i64 n,.int .i64 lo,.int .i64 hi] ⟨hp,L,H,d⟩=some (.bool (decide (lo<=n/\n<=hi)),⟨hp,L,H,d⟩):=by
 rw [aA 268 _ _ abL]
 by_cases h1:n>=lo
 ·have e:decide (lo<=n/\n<=hi)=decide (n<=hi):=by rw [decide_eq_decide];omega
  rw [e]
  simp (disch:=first | exact AM.dis | fail) only [af.sy,simprocAttr,-List.reduceReplicate,hF.all,F1,h1]
 ·have e:decide (lo<=n/\n<=hi)=false:=by rw [decide_eq_false_iff_not];omega
  rw [e]
  simp (disch:=first | exact AM.dis | fail) only [af.sy,simprocAttr,-List.reduceReplicate,hF.all,F1,h1]
theorem Pc(hF:Fit hp.length L H)(m k:Int):aN env (.func 285) [.int .i64 m,.int .i64 k] ⟨hp,L,H,d⟩=some (.int .i64 (lW m k),⟨hp,L,H,d⟩):=by
 rw [aA 285 _ _ abY]
 have hb:=UD m k
 by_cases h1:0<=m/\m<=65536
 ·have d1:decide (0<=m/\m<=65536)=true:=by simpa using h1
  by_cases h2:1<=k/\k<=65536
  ·have d2:decide (1<=k/\k<=65536)=true:=by simpa using h2
   have e:lW m k=m.tdiv k*1024:=by unfold lW;rw [if_pos (by omega)]
   rw [e] at hb ⊢
   have hk0:¬ k=0:=by omega
   simp (disch:=first | exact AM.dis | fail) only [af.sy,simprocAttr,-List.reduceReplicate,hF.all,A4,cD,d1,d2,hk0]
  ·have d2:decide (1<=k/\k<=65536)=false:=by simpa using h2
   have e:lW m k=0:=by unfold lW;rw [if_neg (by omega)]
   rw [e]
   simp (disch:=first | exact AM.dis | fail) only [af.sy,simprocAttr,-List.reduceReplicate,hF.all,A4,cD,d1,d2]
 ·have d1:decide (0<=m/\m<=65536)=false:=by simpa using h1
  have e:lW m k=0:=by unfold lW;rw [if_neg (by omega)]
  rw [e]
  simp (disch:=first | exact AM.dis | fail) only [af.sy,simprocAttr,-List.reduceReplicate,hF.all,A4,cD,d1]
theorem Kp(hF:Fit hp.length L H){s m t z:Int}(h1:0<=s/\s<=1048576/\0<=m/\m<=1048576)(h2:0<=t/\t<=1048576/\0<=z/\z<=1048576) :
  aN env (.func 284) [.agg #[.int .i64 s,.int .i64 m],.agg #[.int .i64 t,.int .i64 z]] ⟨hp,L,H,d⟩=some (.bool (ke s m t z),⟨hp,L,H,d⟩):=by
 rw [aA 284 _ _ abX]
 by_cases c1:m=0
 ·have e:ke s m t z=true:=by unfold ke;simp [c1]
  have c1':(m==0)=true:=by simpa using c1
  rw [e]
  simp (disch:=first | exact AM.dis | fail) only [af.sy,simprocAttr,-List.reduceReplicate,hF.all,yu,c1']
 have c1':(m==0)=false:=by simpa using c1
 by_cases c2:z=0
 ·have e:ke s m t z=true:=by unfold ke;simp [c2]
  have c2':(z==0)=true:=by simpa using c2
  rw [e]
  simp (disch:=first | exact AM.dis | fail) only [af.sy,simprocAttr,-List.reduceReplicate,hF.all,yu,c1',c2']
 have c2':(z==0)=false:=by simpa using c2
 by_cases c3:s+m<=t
 ·have e:ke s m t z=true:=by unfold ke;simp [c3]
  rw [e]
  simp (disch:=first | exact AM.dis | fail) only [af.sy,simprocAttr,-List.reduceReplicate,hF.all,yu,c1',c2',c3]
 ·have e:ke s m t z=decide (t+z<=s):=by unfold ke;rw [decide_eq_decide];omega
  rw [e]
  simp (disch:=first | exact AM.dis | fail) only [af.sy,simprocAttr,-List.reduceReplicate,hF.all,yu,c1',c2',c3]
theorem vg(hF:Fit hp.length L H)(k:iM hp.length r q H A)(s m t z kk:Int) :
  aN env (.func 267) [arP r,.agg #[.int .i64 s,.int .i64 m],.agg #[.int .i64 t,.int .i64 z],.int .i64 kk] ⟨put hp r q A,L,H,d⟩=some (.bool (DQ A s m t z kk),⟨put hp r q A,L,H,d⟩):=by
 have h1:=k.vp
 have h2:=k.vq
 have h3:=k.Bq
 have h4:=k.yW
 have h5:=k.size
 rw [aA 267 _ _ abK]
 unfold DQ
 cases e1:A.has s m with
 | false=>simp (disch:=first | exact AM.gn | fail) only [af.sy,simprocAttr,-List.reduceReplicate,syR,Int.le_refl,hF.all,k.hr,k.hq,rH,gu,e1]
 | true=>
  cases e2:A.has t z with
  | false=>simp (disch:=first | exact AM.gn | fail) only [af.sy,simprocAttr,-List.reduceReplicate,syR,Int.le_refl,hF.all,k.hr,k.hq,rH,gu,e1,e2]
  | true=>
   have b1:=Arn.wu.1 e1
   have b2:=Arn.wu.1 e2
   by_cases c1:1<=m/\m<=65536
   ·have d1:decide (1<=m/\m<=65536)=true:=by simpa using c1
    by_cases c2:1<=kk/\kk<=65536
    ·have d2:decide (1<=kk/\kk<=65536)=true:=by simpa using c2
     have wa:=fun (hp:List Blk) (L:Nat) (H d:List Nat) (hF:Fit hp.length L H)=>Kp (d:=d) hF (s:=s) (m:=m) (t:=t) (z:=z) (by omega) (by omega)
     cases e3:ke s m t z with
     | false=>simp (disch:=first | exact AM.gn | fail) only [af.sy,simprocAttr,-List.reduceReplicate,syR,Int.le_refl,hF.all,k.hr,k.hq,rH,gu,e1,e2,cD,d1,d2,wa,e3]
     | true=>
      have e4:decide (z>=lW m kk)=decide (lW m kk<=z):=rfl
      simp (disch:=first | exact AM.gn | fail) only [af.sy,simprocAttr,-List.reduceReplicate,syR,Int.le_refl,hF.all,k.hr,k.hq,rH,gu,e1,e2,cD,d1,d2,wa,e3,Pc,e4]
    ·have d2:decide (1<=kk/\kk<=65536)=false:=by simpa using c2
     simp (disch:=first | exact AM.gn | fail) only [af.sy,simprocAttr,-List.reduceReplicate,syR,Int.le_refl,hF.all,k.hr,k.hq,rH,gu,e1,e2,cD,d1,d2]
   ·have d1:decide (1<=m/\m<=65536)=false:=by simpa using c1
    simp (disch:=first | exact AM.gn | fail) only [af.sy,simprocAttr,-List.reduceReplicate,syR,Int.le_refl,hF.all,k.hr,k.hq,rH,gu,e1,e2,cD,d1]
end
end ArA
namespace ArA
open Go Go.RowKit AM af
structure zE(A:Arn)(s:Nat)(x:List Nat):Prop where
 live:(s:Int)+x.length<=A.live
 get:∀ (i:Nat) (h:i < x.length),A.bs[s+i]?=some x[i]
theorem zE.part{A:Arn}{s:Nat}{x:List Nat}(h:zE A s x){i:Nat}(hi:i < x.length):A.part s x.length i 1=true:=by
 have:=h.live
 rw [Arn.ou];omega
theorem zE.byte{A:Arn}{s:Nat}{x:List Nat}(h:zE A s x){i:Nat}(hi:i < x.length):A.GX s x.length i=x[i]:=by
 unfold Arn.GX Arn.slot
 rw [if_pos (h.part hi),show ((s:Int)+(i:Int)).toNat=s+i by omega,List.getD_eq_getElem?_getD,h.get i hi]
 rfl
def base(A:Arn)(t z:Int)(k c p:Nat):Nat:=if 0 < p / k then A.Bs t z (((p / k:Nat):Int)*256 - 256+c) else 0
def tail(x:List Nat)(k c p:Nat):Nat:=((x.drop (p / k*k)).take (p - p / k*k)).count c
section
variable{hp:List Blk}{L:Nat}{H d:List Nat}{r q:Nat}{A:Arn}
theorem ue(hF:Fit hp.length L H)(k:iM hp.length r q H A){s b c:Nat}{x:List Nat}(hx:zE A s x)(hb:hp[b]?=some (.cells 0 true [.int .i64 s,.int .i64 x.length]))(hrb:r≠b)(hqb:q≠b)(hid:H.contains b=false)(hm:x.length<=65536) :
  ∀ (j i:Nat),i+j<=x.length->∀ n sn:Nat,n<=4294967296+i->sn<=i->∃ fr,
  aX env vW [12,13,18,5,0,7,4] hp.length [(12,.int .i64 n),(13,.int .i64 sn),(18,.int .i64 i),(5,.int .i64 (i+j:Nat)),(0,arP r),(7,.pointer (some ⟨b,0,some 0⟩)),(4,.int .u8 c)] ⟨put hp r q A,L,H,[]⟩ =
   some (.exit 0,fr,⟨put hp r q A,L,H,[]⟩)/\fr.get 12=some (.int .i64 (n+((x.drop i).take j).count c:Nat))/\fr.get 13=some (.int .i64 (sn+j:Nat))
 | 0,i,e,n,sn,h1,h2=>by
  rw [aB vW.eq_1]
  simp (disch:=first | exact AM.gn | fail) only [af.sy,simprocAttr,-List.reduceReplicate,syR,Int.le_refl,hF.all,k.hr,k.hq,Nat.add_zero]
  exact ⟨_,rfl,by simp [Fr.get],rfl⟩
 | j+1,i,e,n,sn,h1,h2=>by
  have hi:i < x.length:=by omega
  have hd:x.drop i=x[i]::x.drop (i+1):=List.drop_eq_getElem_cons hi
  have c1:(i:Int) < (i+(j+1):Nat):=by omega
  have hbv:=hx.byte hi
  have hpt:=hx.part hi
  rw [hd,List.take_succ_cons]
  rw [aB vW.eq_1]
  by_cases hc:x[i]=c
  ·obtain ⟨fr,e1,e2,e3⟩:=ue hF k hx hb hrb hqb hid hm (c:=c) j (i+1) (by omega) (n+1) (sn+1) (by omega) (by omega)
   rw [show i+1+j=i+(j+1) by omega] at e1
   simp only [Int.natCast_add,Int.natCast_one] at e1 e2 e3 c1 ⊢
   have hc':((x[i]:Int)==c)=true:=by rw [hc];simp
   have hct:(x[i]::(x.drop (i+1)).take j).count c=((x.drop (i+1)).take j).count c+1:=by rw [hc,List.count_cons_self]
   rw [hct]
   simp (disch:=first | exact AM.gn | fail) only [af.sy,simprocAttr,-List.reduceReplicate,syR,Int.le_refl,hF.all,k.hr,k.hq,c1,hb,hid,BV,hbv,hpt,hc',e1]
   refine ⟨fr,rfl,?_,?_⟩
   ·rw [e2];congr 2;omega
   ·rw [e3];congr 2;omega
  ·obtain ⟨fr,e1,e2,e3⟩:=ue hF k hx hb hrb hqb hid hm (c:=c) j (i+1) (by omega) n (sn+1) (by omega) (by omega)
   rw [show i+1+j=i+(j+1) by omega] at e1
   simp only [Int.natCast_add,Int.natCast_one] at e1 e2 e3 c1 ⊢
   have hc':((x[i]:Int)==c)=false:=by rw [beq_eq_false_iff_ne];omega
   have hct:(x[i]::(x.drop (i+1)).take j).count c=((x.drop (i+1)).take j).count c:=List.count_cons_of_ne hc
   rw [hct]
   simp (disch:=first | exact AM.gn | fail) only [af.sy,simprocAttr,-List.reduceReplicate,syR,Int.le_refl,hF.all,k.hr,k.hq,c1,hb,hid,BV,hbv,hpt,hc',e1]
   refine ⟨fr,rfl,?_,?_⟩
   ·rw [e2]
   ·rw [e3];congr 2;omega
theorem Pd(hF:Fit hp.length L H)(k:iM hp.length r q H A){s c p kk:Nat}{t z:Int}{x:List Nat}(hx:zE A s x)(hm:x.length<=65536)(hv:DQ A s x.length t z kk=true)(hk:1<=kk)(hp2:p<=x.length)(hc:c < 256) :
  aN env (.func 254) [arP r,.agg #[.int .i64 s,.int .i64 x.length],.agg #[.int .i64 t,.int .i64 z],.int .i64 kk,.int .u8 c,.int .i64 p] ⟨put hp r q A,L,H,d⟩ =
   some (.tuple #[.int .i64 (base A t z kk c p+tail x kk c p:Nat),.int .i64 (p%kk:Nat),.bool true],⟨put hp r q A,L,H,d⟩):=by
 have h1:=k.vp
 have h2:=k.vq
 have d1:decide (0<=(p:Int)/\(p:Int)<=x.length)=true:=by simp;omega
 have hk0:¬ (kk:Int)=0:=by omega
 have hq:Int.tdiv (p:Int) (kk:Int)=((p / kk:Nat):Int):=by rw [Int.tdiv_eq_ediv_of_nonneg (by omega)];rfl
 have hdm:=Nat.div_add_mod p kk
 have hdl:p / kk*kk<=p:=Nat.div_mul_le_self p kk
 have hdp:p / kk<=p:=Nat.div_le_self p kk
 have hmm:((p / kk:Nat):Int)*(kk:Int)=((p / kk*kk:Nat):Int):=by simp
 have hmod:p%kk=p - p / kk*kk:=by rw [Nat.mul_comm] at hdm;omega
 have kx:=fun nw=>(k.mono (m:=(hp++nw).length) (by simp):iM (hp++nw).length r q H A)
 have hbase:base A t z kk c p<=4294967295:=by
  unfold base Arn.Bs
  split
  ·split
   ·have sl:∀ a,A.slot t a < 256:=fun a=>by
     unfold Arn.slot
     rw [List.getD_eq_getElem?_getD]
     cases hg:A.bs[(t+a).toNat]? with
     | none=>simp
     | some y=>exact k.by_ y (List.mem_of_getElem? hg)
    unfold le4
    have:=sl (4*(((p / kk:Nat):Int)*256 - 256+c));have:=sl (4*(((p / kk:Nat):Int)*256 - 256+c)+1);have:=sl (4*(((p / kk:Nat):Int)*256 - 256+c)+2);have:=sl (4*(((p / kk:Nat):Int)*256 - 256+c)+3)
    omega
   ·omega
  ·omega
 obtain ⟨fr,e1,e2,e3⟩:=ue (hp:=hp++[.cells 0 true [.int .i64 s,.int .i64 x.length],.cells 0 true [.int .i64 t,.int .i64 z]]) (b:=hp.length) (c:=c) (hF.mono (by simp)) (kx _) hx (by rw [bY]) (by omega) (by omega) hF.kg hm (p - p / kk*kk) (p / kk*kk) (by omega) (base A t z kk c p) 0 (by omega) (by omega)
 rw [show p / kk*kk+(p - p / kk*kk)=p by omega] at e1
 simp only [List.length_append,List.length_cons,List.length_nil,Nat.zero_add,Nat.reduceAdd,Int.natCast_zero] at e1 e3
 rw [<- hmod] at e3
 have e2':fr.get 12=some (.int .i64 (base A t z kk c p+tail x kk c p:Nat)):=e2
 have hpos:0 < p / kk->base A t z kk c p=A.Bs t z (((p / kk:Nat):Int)*256 - 256+c):=fun h=>if_pos h
 have hneg:¬ 0 < p / kk->base A t z kk c p=0:=fun h=>if_neg h
 clear e2 hdm hmod
 generalize base A t z kk c p=bs at *
 generalize tail x kk c p=tl at *
 generalize p / kk*kk=st at *
 generalize p / kk=mk at *
 rw [aA 254 _ _ abF]
 by_cases h0:0 < mk
 ·have h0':(mk:Int) > 0:=by omega
  have hb0:=hpos h0
  have hidx:((mk:Int) - 1)*256+c=(mk:Int)*256 - 256+c:=by omega
  rw [hb0] at e1 e2' hbase ⊢
  simp (disch:=first | exact AM.gn | fail) only [af.sy,simprocAttr,-List.reduceReplicate,syR,Int.le_refl,hF.all,k.hr,k.hq,F0,vg,hv,cD,d1,hk0,hq,hmm,h0',hidx,Pb,e1,e2',e3]
 ·have h0':¬ (mk:Int) > 0:=by omega
  have hb0:=hneg h0
  rw [hb0] at e1 e2' ⊢
  simp only [Int.natCast_zero] at e1
  simp (disch:=first | exact AM.gn | fail) only [af.sy,simprocAttr,-List.reduceReplicate,syR,Int.le_refl,hF.all,k.hr,k.hq,F0,vg,hv,cD,d1,hk0,hq,hmm,h0',e1,e2',e3]
end
end ArA
namespace TpN
open Go Go.RowKit AM af LtA
noncomputable section
def grd{ρ:Type}(b:Bool)(x:Option ρ):Option ρ:=aM b x none
theorem sC{ρ:Type}{b:Bool}{x:Option ρ}{r:ρ}(h:grd b x=some r):b=true/\x=some r:=by
 unfold grd aM at h
 cases b with
 | false=>cases h
 | true=>exact ⟨rfl,h⟩
def aah:List Nat->Nat:=@List.rec Nat (fun _=>Nat) 0 (fun a _ ih=>Nat.add (lg a) ih)
theorem Mn:∀ l:List Nat,aah l=lJ l
 | []=>rfl
 | a::l=>by show Nat.add (lg a) (aah l)=_;rw [Mn l];rfl
def acP(fr:Fr)(_:St):Option Value:=arg1 fr fun v=>zc v fun cs=>u8K cs.toList fun l=>grd (Nat.beq (dW l) 258) (some (.int .i64 (Int.ofNat (aah l))))
theorem sum_nat{args:List Value}{σ:St}{v:Value}(h:acP (cj 0 args) { σ with ak:=[] } = some v)(hF:Fit σ.heap.length σ.lock σ.hid):aN env (.func 266) args σ=some (v,σ):=by
 obtain ⟨a,rfl,h⟩:=tZ h
 obtain ⟨cs,rfl,h⟩:=jN h
 obtain ⟨l,hl,hb,h⟩:=oF h
 obtain ⟨h1,h2⟩:=sC h
 have h1:=Nat.eq_of_beq_eq_true h1
 rw [cz] at h1
 cases h2
 obtain ⟨cs⟩:=cs
 simp only at hl
 subst hl
 rw [Mn]
 exact Gb (hp:=σ.heap) (L:=σ.lock) (H:=σ.hid) (d:=σ.ak) h1 hb hF
def XE(j:Nat):List Nat->Nat:=@List.rec Nat (fun _=>Nat) 0 (fun a _ ih=>@Bool.rec (fun _=>Nat) ih (Nat.succ ih) (Nat.beq a j))
theorem Mo(j:Nat):∀ l:List Nat,XE j l=l.count j
 | []=>rfl
 | a::l=>by
  show @Bool.rec (fun _=>Nat) (XE j l) (Nat.succ (XE j l)) (Nat.beq a j)=_
  rw [Mo j l,List.count_cons]
  by_cases h:a=j
  ·subst h;simp [Nat.beq_refl]
  ·have:Nat.beq a j=false:=by rw [Bool.eq_false_iff];intro hb;exact h (Nat.eq_of_beq_eq_true hb)
   rw [this];simp [h]
def cv(l:List Nat)(j:Nat):Value:=.int .i64 (Int.ofNat (XE j l))
def DR(l:List Nat):List Value:=[cv l 0,cv l 1,cv l 2,cv l 3,cv l 4,cv l 5,cv l 6,cv l 7,cv l 8,cv l 9,cv l 10,cv l 11,cv l 12,cv l 13,cv l 14,cv l 15]
theorem Kq(l:List Nat):DR l=kc l:=by
 have:∀ j,cv l j=.int .i64 (l.count j:Nat):=fun j=>by unfold cv;rw [Mo];rfl
 unfold DR kc
 simp only [this]
 rfl
def Mp(fr:Fr)(_:St):Option Value:=arg1 fr fun v=>zc v fun cs=>u8K cs.toList fun l=>grd (Nat.beq (dW l) 258) (some (.agg (Array.mk (DR l))))
theorem Kr{args:List Value}{σ:St}{v:Value}(h:Mp (cj 0 args) { σ with ak:=[] } = some v)(hF:Fit σ.heap.length σ.lock σ.hid):aN env (.func 249) args σ=some (v,σ):=by
 obtain ⟨a,rfl,h⟩:=tZ h
 obtain ⟨cs,rfl,h⟩:=jN h
 obtain ⟨l,hl,hb,h⟩:=oF h
 obtain ⟨h1,h2⟩:=sC h
 have h1:=Nat.eq_of_beq_eq_true h1
 rw [cz] at h1
 cases h2
 obtain ⟨cs⟩:=cs
 simp only at hl
 subst hl
 rw [Kq]
 exact Ge (hp:=σ.heap) (L:=σ.lock) (H:=σ.hid) (d:=σ.ak) h1 hb hF
def knB:List Nat->Nat->Bool:=@List.rec Nat (fun _=>Nat->Bool) (fun _=>true) (fun a _ ih s=>@Nat.rec (fun _=>Bool) (@Bool.rec (fun _=>Bool) false (ih 0) (Nat.beq a 0)) (fun p _=>@Bool.rec (fun _=>Bool) false (ih p) (Nat.ble a 15)) s)
theorem DS:∀ (l:List Nat) (s:Nat),knB l s=true↔∀ i,i < l.length->l.getD i 0<=15/\¬ (s<=i/\0 < l.getD i 0)
 | [],s=>by simp [knB]
 | a::l,0=>by
  have e:knB (a::l) 0=@Bool.rec (fun _=>Bool) false (knB l 0) (Nat.beq a 0):=rfl
  rw [e]
  by_cases h:a=0
  ·subst h
   rw [Nat.beq_refl]
   simp only [DS l 0]
   constructor
   ·intro hh i hi
    cases i with
    | zero=>simp
    | succ i=>have:=hh i (by simpa using hi);simpa using this
   ·intro hh i hi
    have:=hh (i+1) (by simpa using hi)
    simpa using this
  ·have hb:Nat.beq a 0=false:=by rw [Bool.eq_false_iff];intro hb;exact h (Nat.eq_of_beq_eq_true hb)
   rw [hb]
   simp only [Bool.false_eq_true,false_iff]
   intro hh
   have:=(hh 0 (by simp)).2
   simp at this
   omega
 | a::l,s+1=>by
  have e:knB (a::l) (s+1)=@Bool.rec (fun _=>Bool) false (knB l s) (Nat.ble a 15):=rfl
  rw [e]
  by_cases h:a<=15
  ·rw [Nat.ble_eq_true_of_le h]
   simp only [DS l s]
   constructor
   ·intro hh i hi
    cases i with
    | zero=>simp;omega
    | succ i=>have:=hh i (by simpa using hi);simpa using this
   ·intro hh i hi
    have:=hh (i+1) (by simpa using hi)
    simpa using this
  ·have hb:Nat.ble a 15=false:=by rw [Bool.eq_false_iff];intro hb;exact h (Nat.le_of_ble_eq_true hb)
   rw [hb]
   simp only [Bool.false_eq_true,false_iff]
   intro hh
   have:=(hh 0 (by simp)).1
   simp at this
   omega
def UE:List Nat->Bool:=@List.rec Nat (fun _=>Bool) true (fun a _ ih=>@Bool.rec (fun _=>Bool) false ih (Nat.beq a 0))
theorem HD:∀ l:List Nat,UE l=true↔l=List.replicate l.length 0
 | []=>by simp [UE]
 | a::l=>by
  have e:UE (a::l)=@Bool.rec (fun _=>Bool) false (UE l) (Nat.beq a 0):=rfl
  rw [e,List.length_cons,List.replicate_succ,List.cons.injEq]
  by_cases h:a=0
  ·subst h;rw [Nat.beq_refl];simp only [true_and];exact HD l
  ·have hb:Nat.beq a 0=false:=by rw [Bool.eq_false_iff];intro hb;exact h (Nat.eq_of_beq_eq_true hb)
   rw [hb];simp [h]
def Ks(c:Ts):Bool:=and (leB 0 c.bits) (and (leB c.bits 3) (and (leB 0 c.now) (and (decide (c.now < 2 ^ c.bits.toNat)) (and (UE c.l) (and (eqB c.sym 0) (eqB c.way 0))))))
theorem Pe{c:Ts}(h:c.l.length=258):Ks c=decide (pX c):=by
 rw [Bool.eq_iff_iff,decide_eq_true_eq]
 unfold Ks pX
 simp only [Bool.and_eq_true,tT,yZ,decide_eq_true_eq,beq_iff_eq,HD,h]
 obtain ⟨l,sym,bits,now,way⟩:=c
 simp only [Ts.mk.injEq,zs]
 constructor
 ·rintro ⟨h1,h2,h3,h4,h5,h6,h7⟩;exact ⟨h1,h2,h3,h4,h5,h6,trivial,trivial,h7⟩
 ·rintro ⟨h1,h2,h3,h4,h5,h6,_,_,h7⟩;exact ⟨h1,h2,h3,h4,h5,h6,h7⟩
def DT(c:Ts):Bool:=and (leB 4 c.bits) (and (leB c.bits 5) (and (leB 0 c.sym) (and (leB c.sym 258) (and (leB 0 c.now) (and (leB c.now 15) (and (leB 0 c.way) (leB c.way 2)))))))
theorem HE{c:Ts} : DT c=true↔qJ c:=by
 rw [zC]
 unfold DT
 simp only [Bool.and_eq_true,tT,decide_eq_true_eq]
def aai(c:Ts):Bool:=or (Ks c) (and (DT c) (and (knB c.l c.sym.toNat) (decide (fM c))))
theorem XF{c:Ts}(h:c.l.length=258):aai c=decide (Vld c):=by
 rw [Bool.eq_iff_iff,decide_eq_true_eq]
 unfold aai Vld
 rw [Pe h]
 simp only [Bool.or_eq_true,Bool.and_eq_true,decide_eq_true_eq,HE,DS,h]
 constructor
 ·rintro (h1 | ⟨h1,h2,h3⟩)
  ·exact .inl h1
  ·refine .inr ⟨h1,fun s hs=>⟨(h2 s hs).1,fun hh=>(h2 s hs).2 ⟨?_,hh.2⟩⟩,h3⟩
   have:=hh.1;have:=h1.Aa;omega
 ·rintro (h1 | ⟨h1,h2,h3⟩)
  ·exact .inl h1
  ·refine .inr ⟨h1,fun s hs=>⟨(h2 s hs).1,fun hh=>(h2 s hs).2 ⟨?_,hh.2⟩⟩,h3⟩
   have:=hh.1;have:=h1.Aa;omega
def UF(c:Ts)(bit:Int):Ts×Bool×Int:=aM (and (aai c) (and (not (eqB c.sym 258)) (or (eqB bit 0) (eqB bit 1)))) (aM (bU c bit.toNat).2 ((bU c bit.toNat).1,eqB (bU c bit.toNat).1.sym 258,0) (z0,false,100)) (z0,false,2)
theorem UG{c:Ts}(h:c.l.length=258)(bit:Int):UF c bit=lV c bit:=by
 unfold UF lV aM
 rw [XF h]
 simp only [yZ]
 by_cases hc:Vld c/\c.sym≠258/\(bit=0\/bit=1)
 ·rw [if_pos hc]
  have:(decide (Vld c)&&(!(c.sym==258)&&((bit==0)||(bit==1))))=true:=by
   simp only [Bool.and_eq_true,Bool.or_eq_true,decide_eq_true_eq,beq_iff_eq,Bool.not_eq_true',beq_eq_false_iff_ne]
   exact hc
  rw [this]
  simp only []
  cases hn:(bU c bit.toNat).2 with
  | true=>
   simp only [if_true]
   congr 2
  | false=>rfl
 ·rw [if_neg hc]
  have:(decide (Vld c)&&(!(c.sym==258)&&((bit==0)||(bit==1))))=false:=by
   rw [Bool.eq_false_iff]
   simp only [ne_eq,Bool.and_eq_true,Bool.or_eq_true,decide_eq_true_eq,beq_iff_eq,Bool.not_eq_true',beq_eq_false_iff_ne]
   exact hc
  rw [this]
def four(l:List Value)(k:Value->Value->Value->Value->Option Value):Option Value:=match l with
 | [a,b,c,d]=>k a b c d
 | _=>none
theorem Pf{l:List Value}{k:Value->Value->Value->Value->Option Value}{r:Value}(h:four l k=some r):∃ a b c d,l=[a,b,c,d]/\k a b c d=some r:=by
 unfold four at h
 split at h
 ·exact ⟨_,_,_,_,rfl,h⟩
 ·cases h
def acQ(q:Ts×Bool×Int):Value:=.tuple (Array.mk [.agg (Array.mk (tsC q.1)),.bool q.2.1,.int .i64 q.2.2])
def YF(fr:Fr)(_:St):Option Value:=arg2 fr fun v b=>zc v fun cs=>Z8 258 cs.toList fun l rest=>four rest fun s bi no wa=>qE s fun s=>qE bi fun bi=>qE no fun no=>qE wa fun wa=>qE b fun bit=>some (acQ (UF ⟨l,s,bi,no,wa⟩ bit))
theorem UH{args:List Value}{σ:St}{v:Value}(h:YF (cj 0 args) { σ with ak:=[] } = some v)(hF:Fit σ.heap.length σ.lock σ.hid):aN env (.func 154) args σ=some (v,σ):=by
 obtain ⟨a,b,e1,h1⟩:=O2 h
 clear h
 subst e1
 obtain ⟨cs,e2,h2⟩:=jN h1
 clear h1
 subst e2
 obtain ⟨l,rest,hl,hlen,hb,h3⟩:=BN h2
 clear h2
 obtain ⟨v1,v2,v3,v4,e3,h4⟩:=Pf h3
 clear h3
 subst e3
 obtain ⟨s,e4,s0,s1,h5⟩:=dw h4
 obtain ⟨bi,e5,b0,b1,h6⟩:=dw h5
 obtain ⟨no,e6,n0,n1,h7⟩:=dw h6
 obtain ⟨wa,e7,w0,w1,h8⟩:=dw h7
 obtain ⟨bit,e8,_,_,h9⟩:=dw h8
 clear h4 h5 h6 h7 h8
 subst e4 e5 e6 e7 e8
 cases h9
 obtain ⟨cs⟩:=cs
 simp only at hl
 subst hl
 rw [UG (c:=⟨l,s,bi,no,wa⟩) hlen]
 exact tI (c:=⟨l,s,bi,no,wa⟩) (hp:=σ.heap) (L:=σ.lock) (H:=σ.hid) (d:=σ.ak) ⟨hlen,hb,s0,s1,b0,b1,n0,n1,w0,w1⟩ hF
def HF:List Nat->Nat:=@List.rec Nat (fun _=>Nat) 0 (fun a _ ih=>Nat.lor (Nat.pow 2 a) ih)
theorem uf(j:Nat):∀ l:List Nat,(HF l).testBit j=decide (j∈l)
 | []=>by show Nat.testBit 0 j=_;simp
 | a::l=>by
  show (2 ^ a|||HF l).testBit j=_
  rw [Nat.testBit_or,uf j l,Nat.testBit_two_pow]
  by_cases h:a=j
  ·subst h;simp
  ·have:¬ j=a:=fun e=>h e.symm
   simp [h,this]
def vbF(l:List Nat):Bool:=Nat.beq (HF l) (Nat.sub (Nat.pow 2 256) 1)
theorem aaj{l:List Nat}(h:By l):vbF l=TmM.vb l:=by
 rw [Bool.eq_iff_iff,TmM.Jw]
 unfold vbF
 constructor
 ·intro hb j hj
  have e:HF l=2 ^ 256 - 1:=Nat.eq_of_beq_eq_true hb
  have:=uf j l
  rw [e,Nat.testBit_two_pow_sub_one] at this
  have h2:decide (j∈l)=true:=by rw [<- this];exact decide_eq_true hj
  exact of_decide_eq_true h2
 ·intro hh
  have e:HF l=2 ^ 256 - 1:=by
   apply Nat.eq_of_testBit_eq
   intro j
   rw [uf,Nat.testBit_two_pow_sub_one,decide_eq_decide]
   exact ⟨fun hm=>h j hm,hh j⟩
  rw [e]
  exact Nat.beq_refl _
def Mq(fr:Fr)(_:St):Option Value:=arg1 fr fun v=>zc v fun cs=>u8K cs.toList fun l=>grd (Nat.beq (dW l) 256) (some (.bool (vbF l)))
theorem Kt{args:List Value}{σ:St}{v:Value}(h:Mq (cj 0 args) { σ with ak:=[] } = some v)(hF:Fit σ.heap.length σ.lock σ.hid):aN env (.func 184) args σ=some (v,σ):=by
 obtain ⟨a,rfl,h⟩:=tZ h
 obtain ⟨cs,rfl,h⟩:=jN h
 obtain ⟨l,hl,hb,h⟩:=oF h
 obtain ⟨h1,h2⟩:=sC h
 have h1:=Nat.eq_of_beq_eq_true h1
 rw [cz] at h1
 cases h2
 obtain ⟨cs⟩:=cs
 simp only at hl
 subst hl
 rw [aaj hb]
 exact TmM.nY (hp:=σ.heap) (L:=σ.lock) (H:=σ.hid) (d:=σ.ak) h1 hb hF
end
end TpN
namespace TpN
open Go Go.RowKit AM af ArA
noncomputable section
def six(l:List Value)(k:Value->Value->Value->Value->Value->Value->Option Value):Option Value:=match l with
 | [a,b,c,d,e,f]=>k a b c d e f
 | _=>none
theorem UI{l:List Value}{k:Value->Value->Value->Value->Value->Value->Option Value}{r:Value}(h:six l k=some r):∃ a b c d e f,l=[a,b,c,d,e,f]/\k a b c d e f=some r:=by
 unfold six at h
 split at h
 ·exact ⟨_,_,_,_,_,_,rfl,h⟩
 ·cases h
def XG(l:List Value)(k:Value->Value->Option Value):Option Value:=match l with
 | [a,b]=>k a b
 | _=>none
theorem BW{l:List Value}{k:Value->Value->Option Value}{r:Value}(h:XG l k=some r):∃ a b,l=[a,b]/\k a b=some r:=by
 unfold XG at h
 split at h
 ·exact ⟨_,_,rfl,h⟩
 ·cases h
def three(l:List Value)(k:Value->Value->Value->Option Value):Option Value:=match l with
 | [a,b,c]=>k a b c
 | _=>none
theorem Ku{l:List Value}{k:Value->Value->Value->Option Value}{r:Value}(h:three l k=some r):∃ a b c,l=[a,b,c]/\k a b c=some r:=by
 unfold three at h
 split at h
 ·exact ⟨_,_,_,rfl,h⟩
 ·cases h
theorem Pg{v:Value}{f:Addr->Option Value}{r:Value}(h:tS v f none=some r):∃ a,v=.pointer (some a)/\f a=some r:=by
 rw [jD] at h
 split at h
 ·exact ⟨_,rfl,h⟩
 ·cases h
theorem BX{α:Type}{l:List α}{i:Nat}{k:α->Option Value}{r:Value}(h:r5 l i k=some r):∃ a,l[i]?=some a/\k a=some r:=by
 rw [jC,Option.bind_eq_some_iff] at h
 exact h
theorem vh{b:Blk}{k:Nat->Bool->List Value->Option Value}{r:Value}(h:Du b k=some r):∃ g pl cs,b=.cells g pl cs/\k g pl cs=some r:=by
 cases b with
 | cells g pl cs=>exact ⟨_,_,_,rfl,h⟩
 | _=>cases h
def slP(v:Value)(k:Addr->Nat->Nat->Option Value):Option Value:=slE v fun oa n e=>@Option.rec Addr (fun _=>Option Value) none (fun a=>k a n e) oa
theorem UJ{v:Value}{k:Addr->Nat->Nat->Option Value}{r:Value}(h:slP v k=some r):∃ a n e,v=.slice (some a) n e/\k a n e=some r:=by
 cases v<;>try (cases h;done)
 rename_i a n e
 cases a with
 | none=>cases h
 | some a=>exact ⟨_,_,_,rfl,h⟩
def u8V(v:Value)(k:Nat->Option Value):Option Value:=nE v (fun d n=>aM (Nat.beq (j6 d) 4) (gp (fun m=>aM (Nat.ble m 255) (k m) none) (fun _=>none) n) none) none
theorem UK{v:Value}{k:Nat->Option Value}{r:Value}(h:u8V v k=some r):∃ m:Nat,v=.int .u8 m/\m < 256/\k m=some r:=by
 cases v<;>try (cases h;done)
 rename_i d n
 unfold u8V at h
 rw [j5] at h
 unfold aM at h
 cases hd:Nat.beq (j6 d) 4 with
 | false=>rw [hd] at h;cases h
 | true=>
  rw [hd] at h
  have:d=.u8:=lS (b:=.u8) hd
  subst this
  cases n with
  | negSucc m=>cases h
  | ofNat m=>
   simp only [gp] at h
   cases hm:Nat.ble m 255 with
   | false=>rw [hm] at h;cases h
   | true=>
    rw [hm] at h
    have:=Nat.le_of_ble_eq_true hm
    exact ⟨m,rfl,by omega,h⟩
def DU(hid:List Nat)(r q:Nat)(o sp:Nat×Option Nat)(g1 g2:Nat)(pl1 pl2:Bool)(n e:Nat)(bs:List Nat)(live jr s m t z kk p:Int):Prop:=
 o=(0,some 0)/\sp=(0,some 0)/\g1=0/\g2=0/\pl1=false/\pl2=true/\n=bs.length/\e=1/\r≠q/\hid.contains r=false/\hid.contains q=false/\0<=live/\live<=bs.length/\0<=jr/\jr<=bs.length/\bs.length<=1048576 /\
 0<=s/\0<=m/\s+m<=live/\m<=65536/\1<=kk/\0<=p/\p<=m/\DQ ⟨bs,live,jr⟩ s m t z kk=true
instance (hid:List Nat) (r q:Nat) (o sp:Nat×Option Nat) (g1 g2:Nat) (pl1 pl2:Bool) (n e:Nat) (bs:List Nat) (live jr s m t z kk p:Int):Decidable (DU hid r q o sp g1 g2 pl1 pl2 n e bs live jr s m t z kk p):=by unfold DU;infer_instance
def acR(bs:List Nat)(live jr s m t z kk p:Int)(c:Nat):Value:=.tuple (Array.mk [.int .i64 (base ⟨bs,live,jr⟩ t z kk.toNat c p.toNat+tail ((bs.drop s.toNat).take m.toNat) kk.toNat c p.toNat:Nat),.int .i64 (p.toNat%kk.toNat:Nat),.bool true])
def UL(fr:Fr)(σ:St):Option Value:=six (Uj fr) fun a s1 s2 kk c p=>
 tS a (fun ad=>zc s1 fun c1=>XG c1.toList fun x1 x2=>zc s2 fun c2=>XG c2.toList fun y1 y2=>
  qE x1 fun s=>qE x2 fun m=>qE y1 fun t=>qE y2 fun z=>qE kk fun kk=>qE p fun p=>u8V c fun c=>
  r5 σ.heap ad.block fun b1=>Du b1 fun g1 pl1 cs1=>three cs1 fun sl lv pk=>slP sl fun ad2 n e=>qE lv fun live=>qE pk fun jr=>
  r5 σ.heap ad2.block fun b2=>Du b2 fun g2 pl2 cs2=>u8K cs2 fun bs=>
  grd (decide (DU σ.hid ad.block ad2.block (ad.off,ad.spot) (ad2.off,ad2.spot) g1 g2 pl1 pl2 n e bs live jr s m t z kk p)) (some (acR bs live jr s m t z kk p c))) none
theorem dS{α:Type}{l:List α}{i:Nat}{a:α}(h:l[i]?=some a):l.set i a=l:=by
 apply List.ext_getElem?
 intro j
 rw [List.getElem?_set]
 split
 ·rename_i e;subst e
  split
  ·exact h.symm
  ·rename_i hlt;rw [List.getElem?_eq_none (by omega)]
 ·rfl
theorem UM{args:List Value}{σ:St}{v:Value}(h:UL (cj 0 args) { σ with ak:=[] } = some v)(hF:Fit σ.heap.length σ.lock σ.hid):aN env (.func 254) args σ=some (v,σ):=by
 unfold UL at h
 rw [Ht] at h
 obtain ⟨a,s1,s2,kk,c,p,e1,h1⟩:=UI h
 clear h
 subst e1
 obtain ⟨ad,e2,h2⟩:=Pg h1
 obtain ⟨c1,e3,h3⟩:=jN h2
 obtain ⟨x1,x2,e4,h4⟩:=BW h3
 obtain ⟨c2,e5,h5⟩:=jN h4
 obtain ⟨y1,y2,e6,h6⟩:=BW h5
 obtain ⟨s,e7,_,_,h7⟩:=dw h6
 obtain ⟨m,e8,_,_,h8⟩:=dw h7
 obtain ⟨t,e9,_,_,h9⟩:=dw h8
 obtain ⟨z,e10,_,_,h10⟩:=dw h9
 obtain ⟨k,e11,_,_,h11⟩:=dw h10
 obtain ⟨p,e12,_,_,h12⟩:=dw h11
 obtain ⟨c,e13,hc,h13⟩:=UK h12
 obtain ⟨b1,f1,h14⟩:=BX h13
 obtain ⟨g1,pl1,cs1,e14,h15⟩:=vh h14
 obtain ⟨sl,lv,pk,e15,h16⟩:=Ku h15
 obtain ⟨ad2,n,e,e16,h17⟩:=UJ h16
 obtain ⟨live,e17,_,_,h18⟩:=dw h17
 obtain ⟨jr,e18,_,_,h19⟩:=dw h18
 obtain ⟨b2,f2,h20⟩:=BX h19
 obtain ⟨g2,pl2,cs2,e19,h21⟩:=vh h20
 obtain ⟨bs,e20,hb,h22⟩:=oF h21
 obtain ⟨h23,h24⟩:=sC h22
 clear h1 h2 h3 h4 h5 h6 h7 h8 h9 h10 h11 h12 h13 h14 h15 h16 h17 h18 h19 h20 h21 h22
 obtain ⟨c1⟩:=c1
 obtain ⟨c2⟩:=c2
 obtain ⟨r,ro,rs⟩:=ad
 obtain ⟨q,qo,qs⟩:=ad2
 simp only at e4 e6
 subst e2 e3 e4 e5 e6 e7 e8 e9 e10 e11 e12 e13 e14 e15 e16 e17 e18 e19 e20
 have hk:=of_decide_eq_true h23
 unfold DU at hk
 simp only [Prod.mk.injEq] at hk
 obtain ⟨⟨rfl,rfl⟩,⟨rfl,rfl⟩,rfl,rfl,rfl,rfl,rfl,rfl,hne,hr,hq,l0,l1,p0,p1,hsz,s0,m0,hsm,hm,k1,pp0,pp1,hv⟩:=hk
 simp only at f1 f2
 obtain ⟨sN,rfl⟩:=Int.eq_ofNat_of_zero_le s0
 obtain ⟨mN,rfl⟩:=Int.eq_ofNat_of_zero_le m0
 obtain ⟨kN,rfl⟩:=Int.eq_ofNat_of_zero_le (show 0<=k by omega)
 obtain ⟨pN,rfl⟩:=Int.eq_ofNat_of_zero_le pp0
 have hput:put σ.heap r q ⟨bs,live,jr⟩=σ.heap:=by
  unfold put
  rw [dS (show σ.heap[q]?=some (byB ⟨bs,live,jr⟩) from f2),dS (show σ.heap[r]?=some (arB q ⟨bs,live,jr⟩) from f1)]
 have hx:((bs.drop sN).take mN).length=mN:=by simp;omega
 have ok:iM σ.heap.length r q σ.hid ⟨bs,live,jr⟩:=⟨(List.getElem?_eq_some_iff.1 f1).1,(List.getElem?_eq_some_iff.1 f2).1,hne,hb,l0,l1,p0,p1,hsz,hr,hq⟩
 have hold:zE ⟨bs,live,jr⟩ sN ((bs.drop sN).take mN):=⟨by rw [hx];exact hsm,fun i hi=>by
  rw [List.getElem_take,List.getElem_drop,List.getElem?_eq_getElem]⟩
 have hw:=Pd (hp:=σ.heap) (L:=σ.lock) (H:=σ.hid) (d:=σ.ak) hF ok (s:=sN) (c:=c) (p:=pN) (kk:=kN) (t:=t) (z:=z) hold (by rw [hx];omega) (by rw [hx];exact hv) (by omega) (by rw [hx];omega) hc
 rw [hx,hput] at hw
 cases h24
 exact hw
end
end TpN
namespace af
open Go AM
def aak:AFn:=⟨(.seq (.region [
 D 0 (.mv (Kb false))])
 (.seq (.region [
 D 10 (.bS true 1 6 (List.replicate 6 (.int .u8 0)) [(0,1,(C (.int .u8 98))),(1,1,(C (.int .u8 97))),(2,1,(C (.int .u8 110))),(3,1,(C (.int .u8 97))),(4,1,(C (.int .u8 110))),(5,1,(C (.int .u8 97)))]),
 D 11 (.mark (T 10)),
 D 12 (.bS false 1 1 [(.slice none 0 0)] [(0,1,(T 11))]),
 D 13 (.call 12 [(Ki 6),(Ki 6),(T 12),(Ki 4)]),
 Mv 9 13,
 D 14 (.ext (T 9) 0),
 D 15 (.ext (T 9) 1),
 Mv 1 14,
 Mv 2 15])
 (.seq (.region [
 Mv 17 1,
 D 18 (.call 13 [(T 17),(Ki 6),(Ki 1),(Ki 6)]),
 Mv 16 18,
 D 19 (.ext (T 16) 0),
 D 20 (.ext (T 16) 1),
 D 21 (.ext (T 16) 2),
 D 22 (.ext (T 16) 3),
 Mv 3 19,
 Mv 4 20,
 Mv 5 21,
 Mv 6 22])
 (.seq (.region [
 D 24 (.bS true 1 6 (List.replicate 6 (.int .u8 0)) [(0,1,(C (.int .u8 98))),(1,1,(C (.int .u8 97))),(2,1,(C (.int .u8 110))),(3,1,(C (.int .u8 97))),(4,1,(C (.int .u8 110))),(5,1,(C (.int .u8 97)))]),
 D 25 (.mark (T 24)),
 D 26 (.call 15 [(T 25)]),
 Mv 23 26,
 D 27 (.ext (T 23) 0),
 D 28 (.ext (T 23) 1),
 Mv 7 27,
 Mv 8 28])
 (.seq (.region [
 Mv 29 2,
 Mv 30 29,
 Gd 31 30 true (.mv (T 6)),
 D 32 (.pick (T 30) (T 31) (Kb false)),
 Mv 33 32,
 Gd 34 33 true (.mv (T 4)),
 Gd 35 33 true (.bin .eql (T 34) (C (.int .u8 3))),
 D 36 (.pick (T 33) (T 35) (Kb false)),
 Mv 37 36,
 Gd 38 37 true (.mv (T 5)),
 Gd 39 37 true (.bin .eql (T 38) (Ki 0)),
 D 40 (.pick (T 37) (T 39) (Kb false)),
 Mv 41 40,
 Gd 42 41 true (.mv (T 3)),
 Gd 43 41 true (.p7 (T 42)),
 Gd 44 41 true (.bin .eql (T 43) (C (.string ⟨#[98,97,110,97,110,97]⟩))),
 D 45 (.pick (T 41) (T 44) (Kb false)),
 Mv 46 45,
 Gd 47 46 true (.mv (T 7)),
 Gd 48 46 true (.p7 (T 47)),
 Gd 49 46 true (.bin .eql (T 48) (C (.string ⟨#[97,110,110,98,97,97]⟩))),
 D 50 (.pick (T 46) (T 49) (Kb false)),
 Mv 51 50,
 Gd 52 51 true (.mv (T 8)),
 Gd 53 51 true (.bin .eql (T 52) (Ki 4)),
 D 54 (.pick (T 51) (T 53) (Kb false)),
 Mv 55 54,
 Gd 56 55 true (.mv (T 1)),
 Gd 57 55 true (.bS true 1 6 (List.replicate 6 (.int .u8 0)) [(0,1,(C (.int .u8 98))),(1,1,(C (.int .u8 97))),(2,1,(C (.int .u8 110))),(3,1,(C (.int .u8 97))),(4,1,(C (.int .u8 110))),(5,1,(C (.int .u8 97)))]),
 Gd 58 55 true (.mark (T 57)),
 Gd 59 55 true (.call 14 [(T 56),(T 58)]),
 D 60 (.pick (T 55) (T 59) (Kb false)),
 Mv 0 60])
 .ret))))),[.tmp 0]⟩
theorem Mr:aE Tryz.prog Tryz.f10=some aak:=by kernel_rfl
end af
namespace TpL
open Go Go.RowKit AM af TpN
def acS:Value:=.agg (Array.mk [.int .u32 0,.int .u32 1996959894,.int .u32 3993919788,.int .u32 2567524794,.int .u32 124634137,.int .u32 1886057615,.int .u32 3915621685,.int .u32 2657392035,.int .u32 249268274,.int .u32 2044508324,.int .u32 3772115230,.int .u32 2547177864,.int .u32 162941995,.int .u32 2125561021,.int .u32 3887607047,.int .u32 2428444049,.int .u32 498536548,.int .u32 1789927666,.int .u32 4089016648,.int .u32 2227061214,.int .u32 450548861,.int .u32 1843258603,.int .u32 4107580753,.int .u32 2211677639,.int .u32 325883990,.int .u32 1684777152,.int .u32 4251122042,.int .u32 2321926636,.int .u32 335633487,.int .u32 1661365465,.int .u32 4195302755,.int .u32 2366115317,.int .u32 997073096,.int .u32 1281953886,.int .u32 3579855332,.int .u32 2724688242,.int .u32 1006888145,.int .u32 1258607687,.int .u32 3524101629,.int .u32 2768942443,.int .u32 901097722,.int .u32 1119000684,.int .u32 3686517206,.int .u32 2898065728,.int .u32 853044451,.int .u32 1172266101,.int .u32 3705015759,.int .u32 2882616665,.int .u32 651767980,.int .u32 1373503546,.int .u32 3369554304,.int .u32 3218104598,.int .u32 565507253,.int .u32 1454621731,.int .u32 3485111705,.int .u32 3099436303,.int .u32 671266974,.int .u32 1594198024,.int .u32 3322730930,.int .u32 2970347812,.int .u32 795835527,.int .u32 1483230225,.int .u32 3244367275,.int .u32 3060149565,.int .u32 1994146192,.int .u32 31158534,.int .u32 2563907772,.int .u32 4023717930,.int .u32 1907459465,.int .u32 112637215,.int .u32 2680153253,.int .u32 3904427059,.int .u32 2013776290,.int .u32 251722036,.int .u32 2517215374,.int .u32 3775830040,.int .u32 2137656763,.int .u32 141376813,.int .u32 2439277719,.int .u32 3865271297,.int .u32 1802195444,.int .u32 476864866,.int .u32 2238001368,.int .u32 4066508878,.int .u32 1812370925,.int .u32 453092731,.int .u32 2181625025,.int .u32 4111451223,.int .u32 1706088902,.int .u32 314042704,.int .u32 2344532202,.int .u32 4240017532,.int .u32 1658658271,.int .u32 366619977,.int .u32 2362670323,.int .u32 4224994405,.int .u32 1303535960,.int .u32 984961486,.int .u32 2747007092,.int .u32 3569037538,.int .u32 1256170817,.int .u32 1037604311,.int .u32 2765210733,.int .u32 3554079995,.int .u32 1131014506,.int .u32 879679996,.int .u32 2909243462,.int .u32 3663771856,.int .u32 1141124467,.int .u32 855842277,.int .u32 2852801631,.int .u32 3708648649,.int .u32 1342533948,.int .u32 654459306,.int .u32 3188396048,.int .u32 3373015174,.int .u32 1466479909,.int .u32 544179635,.int .u32 3110523913,.int .u32 3462522015,.int .u32 1591671054,.int .u32 702138776,.int .u32 2966460450,.int .u32 3352799412,.int .u32 1504918807,.int .u32 783551873,.int .u32 3082640443,.int .u32 3233442989,.int .u32 3988292384,.int .u32 2596254646,.int .u32 62317068,.int .u32 1957810842,.int .u32 3939845945,.int .u32 2647816111,.int .u32 81470997,.int .u32 1943803523,.int .u32 3814918930,.int .u32 2489596804,.int .u32 225274430,.int .u32 2053790376,.int .u32 3826175755,.int .u32 2466906013,.int .u32 167816743,.int .u32 2097651377,.int .u32 4027552580,.int .u32 2265490386,.int .u32 503444072,.int .u32 1762050814,.int .u32 4150417245,.int .u32 2154129355,.int .u32 426522225,.int .u32 1852507879,.int .u32 4275313526,.int .u32 2312317920,.int .u32 282753626,.int .u32 1742555852,.int .u32 4189708143,.int .u32 2394877945,.int .u32 397917763,.int .u32 1622183637,.int .u32 3604390888,.int .u32 2714866558,.int .u32 953729732,.int .u32 1340076626,.int .u32 3518719985,.int .u32 2797360999,.int .u32 1068828381,.int .u32 1219638859,.int .u32 3624741850,.int .u32 2936675148,.int .u32 906185462,.int .u32 1090812512,.int .u32 3747672003,.int .u32 2825379669,.int .u32 829329135,.int .u32 1181335161,.int .u32 3412177804,.int .u32 3160834842,.int .u32 628085408,.int .u32 1382605366,.int .u32 3423369109,.int .u32 3138078467,.int .u32 570562233,.int .u32 1426400815,.int .u32 3317316542,.int .u32 2998733608,.int .u32 733239954,.int .u32 1555261956,.int .u32 3268935591,.int .u32 3050360625,.int .u32 752459403,.int .u32 1541320221,.int .u32 2607071920,.int .u32 3965973030,.int .u32 1969922972,.int .u32 40735498,.int .u32 2617837225,.int .u32 3943577151,.int .u32 1913087877,.int .u32 83908371,.int .u32 2512341634,.int .u32 3803740692,.int .u32 2075208622,.int .u32 213261112,.int .u32 2463272603,.int .u32 3855990285,.int .u32 2094854071,.int .u32 198958881,.int .u32 2262029012,.int .u32 4057260610,.int .u32 1759359992,.int .u32 534414190,.int .u32 2176718541,.int .u32 4139329115,.int .u32 1873836001,.int .u32 414664567,.int .u32 2282248934,.int .u32 4279200368,.int .u32 1711684554,.int .u32 285281116,.int .u32 2405801727,.int .u32 4167216745,.int .u32 1634467795,.int .u32 376229701,.int .u32 2685067896,.int .u32 3608007406,.int .u32 1308918612,.int .u32 956543938,.int .u32 2808555105,.int .u32 3495958263,.int .u32 1231636301,.int .u32 1047427035,.int .u32 2932959818,.int .u32 3654703836,.int .u32 1088359270,.int .u32 936918000,.int .u32 2847714899,.int .u32 3736837829,.int .u32 1202900863,.int .u32 817233897,.int .u32 3183342108,.int .u32 3401237130,.int .u32 1404277552,.int .u32 615818150,.int .u32 3134207493,.int .u32 3453421203,.int .u32 1423857449,.int .u32 601450431,.int .u32 3009837614,.int .u32 3294710456,.int .u32 1567103746,.int .u32 711928724,.int .u32 3020668471,.int .u32 3272380065,.int .u32 1510334235,.int .u32 755167117])
def acT:Value:=.agg (Array.mk ((List.range 256).map fun n=>.int .u8 (n:Nat)))
def YG:Value:=.agg (Array.mk (List.replicate 256 (.int .i64 1)))
theorem XH:O0 uO 2000 (.func 160) [] ⟨[],0,[],[]⟩=some (acS,⟨[],0,[],[]⟩):=by kernel_rfl
theorem XI:O0 uO 2000 (.func 136) [] ⟨[],0,[],[]⟩=some (acT,⟨[],0,[],[]⟩):=by kernel_rfl
theorem UN:O0 uO 2000 (.func 229) [] ⟨[],0,[],[]⟩=some (YG,⟨[],0,[],[]⟩):=by kernel_rfl
theorem aO.YH {P : Program} {l : List (Nat × AFn)} {i : Nat} {fn : AFn} {f : Func} (h1 : P.funcs[i]? = some f) (h2 : f.name ≠ "runtime.NumGoroutine") (h3 : aE P f = some fn) (h : aO P (.base l)) : aO P (.base ((i, fn) :: l)) := ⟨_, rfl, fun k g hk => by
 obtain ⟨l',e,h⟩:=h
 cases e
 simp only [cE] at hk
 split at hk
 ·rename_i e;subst e;cases hk;exact ⟨f,h1,h2,uC h3,.inl h3⟩
 ·exact h k g hk⟩
theorem aO.dup{P:Program}{l:List (Nat×AFn)}{i:Nat}{fn:AFn}(h:aO P (.base l))(hi:cE l i=some fn):aO P (.base ((i,fn)::l)):=⟨_,rfl,fun k g hk=>by
 obtain ⟨l',e,h⟩:=h
 cases e
 simp only [cE] at hk
 split at hk
 ·rename_i e;subst e;cases hk;exact h i _ hi
 ·exact h k g hk⟩
noncomputable def dh:List (Nat×AFn):=(160,gW acS)::(136,gW acT)::(229,gW YG)::(266,natFn acP)::(249,natFn Mp)::(154,natFn YF)::(254,natFn UL)::(184,natFn Mq) :: 
 (184,FT)::(240,cfn Tryz.f240)::(196,cfn Tryz.f196)::(209,cfn Tryz.f209)::(83,cfn Tryz.f83)::(205,nv)::(33,cfn Tryz.f33)::(218,cfn Tryz.f218)::(170,cfn Tryz.f170)::(150,cfn Tryz.f150)::(158,cfn Tryz.f158)::(169,cfn Tryz.f169)::(65,cfn Tryz.f65)::(235,cfn Tryz.f235)::(219,cfn Tryz.f219)::(193,cfn Tryz.f193)::(127,cfn Tryz.f127)::(134,cfn Tryz.f134)::(13,FK)::(47,cfn Tryz.f47)::(115,FL)::(192,R4)::(146,cfn Tryz.f146)::(180,uN)::(66,cfn Tryz.f66)::(46,cfn Tryz.f46)::(208,cfn Tryz.f208)::(62,cfn Tryz.f62)::(239,cfn Tryz.f239)::(48,cfn Tryz.f48)::(98,cfn Tryz.f98)::(31,cfn Tryz.f31)::(322,cfn Tryz.f322)::(156,cfn Tryz.f156)::(153,cfn Tryz.f153)::(236,cfn Tryz.f236)::(207,cfn Tryz.f207)::(203,cfn Tryz.f203)::(234,cfn Tryz.f234)::(168,cfn Tryz.f168)::(94,cfn Tryz.f94)::(103,cfn Tryz.f103)::(109,cfn Tryz.f109)::(125,AS)::(85,cfn Tryz.f85)::(117,cfn Tryz.f117)::(81,cfn Tryz.f81)::(223,FW)::(173,FQ)::(20,Zi)::(137,FN)::(44,cfn Tryz.f44)::(174,cfn Tryz.f174)::(317,cfn Tryz.f317)::(159,cfn Tryz.f159)::(50,cfn Tryz.f50)::(114,AR)::(171,cfn Tryz.f171)::(110,cfn Tryz.f110)::(112,cfn Tryz.f112)::(101,cfn Tryz.f101)::(202,cfn Tryz.f202)::(49,cfn Tryz.f49)::(138,nW)::(70,vn)::(214,cfn Tryz.f214)::(128,cfn Tryz.f128)::(187,AU)::(206,AV)::(126,cfn Tryz.f126)::(10,aak)::uO
noncomputable def aal:Env:=.base dh
set_option maxRecDepth 100000 in
theorem XJ:aO Tryz.prog aal:=
 aO.cons Tryz.func160 (of_decide_eq_true (by kernel_rfl)) (by kernel_rfl) (zu jq mixed Tryz.func160 FP abg (tY XH) (by kernel_rfl)) <|
 aO.cons Tryz.func136 (of_decide_eq_true (by kernel_rfl)) (by kernel_rfl) (zu jq mixed Tryz.func136 FM Yk (tY XI) (by kernel_rfl)) <|
 aO.cons Tryz.func229 (of_decide_eq_true (by kernel_rfl)) (by kernel_rfl) (zu jq mixed Tryz.func229 FX Yl (tY UN) (by kernel_rfl)) <|
 aO.cons Tryz.func266 (of_decide_eq_true (by kernel_rfl)) (by kernel_rfl) (zq jq mixed fun args σ v h hF=>sum_nat h hF) <|
 aO.cons Tryz.func249 (of_decide_eq_true (by kernel_rfl)) (by kernel_rfl) (zq jq mixed fun args σ v h hF=>Kr h hF) <|
 aO.cons Tryz.func154 (of_decide_eq_true (by kernel_rfl)) (by kernel_rfl) (zq jq mixed fun args σ v h hF=>UH h hF) <|
 aO.cons Tryz.func254 (of_decide_eq_true (by kernel_rfl)) (by kernel_rfl) (zq jq mixed fun args σ v h hF=>UM h hF) <|
 aO.cons Tryz.func184 (of_decide_eq_true (by kernel_rfl)) (by kernel_rfl) (zq jq mixed fun args σ v h hF=>Kt h hF) <|
 aO.dup ( aO.dup ( aO.dup ( aO.dup ( aO.dup ( aO.dup ( aO.dup ( aO.dup ( aO.dup ( aO.dup ( aO.dup ( aO.dup ( aO.dup ( aO.dup ( aO.dup ( aO.dup ( aO.dup ( aO.dup ( aO.dup ( aO.dup ( aO.dup ( aO.dup ( aO.dup ( aO.dup ( aO.dup ( aO.dup ( aO.dup ( aO.dup ( aO.dup ( aO.dup ( aO.dup ( aO.dup ( aO.dup ( aO.dup ( aO.dup ( aO.dup ( aO.dup ( aO.dup ( aO.dup ( aO.dup ( aO.dup ( aO.dup ( aO.dup ( aO.dup ( aO.dup ( aO.dup ( aO.dup ( aO.dup ( aO.dup ( aO.dup ( aO.dup ( aO.dup ( aO.dup ( aO.dup ( aO.dup ( aO.dup ( aO.dup ( aO.dup ( aO.dup ( aO.dup ( aO.dup ( aO.dup ( aO.dup ( aO.dup ( aO.dup ( aO.dup ( aO.dup ( aO.dup ( aO.dup ( aO.dup ((aO.YH Tryz.func10 (of_decide_eq_true (by kernel_rfl)) Mr jq)) (by kernel_rfl)) (by kernel_rfl)) (by kernel_rfl)) (by kernel_rfl)) (by kernel_rfl)) (by kernel_rfl)) (by kernel_rfl)) (by kernel_rfl)) (by kernel_rfl)) (by kernel_rfl)) (by kernel_rfl)) (by kernel_rfl)) (by kernel_rfl)) (by kernel_rfl)) (by kernel_rfl)) (by kernel_rfl)) (by kernel_rfl)) (by kernel_rfl)) (by kernel_rfl)) (by kernel_rfl)) (by kernel_rfl)) (by kernel_rfl)) (by kernel_rfl)) (by kernel_rfl)) (by kernel_rfl)) (by kernel_rfl)) (by kernel_rfl)) (by kernel_rfl)) (by kernel_rfl)) (by kernel_rfl)) (by kernel_rfl)) (by kernel_rfl)) (by kernel_rfl)) (by kernel_rfl)) (by kernel_rfl)) (by kernel_rfl)) (by kernel_rfl)) (by kernel_rfl)) (by kernel_rfl)) (by kernel_rfl)) (by kernel_rfl)) (by kernel_rfl)) (by kernel_rfl)) (by kernel_rfl)) (by kernel_rfl)) (by kernel_rfl)) (by kernel_rfl)) (by kernel_rfl)) (by kernel_rfl)) (by kernel_rfl)) (by kernel_rfl)) (by kernel_rfl)) (by kernel_rfl)) (by kernel_rfl)) (by kernel_rfl)) (by kernel_rfl)) (by kernel_rfl)) (by kernel_rfl)) (by kernel_rfl)) (by kernel_rfl)) (by kernel_rfl)) (by kernel_rfl)) (by kernel_rfl)) (by kernel_rfl)) (by kernel_rfl)) (by kernel_rfl)) (by kernel_rfl)) (by kernel_rfl)) (by kernel_rfl)) (by kernel_rfl)
end TpL
end Go.Proofs.YtgdpefeomemllaaGreat
