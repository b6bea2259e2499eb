/- Conditions: none. -/
import Derived.Test.YtgdpefeomemllaaGreatF4
set_option linter.all false
set_option maxRecDepth 100000
section
namespace Go.Proofs.YtgdpefeomemllaaGreat
namespace ArA
open Go Go.RowKit AM aE
structure dz(hp:List Blk)(r q f L:Nat)(H:List Nat)(A:Arn)(s t z n many:Nat)(x:List Nat):Prop where
 k:bF hp.length r q H A
 hx:eL A s x
 hm:x.length<=65536
 hf:hp[f]?=some (hB r s x.length t z many)
 hr:r≠f
 hq:q≠f
 hid:H.contains f=false
 hw:L<=r/\L<=q
 hwf:L<=f
 hz:(t:Int)+z<=A.live
 hn:4*n<=z
 hs:z<=1048576
 hap:∀ i,i < x.length->s+i < t\/t+4*n<=s+i
section
variable{hp:List Blk}{L:Nat}{H d:List Nat}{r q f:Nat}{A B:Arn}{s t z n m many:Nat}{x:List Nat}{W:Nat->Nat}
theorem dz.words(h:dz hp r q f L H A s t z n many x)(w:Words A B t n W):dz hp r q f L H B s t z n many x:=
 { h with k:=w.ok h.k,hx:=w.holds h.hx h.hap,hz:=by rw [w.live];exact h.hz }
theorem Words.get'{i:Nat}{e:Int}(h:dz hp r q f L H A s t z n many x)(w:Words A B t n W)(hi:i < n)(hb:W i<=x.length)(he:e=(i:Int)):B.cY t z e=W i:=by have:=h.hm;rw [he];exact w.get h.hz h.hn h.hs hi (by omega)
theorem Words.set'{i v:Nat}{e:Int}(h:dz hp r q f L H A s t z n many x)(w:Words A B t n W)(hi:i < n)(he:e=(i:Int)):Words A (B.bI t z e v) t n (upd W i v):=by rw [he];exact w.set h.hz h.k.dn h.hn h.hs hi
theorem YF(hF:Fit hp.length L H)(h:dz hp r q f L H A s t z n many x)(w:Words A B t n W)(hmn:many<=n)(hW:∀ j,j < many->W j<=x.length){i:Nat}(c1:2*i+2 < many)(c2:slt x (W (2*i+1)) (W (2*i+2))=true) :
  (slt x (W i) (W (2*i+2))=false->∃ fr,aG env cT [0,1] hp.length [(0,.pointer (some ⟨f,0,some 0⟩)),(1,.int .i64 i)] ⟨put hp r q B,L,H,[]⟩=some (.ret,fr,⟨put hp r q B,L,H,[]⟩)) /\
  (slt x (W i) (W (2*i+2))=true->aG env cT [0,1] hp.length [(0,.pointer (some ⟨f,0,some 0⟩)),(1,.int .i64 i)] ⟨put hp r q B,L,H,[]⟩ =
   aG env cT [0,1] hp.length [(0,.pointer (some ⟨f,0,some 0⟩)),(1,.int .i64 (2*(i:Int)+1+1))] ⟨put hp r q ((B.bI t z i (W (2*i+2))).bI t z (2*(i:Int)+1+1) (W i)),L,H,[]⟩):=by
 have o:=h.words w;have k:=o.k;have h1:=o.k.cJ;have h2:=o.k.cI;have hf:=o.hf;have hid:=o.hid;have hr:=o.hr;have hq:=o.hq;have hfl:f < hp.length:=(List.getElem?_eq_some_iff.1 o.hf).1;have hne:=o.k.ne;have hm:=o.hm;have hs:=o.hs;have hn:=o.hn;have w0:=hW i (by omega);have w1:=hW (2*i+1) (by omega);have w2:=hW (2*i+2) (by omega);have g0:B.cY t z (i:Int)=W i:=w.get' h (by omega) w0 rfl;have g1:B.cY t z (2*(i:Int)+1)=W (2*i+1):=w.get' h (by omega) w1 (by omega);have g2:B.cY t z (2*(i:Int)+1+1)=W (2*i+2):=w.get' h (by omega) w2 (by omega);have c3:2*(i:Int)+1+1 < many:=by omega
 have c4:¬ 2*(i:Int)+1+1>=many:=by omega
 have hg:=fun d e=>fH (d:=d) hF o.k hf hr hq hid e;have hl:=fun d a b (ha:a<=x.length) (hb:b<=x.length)=>gw (d:=d) hF o.k o.hx hm hf hr hq hid ha hb;have l1:=fun d=>hl d _ _ w1 w2;have l2:=fun d=>hl d _ _ w0 w2;refine ⟨fun c5=>?_,fun c5=>?_⟩
 ·rw [ak cT.eq_1];simp (disch:=first|exact aQ|fail) only [sy,simprocAttr,-List.reduceReplicate,syR,Int.le_refl,hF.all,k.hr,k.hq,hf,hid,hB,hg,g0,g1,g2,l1,l2,c2,c3,c4,c5];exact ⟨_,rfl⟩
 ·have k1:=o.k.bI (s:=t) (len:=z) (i:=(i:Int)) (v:=W (2*i+2));have s1:=fun d=>dB (d:=d) (i:=(i:Int)) (v:=W (2*i+2)) hF o.k o.hw hf hr hq hid (by omega);have s2:=fun d=>dB (d:=d) (i:=2*(i:Int)+1+1) (v:=W i) hF k1 o.hw hf hr hq hid (by omega);rw [ak cT.eq_1];simp (disch:=first|exact aQ|fail) only [sy,simprocAttr,-List.reduceReplicate,syR,Int.le_refl,hF.all,k.hr,k.hq,hf,hid,hB,hg,g0,g1,g2,l1,l2,c2,c3,c4,c5,s1,s2]
theorem YG(hF:Fit hp.length L H)(h:dz hp r q f L H A s t z n many x)(w:Words A B t n W)(hmn:many<=n)(hW:∀ j,j < many->W j<=x.length){i:Nat}(c1:2*i+2 < many)(c2:slt x (W (2*i+1)) (W (2*i+2))=false) :
  (slt x (W i) (W (2*i+1))=false->∃ fr,aG env cT [0,1] hp.length [(0,.pointer (some ⟨f,0,some 0⟩)),(1,.int .i64 i)] ⟨put hp r q B,L,H,[]⟩=some (.ret,fr,⟨put hp r q B,L,H,[]⟩)) /\
  (slt x (W i) (W (2*i+1))=true->aG env cT [0,1] hp.length [(0,.pointer (some ⟨f,0,some 0⟩)),(1,.int .i64 i)] ⟨put hp r q B,L,H,[]⟩ =
   aG env cT [0,1] hp.length [(0,.pointer (some ⟨f,0,some 0⟩)),(1,.int .i64 (2*(i:Int)+1))] ⟨put hp r q ((B.bI t z i (W (2*i+1))).bI t z (2*(i:Int)+1) (W i)),L,H,[]⟩):=by
 have o:=h.words w;have k:=o.k;have h1:=o.k.cJ;have h2:=o.k.cI;have hf:=o.hf;have hid:=o.hid;have hr:=o.hr;have hq:=o.hq;have hfl:f < hp.length:=(List.getElem?_eq_some_iff.1 o.hf).1;have hne:=o.k.ne;have hm:=o.hm;have hs:=o.hs;have hn:=o.hn;have w0:=hW i (by omega);have w1:=hW (2*i+1) (by omega);have w2:=hW (2*i+2) (by omega);have g0:B.cY t z (i:Int)=W i:=w.get' h (by omega) w0 rfl;have g1:B.cY t z (2*(i:Int)+1)=W (2*i+1):=w.get' h (by omega) w1 (by omega);have g2:B.cY t z (2*(i:Int)+1+1)=W (2*i+2):=w.get' h (by omega) w2 (by omega);have c3:2*(i:Int)+1+1 < many:=by omega
 have c4:¬ 2*(i:Int)+1>=many:=by omega
 have hg:=fun d e=>fH (d:=d) hF o.k hf hr hq hid e;have hl:=fun d a b (ha:a<=x.length) (hb:b<=x.length)=>gw (d:=d) hF o.k o.hx hm hf hr hq hid ha hb;have l1:=fun d=>hl d _ _ w1 w2;have l2:=fun d=>hl d _ _ w0 w1;refine ⟨fun c5=>?_,fun c5=>?_⟩
 ·rw [ak cT.eq_1];simp (disch:=first|exact aQ|fail) only [sy,simprocAttr,-List.reduceReplicate,syR,Int.le_refl,hF.all,k.hr,k.hq,hf,hid,hB,hg,g0,g1,g2,l1,l2,c2,c3,c4,c5];exact ⟨_,rfl⟩
 ·have k1:=o.k.bI (s:=t) (len:=z) (i:=(i:Int)) (v:=W (2*i+1));have s1:=fun d=>dB (d:=d) (i:=(i:Int)) (v:=W (2*i+1)) hF o.k o.hw hf hr hq hid (by omega);have s2:=fun d=>dB (d:=d) (i:=2*(i:Int)+1) (v:=W i) hF k1 o.hw hf hr hq hid (by omega);rw [ak cT.eq_1];simp (disch:=first|exact aQ|fail) only [sy,simprocAttr,-List.reduceReplicate,syR,Int.le_refl,hF.all,k.hr,k.hq,hf,hid,hB,hg,g0,g1,g2,l1,l2,c2,c3,c4,c5,s1,s2]
theorem YH(hF:Fit hp.length L H)(h:dz hp r q f L H A s t z n many x)(w:Words A B t n W)(hmn:many<=n)(hW:∀ j,j < many->W j<=x.length){i:Nat}(c1:¬ 2*i+2 < many)(c2:2*i+1 < many) :
  (slt x (W i) (W (2*i+1))=false->∃ fr,aG env cT [0,1] hp.length [(0,.pointer (some ⟨f,0,some 0⟩)),(1,.int .i64 i)] ⟨put hp r q B,L,H,[]⟩=some (.ret,fr,⟨put hp r q B,L,H,[]⟩)) /\
  (slt x (W i) (W (2*i+1))=true->aG env cT [0,1] hp.length [(0,.pointer (some ⟨f,0,some 0⟩)),(1,.int .i64 i)] ⟨put hp r q B,L,H,[]⟩ =
   aG env cT [0,1] hp.length [(0,.pointer (some ⟨f,0,some 0⟩)),(1,.int .i64 (2*(i:Int)+1))] ⟨put hp r q ((B.bI t z i (W (2*i+1))).bI t z (2*(i:Int)+1) (W i)),L,H,[]⟩):=by
 have o:=h.words w;have k:=o.k;have h1:=o.k.cJ;have h2:=o.k.cI;have hf:=o.hf;have hid:=o.hid;have hr:=o.hr;have hq:=o.hq;have hfl:f < hp.length:=(List.getElem?_eq_some_iff.1 o.hf).1;have hne:=o.k.ne;have hm:=o.hm;have hs:=o.hs;have hn:=o.hn;have w0:=hW i (by omega);have w1:=hW (2*i+1) (by omega);have g0:B.cY t z (i:Int)=W i:=w.get' h (by omega) w0 rfl;have g1:B.cY t z (2*(i:Int)+1)=W (2*i+1):=w.get' h (by omega) w1 (by omega);have c3:¬ 2*(i:Int)+1+1 < many:=by omega
 have c4:¬ 2*(i:Int)+1>=many:=by omega
 have hg:=fun d e=>fH (d:=d) hF o.k hf hr hq hid e;have hl:=fun d a b (ha:a<=x.length) (hb:b<=x.length)=>gw (d:=d) hF o.k o.hx hm hf hr hq hid ha hb;have l2:=fun d=>hl d _ _ w0 w1;refine ⟨fun c5=>?_,fun c5=>?_⟩
 ·rw [ak cT.eq_1];simp (disch:=first|exact aQ|fail) only [sy,simprocAttr,-List.reduceReplicate,syR,Int.le_refl,hF.all,k.hr,k.hq,hf,hid,hB,hg,g0,g1,l2,c3,c4,c5];exact ⟨_,rfl⟩
 ·have k1:=o.k.bI (s:=t) (len:=z) (i:=(i:Int)) (v:=W (2*i+1));have s1:=fun d=>dB (d:=d) (i:=(i:Int)) (v:=W (2*i+1)) hF o.k o.hw hf hr hq hid (by omega);have s2:=fun d=>dB (d:=d) (i:=2*(i:Int)+1) (v:=W i) hF k1 o.hw hf hr hq hid (by omega);rw [ak cT.eq_1];simp (disch:=first|exact aQ|fail) only [sy,simprocAttr,-List.reduceReplicate,syR,Int.le_refl,hF.all,k.hr,k.hq,hf,hid,hB,hg,g0,g1,l2,c3,c4,c5,s1,s2]
theorem YI(hF:Fit hp.length L H)(h:dz hp r q f L H A s t z n many x)(w:Words A B t n W)(hmn:many<=n)(hW:∀ j,j < many->W j<=x.length){i:Nat}(hin:i < many)(c1:¬ 2*i+2 < many)(c2:¬ 2*i+1 < many) :
  ∃ fr,aG env cT [0,1] hp.length [(0,.pointer (some ⟨f,0,some 0⟩)),(1,.int .i64 i)] ⟨put hp r q B,L,H,[]⟩=some (.ret,fr,⟨put hp r q B,L,H,[]⟩):=by
 have o:=h.words w;have k:=o.k;have h1:=o.k.cJ;have h2:=o.k.cI;have hf:=o.hf;have hid:=o.hid;have hr:=o.hr;have hq:=o.hq;have hfl:f < hp.length:=(List.getElem?_eq_some_iff.1 o.hf).1;have hne:=o.k.ne;have hs:=o.hs;have hn:=o.hn;have c3:¬ 2*(i:Int)+1+1 < many:=by omega
 have c4:2*(i:Int)+1>=many:=by omega
 rw [ak cT.eq_1];simp (disch:=first|exact aQ|fail) only [sy,simprocAttr,-List.reduceReplicate,syR,Int.le_refl,hF.all,k.hr,k.hq,hf,hid,hB,c3,c4];exact ⟨_,rfl⟩
theorem Words.swap{i j:Nat}{e:Int}(h:dz hp r q f L H A s t z n many x)(w:Words A B t n W)(hi:i < n)(hj:j < n)(he:e=(j:Int)):Words A ((B.bI t z i (W j)).bI t z e (W i)) t n (swp W i j):=by have w1:=w.set' (v:=W j) h hi rfl;exact w1.set' (v:=W i) h hj he
theorem pF(hF:Fit hp.length L H)(h:dz hp r q f L H A s t z n many x)(hmn:many<=n):∀ (g:Nat) (W:Nat->Nat) (B:Arn) (i:Nat),Words A B t n W->(∀ j,j < many->W j<=x.length)->i < many->many<=i+g->∃ fr C,
  aG env cT [0,1] hp.length [(0,.pointer (some ⟨f,0,some 0⟩)),(1,.int .i64 i)] ⟨put hp r q B,L,H,[]⟩=some (.ret,fr,⟨put hp r q C,L,H,[]⟩)/\Words A C t n (iY (slt x) many g W i)
 | 0,W,B,i,w,hW,hi,hg=>by omega
 | g+1,W,B,i,w,hW,hi,hg=>by
  have hsw:∀ j,j < many->∀ a,a < many->swp W i j a<=x.length:=fun j hj a ha=>by
   rw [dZ];split
   ·exact hW _ hi
   split
   ·exact hW _ hj
   ·exact hW _ ha
  unfold iY;by_cases c1:2*i+2 < many
  ·cases c2:slt x (W (2*i+1)) (W (2*i+2)) with
   | true=>
    have hk:kid (slt x) W many i=2*i+2:=if_pos ⟨c1,c2⟩;rw [hk];obtain ⟨a1,a2⟩:=YF hF h w hmn hW c1 c2;cases c3:slt x (W i) (W (2*i+2)) with
    | false=>
     rw [if_pos (.inr rfl)];obtain ⟨fr,e⟩:=a1 c3;exact ⟨fr,B,e,w⟩
    | true=>
     rw [if_neg (by simp;omega),a2 c3];obtain ⟨fr,C',e1,e2⟩:=pF hF h hmn g _ _ (2*i+2) (w.swap h (i:=i) (j:=2*i+2) (e:=2*(i:Int)+1+1) (by omega) (by omega) (by omega)) (hsw _ c1) c1 (by omega);exact ⟨fr,C',by rw [<- e1];rfl,e2⟩
   | false=>
    have hk:kid (slt x) W many i=2*i+1:=if_neg (fun c=>by rw [c2] at c;cases c.2);rw [hk];obtain ⟨a1,a2⟩:=YG hF h w hmn hW c1 c2;cases c3:slt x (W i) (W (2*i+1)) with
    | false=>
     rw [if_pos (.inr rfl)];obtain ⟨fr,e⟩:=a1 c3;exact ⟨fr,B,e,w⟩
    | true=>
     rw [if_neg (by simp;omega),a2 c3];obtain ⟨fr,C',e1,e2⟩:=pF hF h hmn g _ _ (2*i+1) (w.swap h (i:=i) (j:=2*i+1) (e:=2*(i:Int)+1) (by omega) (by omega) (by omega)) (hsw _ (by omega)) (by omega) (by omega);exact ⟨fr,C',by rw [<- e1];rfl,e2⟩
  ·have hk:kid (slt x) W many i=2*i+1:=if_neg (fun c=>c1 c.1);rw [hk];by_cases c2:2*i+1 < many
   ·obtain ⟨a1,a2⟩:=YH hF h w hmn hW c1 c2;cases c3:slt x (W i) (W (2*i+1)) with
    | false=>
     rw [if_pos (.inr rfl)];obtain ⟨fr,e⟩:=a1 c3;exact ⟨fr,B,e,w⟩
    | true=>
     rw [if_neg (by simp;omega),a2 c3];obtain ⟨fr,C',e1,e2⟩:=pF hF h hmn g _ _ (2*i+1) (w.swap h (i:=i) (j:=2*i+1) (e:=2*(i:Int)+1) (by omega) (by omega) (by omega)) (hsw _ (by omega)) (by omega) (by omega);exact ⟨fr,C',by rw [<- e1];rfl,e2⟩
   ·rw [if_pos (.inl (by omega))];obtain ⟨fr,e⟩:=YI hF h w hmn hW hi c1 c2;exact ⟨fr,B,e,w⟩
theorem BB(hF:Fit hp.length L H)(h:dz hp r q f L H A s t z n many x)(hmn:many<=n)(w:Words A B t n W)(hW:∀ j,j < many->W j<=x.length)(h0:0 < many):∃ C,
  (∀ d,aN env (.func 178) [.pointer (some ⟨f,0,some 0⟩),.int .i64 0] ⟨put hp r q B,L,H,d⟩=some (.tuple #[],⟨put hp r q C,L,H,d⟩))/\Words A C t n (iY (slt x) many many W 0):=by have k:=(h.words w).k;have h1:=k.cJ;have h2:=k.cI;have hne:=k.ne;obtain ⟨fr,C',e1,e2⟩:=pF hF h hmn many W B 0 w hW h0 (by omega);simp only [Int.natCast_zero] at e1;refine ⟨C',fun d=>?_,e2⟩;rw [av 178 _ _ aau];simp (disch:=first|exact aQ|fail) only [sy,simprocAttr,-List.reduceReplicate,syR,Int.le_refl,hF.all,k.hr,k.hq,RC,e1]
end
end ArA
end Go.Proofs.YtgdpefeomemllaaGreat
end
section
namespace Go.Proofs.YtgdpefeomemllaaGreat
namespace ArA
open Go Go.RowKit AM aE
section
variable{hp:List Blk}{L:Nat}{H d:List Nat}{r q f:Nat}{A B:Arn}{s t z n m many:Nat}{x:List Nat}{W:Nat->Nat}
theorem dz.to{m2:Nat}(h:dz hp r q f L H A s t z n many x):dz (hp.set f (hB r s x.length t z m2)) r q f L H A s t z n m2 x:=
 { h with k:=h.k.mono (by simp),hf:=by rw [List.getElem?_set_self (List.getElem?_eq_some_iff.1 h.hf).1] }
theorem Om(hF:Fit hp.length L H)(h:dz hp r q f L H A s t z n many x)(w:Words A B t n W)(hmn:many<=n)(hW:∀ j,j < many->W j<=x.length){i:Nat}(hi:i < many)(h0:0 < i)(hm:many<=65537) :
  (slt x (W ((i - 1) / 2)) (W i)=false->∃ fr,aG env jw [0,4] hp.length [(0,.pointer (some ⟨f,0,some 0⟩)),(4,.int .i64 i)] ⟨put hp r q B,L,H,[]⟩=some (.ret,fr,⟨put hp r q B,L,H,[]⟩)) /\
  (slt x (W ((i - 1) / 2)) (W i)=true->aG env jw [0,4] hp.length [(0,.pointer (some ⟨f,0,some 0⟩)),(4,.int .i64 i)] ⟨put hp r q B,L,H,[]⟩ =
   aG env jw [0,4] hp.length [(0,.pointer (some ⟨f,0,some 0⟩)),(4,.int .i64 ((i - 1) / 2:Nat))] ⟨put hp r q ((B.bI t z ((i - 1) / 2:Nat) (W i)).bI t z i (W ((i - 1) / 2))),L,H,[]⟩):=by
 have o:=h.words w;have k:=o.k;have h1:=o.k.cJ;have h2:=o.k.cI;have hf:=o.hf;have hid:=o.hid;have hr:=o.hr;have hq:=o.hq;have hfl:f < hp.length:=(List.getElem?_eq_some_iff.1 o.hf).1;have hne:=o.k.ne;have hmx:=o.hm;have hs:=o.hs;have hn:=o.hn;have w0:=hW i (by omega);have w1:=hW ((i - 1) / 2) (by omega);have g0:B.cY t z (i:Int)=W i:=w.get' h (by omega) w0 rfl;have g1:B.cY t z (((i - 1) / 2:Nat):Int)=W ((i - 1) / 2):=w.get' h (by omega) w1 rfl;have c0:(i:Int) > 0:=by omega
 have c1:Int.tdiv ((i:Int) - 1) 2=(((i - 1) / 2:Nat):Int):=by rw [show (i:Int) - 1=((i - 1:Nat):Int) by omega];rfl
 have hg:=fun d e=>fH (d:=d) hF o.k hf hr hq hid e;have l2:=fun d=>gw (d:=d) hF o.k o.hx hmx hf hr hq hid w1 w0;refine ⟨fun c5=>?_,fun c5=>?_⟩
 ·rw [ak jw.eq_1];simp (disch:=first|exact aQ|fail) only [sy,simprocAttr,-List.reduceReplicate,syR,Int.le_refl,hF.all,k.hr,k.hq,hf,hid,hB,hg,g0,g1,l2,c0,c1,c5];exact ⟨_,rfl⟩
 ·have k1:=o.k.bI (s:=t) (len:=z) (i:=(((i - 1) / 2:Nat):Int)) (v:=W i);have s1:=fun d=>dB (d:=d) (i:=(((i - 1) / 2:Nat):Int)) (v:=W i) hF o.k o.hw hf hr hq hid (by omega);have s2:=fun d=>dB (d:=d) (i:=(i:Int)) (v:=W ((i - 1) / 2)) hF k1 o.hw hf hr hq hid (by omega);rw [ak jw.eq_1];simp (disch:=first|exact aQ|fail) only [sy,simprocAttr,-List.reduceReplicate,syR,Int.le_refl,hF.all,k.hr,k.hq,hf,hid,hB,hg,g0,g1,l2,c0,c1,c5,s1,s2]
theorem On(hF:Fit hp.length L H)(h:dz hp r q f L H A s t z n many x)(hmn:many<=n)(hm:many<=65537):∀ (g:Nat) (W:Nat->Nat) (B:Arn) (i:Nat),Words A B t n W->(∀ j,j < many->W j<=x.length)->i < many->i<=g->∃ e fr C,
  aG env jw [0,4] hp.length [(0,.pointer (some ⟨f,0,some 0⟩)),(4,.int .i64 i)] ⟨put hp r q B,L,H,[]⟩=some (e,fr,⟨put hp r q C,L,H,[]⟩)/\(e=.ret\/e=.exit 0)/\Words A C t n (p9 (slt x) g W i):=by
 have stop:∀ (W:Nat->Nat) (B:Arn),Words A B t n W->∃ e fr C,
  aG env jw [0,4] hp.length [(0,.pointer (some ⟨f,0,some 0⟩)),(4,.int .i64 (0:Nat))] ⟨put hp r q B,L,H,[]⟩=some (e,fr,⟨put hp r q C,L,H,[]⟩)/\(e=.ret\/e=.exit 0)/\Words A C t n W:=by intro W B w;have k:=(h.words w).k;refine ⟨.exit 0,?_⟩;rw [ak jw.eq_1];simp (disch:=first|exact aQ|fail) only [sy,simprocAttr,-List.reduceReplicate,syR,Int.le_refl,hF.all,k.hr,k.hq,Int.natCast_zero];exact ⟨_,B,rfl,w⟩
 intro g;induction g with
 | zero=>
  intro W B i w hW hi hg;have e:i=0:=by omega
  subst e;exact stop W B w
 | succ g ih=>
  intro W B i w hW hi hg;unfold p9;by_cases c0:i=0
  ·subst c0;rw [if_pos rfl];exact stop W B w
  rw [if_neg c0];obtain ⟨a1,a2⟩:=Om hF h w hmn hW hi (by omega) hm;cases c3:slt x (W ((i - 1) / 2)) (W i) with
  | false=>
   rw [if_pos rfl];obtain ⟨fr,e⟩:=a1 c3;exact ⟨_,fr,B,e,.inl rfl,w⟩
  | true=>
   rw [if_neg (by simp),a2 c3];refine ih _ _ ((i - 1) / 2) ?_ (fun a ha=>?_) (by omega) (by omega)
   ·exact w.swap h (i:=(i - 1) / 2) (j:=i) (e:=i) (by omega) (by omega) rfl
   ·rw [dZ];split
    ·exact hW _ (by omega)
    split
    ·exact hW _ hi
    ·exact hW _ ha
theorem Oo(hF:Fit hp.length L H)(h:dz hp r q f L H A s t z n many x)(hmn:many < n)(hm:many<=65536)(w:Words A B t n W)(hW:∀ j,j < many->W j<=x.length){e:Nat}(he:e<=x.length):∃ C,
  (∀ d,aN env (.func 176) [.pointer (some ⟨f,0,some 0⟩),.int .i64 e] ⟨put hp r q B,L,H,d⟩=some (.tuple #[],⟨put (hp.set f (hB r s x.length t z (many+1))) r q C,L,H,d⟩))/\Words A C t n (p9 (slt x) many (upd W many e) many):=by
 have o:=h.words w;have k:=o.k;have h1:=o.k.cJ;have h2:=o.k.cI;have hf:=o.hf;have hid:=o.hid;have hr:=o.hr;have hq:=o.hq;have hfl:f < hp.length:=(List.getElem?_eq_some_iff.1 o.hf).1;have hne:=o.k.ne;have hmx:=o.hm;have hs:=o.hs;have hn:=o.hn;have hw:=o.hw;have s1:=fun d=>dB (d:=d) (i:=(many:Int)) (v:=e) hF o.k o.hw hf hr hq hid (by omega);have w1:=w.set' (v:=e) h hmn (rfl:(many:Int)=_);have h3:=h.to (m2:=many+1);have hF3:Fit (hp.set f (hB r s x.length t z (many+1))).length L H:=hF.mono (by simp);obtain ⟨e',fr,C',e1,e2,e3⟩:=On hF3 h3 (by omega) (by omega) many (upd W many e) _ many w1 (fun j hj=>by
  unfold upd;split
  ·exact he
  ·exact hW j (by omega)) (by omega) (Nat.le_refl _)
 simp only [List.length_set] at e1;refine ⟨C',fun d=>?_,e3⟩;have hfL:(f < L)=False:=eq_false (by have:=o.hwf;omega);have bK:=jI (hp:=hp) (A:=B.bI t z many e) (b:=hB r s x.length t z (many+1)) hr hq;have ec:((many+1:Nat):Int)=(many:Int)+1:=by omega
 unfold hB at bK e1 hf ⊢;rw [ec] at bK e1 ⊢;rw [av 176 _ _ aas];rcases e2 with rfl | rfl
 ·simp (disch:=first|exact aQ|fail) only [sy,simprocAttr,-List.reduceReplicate,syR,Int.le_refl,hF.all,k.hr,k.hq,KV,hf,hid,hfL,s1,bK,e1]
 ·simp (disch:=first|exact aQ|fail) only [sy,simprocAttr,-List.reduceReplicate,syR,Int.le_refl,hF.all,k.hr,k.hq,KV,hf,hid,hfL,s1,bK,e1]
end
end ArA
end Go.Proofs.YtgdpefeomemllaaGreat
end
namespace Go.Proofs.YtgdpefeomemllaaGreat
namespace ArA
open Go Go.RowKit AM aE
def mZ(x:List Nat)(last:Int)(e:Nat):Bool:=decide (last < 0)||slt x last.toNat e
structure gW(hp:List Blk)(r q f l g:Nat)(H:List Nat)(last:Int):Prop where
 hl:hp[l]?=some (.cells 0 true [.int .i64 last])
 hg:hp[g]?=some (.cells 0 false [.pointer (some ⟨f,0,some 0⟩)])
 lr:r≠l
 lq:q≠l
 lf:f≠l
 gr:r≠g
 gq:q≠g
 gf:f≠g
 lH:H.contains l=false
 gH:H.contains g=false
section
variable{hp:List Blk}{L:Nat}{H d:List Nat}{r q f l g:Nat}{A B:Arn}{s t z n m many room:Nat}{x:List Nat}{W:Nat->Nat}{last:Int}
theorem gW.to{b:Blk}(a:gW hp r q f l g H last):gW (hp.set f b) r q f l g H last:=
 { a with hl:=by rw [List.getElem?_set_ne a.lf];exact a.hl,hg:=by rw [List.getElem?_set_ne a.gf];exact a.hg }
theorem rZ(hF:Fit hp.length L H)(o:dz hp r q f L H B s t z n many x)(a:gW hp r q f l g H last)(fA:last < 0\/last<=x.length){e:Nat}(he:e<=x.length) :
  aN env (.func 121) [.int .i64 e,.pointer (some ⟨l,0,some 0⟩),.pointer (some ⟨g,0,some 0⟩)] ⟨put hp r q B,L,H,d⟩=some (.bool (mZ x last e),⟨put hp r q B,L,H,d⟩):=by
 have k:=o.k;have h1:=k.cJ;have h2:=k.cI;have hne:=k.ne;have hl:=a.hl;have hg:=a.hg;have hll:l < hp.length:=(List.getElem?_eq_some_iff.1 hl).1;have hgl:g < hp.length:=(List.getElem?_eq_some_iff.1 hg).1;have lr:=a.lr;have lq:=a.lq;have gr:=a.gr;have gq:=a.gq;have lH:=a.lH;have gH:=a.gH;rw [av 121 _ _ aad];by_cases c:last < 0
 ·have e1:mZ x last e=true:=by unfold mZ;simp [c]
  rw [e1];simp (disch:=first|exact aQ|fail) only [sy,simprocAttr,-List.reduceReplicate,syR,Int.le_refl,hF.all,k.hr,k.hq,KR,hl,hg,lH,gH,c]
 ·have e0:last=(last.toNat:Int):=by omega
  have e1:mZ x last e=slt x last.toNat e:=by unfold mZ;simp [c]
  rw [e1];generalize last.toNat=j at *;subst e0;have w:=gw (d:=[]) hF o.k o.hx o.hm o.hf o.hr o.hq o.hid (i:=j) (j:=e) (by omega) he;simp (disch:=first|exact aQ|fail) only [sy,simprocAttr,-List.reduceReplicate,syR,Int.le_refl,hF.all,k.hr,k.hq,KR,hl,hg,lH,gH,c,w]
theorem Oq(hF:Fit hp.length L H)(o:dz hp r q f L H B s t z n many x)(a:gW hp r q f l g H last)(fA:last < 0\/last<=x.length){e:Nat}(he:e<=x.length)(ha:mZ x last e=false) :
  aG env dS [16,15,2,0,1] hp.length [(16,.int .i64 e),(15,.int .i64 ((x.length:Int)+1)),(2,.func (.func 121) #[] #[.pointer (some ⟨l,0,some 0⟩),.pointer (some ⟨g,0,some 0⟩)]),(0,.pointer (some ⟨f,0,some 0⟩)),(1,.int .i64 room)] ⟨put hp r q B,L,H,[]⟩=aG env dS [16,15,2,0,1] hp.length [(16,.int .i64 ((e:Int)+1)),(15,.int .i64 ((x.length:Int)+1)),(2,.func (.func 121) #[] #[.pointer (some ⟨l,0,some 0⟩),.pointer (some ⟨g,0,some 0⟩)]),(0,.pointer (some ⟨f,0,some 0⟩)),(1,.int .i64 room)] ⟨put hp r q B,L,H,[]⟩:=by
 have k:=o.k;have h1:=k.cJ;have h2:=k.cI;have hne:=k.ne;have hf:=o.hf;have hid:=o.hid;have hr:=o.hr;have hq:=o.hq;have hfl:f < hp.length:=(List.getElem?_eq_some_iff.1 o.hf).1;have hmx:=o.hm;have hs:=o.hs;have hn:=o.hn;have hw:=o.hw;have c0:(e:Int) < (x.length:Int)+1:=by omega
 have aw:=fun d=>rZ (d:=d) hF o a fA he;rw [ak dS.eq_1];simp (disch:=first|exact aQ|fail) only [sy,simprocAttr,-List.reduceReplicate,syR,Int.le_refl,hF.all,k.hr,k.hq,c0,aw,ha]
theorem Ot(hF:Fit hp.length L H)(o:dz hp r q f L H B s t z n many x)(a:gW hp r q f l g H last)(fA:last < 0\/last<=x.length){e:Nat}(he:e<=x.length)(ha:mZ x last e=true)(hmr:many < room){Z:Arn}
  (hri:∀ d,aN env (.func 176) [.pointer (some ⟨f,0,some 0⟩),.int .i64 e] ⟨put hp r q B,L,H,d⟩=some (.tuple #[],⟨put (hp.set f (hB r s x.length t z (many+1))) r q Z,L,H,d⟩)) :
  aG env dS [16,15,2,0,1] hp.length [(16,.int .i64 e),(15,.int .i64 ((x.length:Int)+1)),(2,.func (.func 121) #[] #[.pointer (some ⟨l,0,some 0⟩),.pointer (some ⟨g,0,some 0⟩)]),(0,.pointer (some ⟨f,0,some 0⟩)),(1,.int .i64 room)] ⟨put hp r q B,L,H,[]⟩=aG env dS [16,15,2,0,1] hp.length [(16,.int .i64 ((e:Int)+1)),(15,.int .i64 ((x.length:Int)+1)),(2,.func (.func 121) #[] #[.pointer (some ⟨l,0,some 0⟩),.pointer (some ⟨g,0,some 0⟩)]),(0,.pointer (some ⟨f,0,some 0⟩)),(1,.int .i64 room)] ⟨put (hp.set f (hB r s x.length t z (many+1))) r q Z,L,H,[]⟩:=by
 have k:=o.k;have h1:=k.cJ;have h2:=k.cI;have hne:=k.ne;have hf:=o.hf;have hid:=o.hid;have hr:=o.hr;have hq:=o.hq;have hfl:f < hp.length:=(List.getElem?_eq_some_iff.1 o.hf).1;have hmx:=o.hm;have hs:=o.hs;have hn:=o.hn;have hw:=o.hw;have c0:(e:Int) < (x.length:Int)+1:=by omega
 have aw:=fun d=>rZ (d:=d) hF o a fA he;have c1:(many:Int) < room:=by omega
 rw [ak dS.eq_1];unfold hB at hf;simp (disch:=first|exact aQ|fail) only [sy,simprocAttr,-List.reduceReplicate,syR,Int.le_refl,hF.all,k.hr,k.hq,c0,aw,ha,hf,hid,c1,hri]
theorem Ou(hF:Fit hp.length L H)(o:dz hp r q f L H B s t z n many x)(a:gW hp r q f l g H last)(fA:last < 0\/last<=x.length){e:Nat}(he:e<=x.length)(ha:mZ x last e=true)(hmr:¬ many < room){w0:Nat}(hw0:B.cY t z 0=w0)(hw1:w0<=x.length)(hls:slt x e w0=false) :
  aG env dS [16,15,2,0,1] hp.length [(16,.int .i64 e),(15,.int .i64 ((x.length:Int)+1)),(2,.func (.func 121) #[] #[.pointer (some ⟨l,0,some 0⟩),.pointer (some ⟨g,0,some 0⟩)]),(0,.pointer (some ⟨f,0,some 0⟩)),(1,.int .i64 room)] ⟨put hp r q B,L,H,[]⟩=aG env dS [16,15,2,0,1] hp.length [(16,.int .i64 ((e:Int)+1)),(15,.int .i64 ((x.length:Int)+1)),(2,.func (.func 121) #[] #[.pointer (some ⟨l,0,some 0⟩),.pointer (some ⟨g,0,some 0⟩)]),(0,.pointer (some ⟨f,0,some 0⟩)),(1,.int .i64 room)] ⟨put hp r q B,L,H,[]⟩:=by
 have k:=o.k;have h1:=k.cJ;have h2:=k.cI;have hne:=k.ne;have hf:=o.hf;have hid:=o.hid;have hr:=o.hr;have hq:=o.hq;have hfl:f < hp.length:=(List.getElem?_eq_some_iff.1 o.hf).1;have hmx:=o.hm;have hs:=o.hs;have hn:=o.hn;have hw:=o.hw;have c0:(e:Int) < (x.length:Int)+1:=by omega
 have aw:=fun d=>rZ (d:=d) hF o a fA he;have c1:¬ (many:Int) < room:=by omega
 have gg:=fun d=>fH (d:=d) hF o.k hf hr hq hid 0;have ll:=fun d=>gw (d:=d) hF o.k o.hx hmx hf hr hq hid he hw1;rw [ak dS.eq_1];unfold hB at hf;simp (disch:=first|exact aQ|fail) only [sy,simprocAttr,-List.reduceReplicate,syR,Int.le_refl,hF.all,k.hr,k.hq,c0,aw,ha,hf,hid,c1,gg,hw0,ll,hls]
theorem Ov(hF:Fit hp.length L H)(o:dz hp r q f L H B s t z n many x)(a:gW hp r q f l g H last)(fA:last < 0\/last<=x.length){e:Nat}(he:e<=x.length)(ha:mZ x last e=true)(hmr:¬ many < room){w0:Nat}(hw0:B.cY t z 0=w0)(hw1:w0<=x.length)(hls:slt x e w0=true){Z:Arn}
  (hsi:∀ d,aN env (.func 178) [.pointer (some ⟨f,0,some 0⟩),.int .i64 0] ⟨put hp r q (B.bI t z 0 e),L,H,d⟩=some (.tuple #[],⟨put hp r q Z,L,H,d⟩)) :
  aG env dS [16,15,2,0,1] hp.length [(16,.int .i64 e),(15,.int .i64 ((x.length:Int)+1)),(2,.func (.func 121) #[] #[.pointer (some ⟨l,0,some 0⟩),.pointer (some ⟨g,0,some 0⟩)]),(0,.pointer (some ⟨f,0,some 0⟩)),(1,.int .i64 room)] ⟨put hp r q B,L,H,[]⟩=aG env dS [16,15,2,0,1] hp.length [(16,.int .i64 ((e:Int)+1)),(15,.int .i64 ((x.length:Int)+1)),(2,.func (.func 121) #[] #[.pointer (some ⟨l,0,some 0⟩),.pointer (some ⟨g,0,some 0⟩)]),(0,.pointer (some ⟨f,0,some 0⟩)),(1,.int .i64 room)] ⟨put hp r q Z,L,H,[]⟩:=by
 have k:=o.k;have h1:=k.cJ;have h2:=k.cI;have hne:=k.ne;have hf:=o.hf;have hid:=o.hid;have hr:=o.hr;have hq:=o.hq;have hfl:f < hp.length:=(List.getElem?_eq_some_iff.1 o.hf).1;have hmx:=o.hm;have hs:=o.hs;have hn:=o.hn;have hw:=o.hw;have c0:(e:Int) < (x.length:Int)+1:=by omega
 have aw:=fun d=>rZ (d:=d) hF o a fA he;have c1:¬ (many:Int) < room:=by omega
 have gg:=fun d=>fH (d:=d) hF o.k hf hr hq hid 0;have ll:=fun d=>gw (d:=d) hF o.k o.hx hmx hf hr hq hid he hw1;have ss:=fun d=>dB (d:=d) (i:=0) (v:=e) hF o.k o.hw hf hr hq hid (by omega);rw [ak dS.eq_1];unfold hB at hf;simp (disch:=first|exact aQ|fail) only [sy,simprocAttr,-List.reduceReplicate,syR,Int.le_refl,hF.all,k.hr,k.hq,c0,aw,ha,hf,hid,c1,gg,hw0,ll,hls,ss,hsi]
end
end ArA
namespace ArA
open Go Go.RowKit AM aE
section
variable{hp:List Blk}{L:Nat}{H d:List Nat}{r q f l g:Nat}{A B:Arn}{s t z n m many room:Nat}{x:List Nat}{W:Nat->Nat}{last:Int}
theorem dz.same(h:dz hp r q f L H A s t z n many x):hp.set f (hB r s x.length t z many)=hp:=by
 apply List.ext_getElem?;intro i;by_cases c:f=i
 ·subst c;rw [List.getElem?_set_self (List.getElem?_eq_some_iff.1 h.hf).1,h.hf]
 ·rw [List.getElem?_set_ne c]
def clo(l g:Nat):Value:=.func (.func 121) #[] #[.pointer (some ⟨l,0,some 0⟩),.pointer (some ⟨g,0,some 0⟩)]
theorem GH(fA:last < 0\/last<=x.length)(hrn:room<=n)(hr1:1<=room)(hrm:room<=65537):∀ (c e:Nat) (hp:List Blk) (B:Arn) (W:Nat->Nat) (many:Nat),Fit hp.length L H->e+c=x.length+1 ->
  dz hp r q f L H A s t z n many x->gW hp r q f l g H last->Words A B t n W->lp (slt x) (mZ x last) room W many e->∃ fr Z V k,
  aG env dS [16,15,2,0,1] hp.length [(16,.int .i64 e),(15,.int .i64 ((x.length:Int)+1)),(2,clo l g),(0,.pointer (some ⟨f,0,some 0⟩)),(1,.int .i64 room)] ⟨put hp r q B,L,H,[]⟩ =
   some (.exit 0,fr,⟨put (hp.set f (hB r s x.length t z k)) r q Z,L,H,[]⟩)/\Words A Z t n V/\lp (slt x) (mZ x last) room V k (x.length+1):=by
 intro c;induction c with
 | zero=>
  intro e hp B W many hF he h a w gth;have e1:e=x.length+1:=by omega
  subst e1;have k:=(h.words w).k;have c0:¬ ((x.length:Int)+1) < (x.length:Int)+1:=by omega
  have ec:((x.length+1:Nat):Int)=(x.length:Int)+1:=by omega
  have:∃ fr,aG env dS [16,15,2,0,1] hp.length [(16,.int .i64 ((x.length:Int)+1)),(15,.int .i64 ((x.length:Int)+1)),(2,clo l g),(0,.pointer (some ⟨f,0,some 0⟩)),(1,.int .i64 room)] ⟨put hp r q B,L,H,[]⟩=some (.exit 0,fr,⟨put hp r q B,L,H,[]⟩):=by rw [ak dS.eq_1];simp (disch:=first|exact aQ|fail) only [sy,simprocAttr,-List.reduceReplicate,syR,Int.le_refl,hF.all,k.hr,k.hq,c0];exact ⟨_,rfl⟩
  obtain ⟨fr,hfr⟩:=this;exact ⟨fr,B,W,many,by rw [h.same,ec];exact hfr,w,gth⟩
 | succ c ih=>
  intro e hp B W many hF he h a w gth;have o:=h.words w;have hel:e<=x.length:=by omega
  have hin:∀ j,j < many->W j < e:=fun j hj=>(gth.from_ _ ⟨j,hj,rfl⟩).1;have ec:(e:Int)+1=((e+1:Nat):Int):=by omega
  cases ha:mZ x last e with
  | false=>
   have:=Oq hF o a fA hel (room:=room) ha;unfold clo at *;rw [this,ec];exact ih (e+1) hp B W many hF (by omega) h a w (gth.skip ha)
  | true=>
   by_cases c1:many < room
   ·obtain ⟨Z,z1,z2⟩:=Oo hF h (by omega) (by omega) w (fun j hj=>by have:=hin j hj;omega) hel;have:=Ot hF o a fA hel (room:=room) ha c1 z1;obtain ⟨fr,Z2,V,k2,i1,i2⟩:=ih (e+1) _ Z _ (many+1) (hF.mono (by simp)) (by omega) (h.to (m2:=many+1)) a.to z2 (gth.acQ (rY x) ha c1);rw [List.length_set,List.set_set] at i1;unfold clo at *;exact ⟨fr,Z2,V,k2,by rw [this,ec];exact i1,i2⟩
   ·have em:many=room:=by have:=gth.le;omega
    have hw0:B.cY t z 0=W 0:=w.get' h (by omega) (by have:=hin 0 (by omega);omega) rfl;have hw1:W 0<=x.length:=by have:=hin 0 (by omega);omega
    cases hls:slt x e (W 0) with
    | false=>
     have:=Ou hF o a fA hel (room:=room) ha c1 hw0 hw1 hls;unfold clo at *;rw [this,ec];refine ih (e+1) hp B W many hF (by omega) h a w ?_;rw [em] at gth ⊢;exact gth.full (rY x) (Dl x) (by omega) (by omega) hls
    | true=>
     obtain ⟨Z,z1,z2⟩:=BB hF h (by omega) (w.set' (v:=e) (i:=0) (e:=0) h (by omega) rfl) (fun j hj=>by
      unfold upd;split
      ·exact hel
      ·have:=hin j hj;omega) (by omega)
     have:=Ov hF o a fA hel (room:=room) ha c1 hw0 hw1 hls z1;unfold clo at *;rw [this,ec];refine ih (e+1) hp Z _ many hF (by omega) h a z2 ?_;rw [em] at gth ⊢;exact gth.swap (rY x) (Dl x) (by omega) (by omega) ha hls
theorem GI(hF:Fit hp.length L H)(fA:last < 0\/last<=x.length)(hrn:room<=n)(hr1:1<=room)(hrm:room<=65537)
  (h:dz hp r q f L H A s t z n many x) (a:gW hp r q f l g H last) (w:Words A B t n W):∃ Z V k,
  (∀ d,aN env (.func 120) [.pointer (some ⟨f,0,some 0⟩),.int .i64 room,clo l g] ⟨put hp r q B,L,H,d⟩ =
   some (.tuple #[],⟨put (hp.set f (hB r s x.length t z k)) r q Z,L,H,d⟩))/\Words A Z t n V/\lp (slt x) (mZ x last) room V k (x.length+1):=by have h0:=h.to (m2:=0);obtain ⟨fr,Z,V,k2,e1,e2,e3⟩:=GH (A:=A) (last:=last) fA hrn hr1 hrm (x.length+1) 0 _ B W 0 (hF.mono (by simp)) (by omega) h0 (a.to) w lp.nil;refine ⟨Z,V,k2,fun d=>?_,e2,e3⟩;have o:=h.words w;have k:=o.k;have h1:=k.cJ;have h2:=k.cI;have hne:=k.ne;have hf:=o.hf;have hid:=o.hid;have hr:=o.hr;have hq:=o.hq;have hfl:f < hp.length:=(List.getElem?_eq_some_iff.1 o.hf).1;have hfL:(f < L)=False:=eq_false (by have:=o.hwf;omega);have hmx:=o.hm;have bK:=jI (hp:=hp) (A:=B) (b:=hB r s x.length t z 0) hr hq;have hf0:(hp.set f (hB r s x.length t z 0))[f]?=some (hB r s x.length t z 0):=List.getElem?_set_self hfl;rw [List.length_set,List.set_set] at e1;simp only [Int.natCast_zero] at e1;unfold hB at bK hf hf0;simp only [Int.natCast_zero] at bK hf0;unfold hB at e1 ⊢;simp only [Int.natCast_zero] at e1;unfold clo at e1 ⊢;rw [av 120 _ _ aac];simp (disch:=first|exact aQ|fail) only [sy,simprocAttr,-List.reduceReplicate,syR,Int.le_refl,hF.all,k.hr,k.hq,Rv,hf,hid,hfL,bK,hf0,e1]
theorem BC(hF:Fit hp.length L H)(o:dz hp r q f L H B s t z n many x)(h1m:many<=1):∃ fr,
  aG env mJ [3,0] hp.length [(3,.int .i64 m),(0,.pointer (some ⟨f,0,some 0⟩))] ⟨put hp r q B,L,H,[]⟩=some (.exit 0,fr,⟨put hp r q B,L,H,[]⟩)/\fr.get 3=some (.int .i64 m):=by
 have k:=o.k;have h1:=k.cJ;have h2:=k.cI;have hne:=k.ne;have hf:=o.hf;have hid:=o.hid;have hr:=o.hr;have hq:=o.hq;have hfl:f < hp.length:=(List.getElem?_eq_some_iff.1 o.hf).1;have c0:¬ (many:Int) > 1:=by omega
 rw [ak mJ.eq_1];unfold hB at hf;simp (disch:=first|exact aQ|fail) only [sy,simprocAttr,-List.reduceReplicate,syR,Int.le_refl,hF.all,k.hr,k.hq,hf,hid,c0];exact ⟨_,rfl,rfl⟩
theorem Ow(hF:Fit hp.length L H){j:Nat}(o:dz hp r q f L H B s t z n (j+2) x){w0 w1:Nat}(hw0:B.cY t z 0=w0)(hw1:B.cY t z ((j:Int)+1)=w1)(b0:w0<=x.length)(b1:w1<=x.length)(hj:j<=65536){Z:Arn}
  (hsi:∀ d,aN env (.func 178) [.pointer (some ⟨f,0,some 0⟩),.int .i64 0] ⟨put (hp.set f (hB r s x.length t z (j+1))) r q ((B.bI t z 0 w1).bI t z ((j:Int)+1) w0),L,H,d⟩=some (.tuple #[],⟨put (hp.set f (hB r s x.length t z (j+1))) r q Z,L,H,d⟩)) :
  aG env mJ [3,0] hp.length [(3,.int .i64 m),(0,.pointer (some ⟨f,0,some 0⟩))] ⟨put hp r q B,L,H,[]⟩=aG env mJ [3,0] hp.length [(3,.int .i64 m),(0,.pointer (some ⟨f,0,some 0⟩))] ⟨put (hp.set f (hB r s x.length t z (j+1))) r q Z,L,H,[]⟩:=by
 have k:=o.k;have h1:=k.cJ;have h2:=k.cI;have hne:=k.ne;have hf:=o.hf;have hid:=o.hid;have hr:=o.hr;have hq:=o.hq;have hfl:f < hp.length:=(List.getElem?_eq_some_iff.1 o.hf).1;have hfL:(f < L)=False:=eq_false (by have:=o.hwf;omega);have hmx:=o.hm;have bK:=jI (hp:=hp) (A:=B) (b:=hB r s x.length t z (j+1)) hr hq;have hf1:(hp.set f (hB r s x.length t z (j+1)))[f]?=some (hB r s x.length t z (j+1)):=List.getElem?_set_self hfl;have hF1:Fit (hp.set f (hB r s x.length t z (j+1))).length L H:=hF.mono (by simp);have hF2:Fit (hp.set f (hB r s x.length t z (j+1))).length hp.length H:=⟨by simp,by simpa using hF.2⟩;have k1:bF (hp.set f (hB r s x.length t z (j+1))).length r q H B:=k.mono (by simp);have g0:=fun L' d e (hF':Fit (hp.set f (hB r s x.length t z (j+1))).length L' H)=>fH (d:=d) hF' k1 hf1 hr hq hid e;have g1:=fun d e=>g0 L d e hF1;have g2:=fun d e=>g0 hp.length d e hF2;have k2:=k1.bI (s:=t) (len:=z) (i:=0) (v:=w1);have s1:=fun d=>dB (d:=d) (i:=0) (v:=w1) hF1 k1 o.hw hf1 hr hq hid (by omega);have s2:=fun d=>dB (d:=d) (i:=(j:Int)+1) (v:=w0) hF1 k2 o.hw hf1 hr hq hid (by omega);have c0:(j:Int)+2 > 1:=by omega
 have e1:(j:Int)+2 - 1=(j:Int)+1:=by omega
 have ec1:((j+1:Nat):Int)=(j:Int)+1:=by omega
 have ec2:((j+2:Nat):Int)=(j:Int)+2:=by omega
 clear g0;unfold hB at hf hf1 bK s1 s2 g1 g2 hsi ⊢;rw [ec1] at hf1 bK hsi ⊢;simp only [ec1] at s1 s2 g1 g2;rw [ec2] at hf;rw [ak mJ.eq_1];simp (disch:=first|exact aQ|fail) only [sy,simprocAttr,-List.reduceReplicate,syR,Int.le_refl,hF.all,k.hr,k.hq,hf,hf1,hid,hfL,c0,e1,bK,g1,g2,hw0,hw1,s1,s2,hsi]
theorem BD:∀ (j:Nat) (hp:List Blk) (B:Arn) (W:Nat->Nat),Fit hp.length L H->j<=n->j<=x.length+1->dz hp r q f L H A s t z n j x->Words A B t n W->(∀ i,i < j->W i<=x.length)->∃ fr Z k,
  aG env mJ [3,0] hp.length [(3,.int .i64 m),(0,.pointer (some ⟨f,0,some 0⟩))] ⟨put hp r q B,L,H,[]⟩=some (.exit 0,fr,⟨put (hp.set f (hB r s x.length t z k)) r q Z,L,H,[]⟩)/\fr.get 3=some (.int .i64 m)/\Words A Z t n (kG (slt x) j W)
 | 0,hp,B,W,hF,hj,hjx,h,w,hW=>by
  obtain ⟨fr,e1,e2⟩:=BC (m:=m) hF (h.words w) (by omega);exact ⟨fr,B,0,by rw [h.same];exact e1,e2,w⟩
 | 1,hp,B,W,hF,hj,hjx,h,w,hW=>by
  obtain ⟨fr,e1,e2⟩:=BC (m:=m) hF (h.words w) (by omega);exact ⟨fr,B,1,by rw [h.same];exact e1,e2,w⟩
 | j+2,hp,B,W,hF,hj,hjx,h,w,hW=>by
  have hm:=h.hm;have hw0:B.cY t z 0=W 0:=w.get' h (by omega) (hW 0 (by omega)) rfl;have hw1:B.cY t z ((j:Int)+1)=W (j+1):=w.get' h (by omega) (hW (j+1) (by omega)) (by omega);have ws:Words A ((B.bI t z 0 (W (j+1))).bI t z ((j:Int)+1) (W 0)) t n (swp W 0 (j+1)):=by have w1:=w.set' (v:=W (j+1)) (i:=0) (e:=0) h (by omega) rfl;exact w1.set' (v:=W 0) h (i:=j+1) (by omega) (by omega)
  have hs:∀ i,i < j+1->swp W 0 (j+1) i<=x.length:=fun i hi=>by
   rw [dZ];split
   ·exact hW _ (by omega)
   split
   ·exact hW _ (by omega)
   ·exact hW _ (by omega)
  have h1:=h.to (m2:=j+1);have hF1:Fit (hp.set f (hB r s x.length t z (j+1))).length L H:=hF.mono (by simp);obtain ⟨Z,z1,z2⟩:=BB hF1 h1 (by omega) ws hs (by omega);have st:=Ow (m:=m) hF (h.words w) hw0 hw1 (hW 0 (by omega)) (hW (j+1) (by omega)) (by omega) z1;have sm:=mY (lt:=slt x) (j+1) (swp W 0 (j+1)) (j+1) 0 (by omega);obtain ⟨fr,Z2,k2,i1,i2,i3⟩:=BD (j+1) _ Z _ hF1 (by omega) (by omega) h1 z2 (fun i hi=>by obtain ⟨i2,hi2,e⟩:=(sm.mem _).1 ⟨i,hi,rfl⟩;rw [<- e];exact hs i2 hi2)
  rw [List.length_set,List.set_set] at i1;exact ⟨fr,Z2,k2,by rw [st];exact i1,i2,i3⟩
theorem tK(hF:Fit hp.length L H)(h:dz hp r q f L H A s t z n many x)(w:Words A B t n W)(hmn:many<=n)(hmx:many<=x.length+1)(hW:∀ i,i < many->W i<=x.length):∃ Z k,
  (∀ d,aN env (.func 123) [.pointer (some ⟨f,0,some 0⟩)] ⟨put hp r q B,L,H,d⟩ =
   some (.int .i64 many,⟨put (hp.set f (hB r s x.length t z k)) r q Z,L,H,d⟩))/\Words A Z t n (kG (slt x) many W):=by obtain ⟨fr,Z,k2,e1,e2,e3⟩:=BD (A:=A) (m:=many) many hp B W (hF.mono (Nat.le_refl _)) hmn hmx h w hW;refine ⟨Z,k2,fun d=>?_,e3⟩;have o:=h.words w;have k:=o.k;have h1:=k.cJ;have h2:=k.cI;have hne:=k.ne;have hf:=o.hf;have hid:=o.hid;have hr:=o.hr;have hq:=o.hq;have hfl:f < hp.length:=(List.getElem?_eq_some_iff.1 o.hf).1;unfold hB at hf;rw [av 123 _ _ aaf];simp (disch:=first|exact aQ|fail) only [sy,simprocAttr,-List.reduceReplicate,syR,Int.le_refl,hF.all,k.hr,k.hq,Rz,hf,hid,e1,e2]
end
end ArA
namespace ArA
open Go Go.RowKit AM aE
structure r7(A B:Arn)(c:Nat)(l:List Nat):Prop where
 live:B.live=A.live
 cR:B.cR=A.cR
 len:B.bs.length=A.bs.length
 by_:By B.bs
 out:∀ p,p < c\/c+l.length<=p->B.bs[p]?=A.bs[p]?
 at_:∀ i,i < l.length->B.bs[c+i]?=l[i]?
theorem r7.nil{A:Arn}(h:By A.bs)(c:Nat):r7 A A c []:=⟨rfl,rfl,rfl,h,fun _ _=>rfl,fun i hi=>by simp at hi⟩
theorem m8{A:Arn}{c m i v:Nat}(h1:(c:Int)+m<=A.live)(h2:i < m)(h3:A.live<=A.bs.length):A.cL c m i v=⟨A.bs.set (c+i) v,A.live,A.cR⟩:=by
 have hp:A.part c m i 1=true:=by rw [Arn.dM];omega
 unfold Arn.cL;rw [if_pos hp];unfold Arn.setAt;rw [show ((c:Int)+(i:Int)).toNat=c+i by omega,yM (by omega)]
theorem r7.next{A B:Arn}{c m v:Nat}{l:List Nat}(h:r7 A B c l)(h1:(c:Int)+m<=A.live)(h2:l.length < m)(h3:A.live<=A.bs.length)(hv:v < 256):r7 A (B.cL c m l.length v) c (l++[v]):=by
 rw [m8 (by rw [h.live];exact h1) h2 (by rw [h.live,h.len];exact h3)];refine ⟨h.live,h.cR,by show (B.bs.set _ _).length=_;rw [List.length_set,h.len],?_,fun p hp=>?_,fun i hi=>?_⟩
 ·intro y hy;rcases List.mem_or_eq_of_mem_set hy with h4 | rfl
  ·exact h.by_ y h4
  ·exact hv
 ·rw [List.length_append,List.length_singleton] at hp;show (B.bs.set _ _)[p]?=_;rw [List.getElem?_set_ne (by omega)];exact h.out p (by omega)
 ·rw [List.length_append,List.length_singleton] at hi;show (B.bs.set _ _)[c+i]?=_;by_cases e:i=l.length
  ·rw [e,List.getElem?_set_self (by rw [h.len];omega)];simp
  ·rw [List.getElem?_set_ne (by omega),List.getElem?_append_left (by omega)];exact h.at_ i (by omega)
theorem Words.col{A B:Arn}{t n c m i v:Nat}{W:Nat->Nat}(h:Words A B t n W)(h1:(c:Int)+m<=A.live)(h2:i < m)(h3:A.live<=A.bs.length)(hv:v < 256)(hap:c+i < t\/t+4*n<=c+i):Words (A.cL c m i v) (B.cL c m i v) t n W:=by
 rw [m8 h1 h2 h3,m8 (by rw [h.live];exact h1) h2 (by rw [h.live,h.len];exact h3)];refine ⟨h.live,h.cR,by show (B.bs.set _ _).length=(A.bs.set _ _).length;rw [List.length_set,List.length_set,h.len],?_,fun p hp=>?_,fun w hw j hj=>?_⟩
 ·intro y hy;rcases List.mem_or_eq_of_mem_set hy with h4 | rfl
  ·exact h.by_ y h4
  ·exact hv
 ·show (B.bs.set _ _)[p]?=(A.bs.set _ _)[p]?;rw [List.getElem?_set,List.getElem?_set,h.len];split
  ·rfl
  ·exact h.out p hp
 ·show (B.bs.set _ _)[_]?=_;rw [List.getElem?_set_ne (by omega)];exact h.word w hw j hj
section
variable{hp:List Blk}{L:Nat}{H d:List Nat}{r q f l g b5 b6:Nat}{A B:Arn}{s t z n m many room cs i row at_ pas all ix:Nat}{x:List Nat}{W:Nat->Nat}{last:Int}
structure nE(hp:List Blk)(r q f l g b5 b6:Nat)(H:List Nat)(s m cs:Nat):Prop where
 h5:hp[b5]?=some (.cells 0 true [.int .i64 s,.int .i64 m])
 h6:hp[b6]?=some (.cells 0 true [.int .i64 cs,.int .i64 m])
 r5:r≠b5
 q5:q≠b5
 f5:f≠b5
 l5:l≠b5
 r6:r≠b6
 q6:q≠b6
 f6:f≠b6
 l6:l≠b6
 lg:l≠g
 H5:H.contains b5=false
 H6:H.contains b6=false
def Dm(r g l b5 b6 ix row i all room pas at_:Nat):Fr:=[(8,.int .i64 ix),(15,.int .i64 row),(49,.int .i64 i),(48,.int .i64 all),(12,.int .i64 room),(9,.int .i64 pas),(11,.pointer (some ⟨g,0,some 0⟩)),(14,.int .i64 at_),(6,.pointer (some ⟨b6,0,some 0⟩)),(0,arP r),(13,.pointer (some ⟨l,0,some 0⟩)),(5,.pointer (some ⟨b5,0,some 0⟩))]
theorem JD(hF:Fit hp.length L H)(o:dz hp r q f L H B s t z n many x)(a:gW hp r q f l g H last)(b:nE hp r q f l g b5 b6 H s x.length cs)(hlL:L<=l)(hi:i < all)(hall:all<=65537)(hrow:row<=65537)(hw:B.cY t z i=0) :
  aG env mH [8,15,49,48,12,9,11,14,6,0,13,5] hp.length (Dm r g l b5 b6 ix row i all room pas at_) ⟨put hp r q B,L,H,[]⟩ =
  aG env mH [8,15,49,48,12,9,11,14,6,0,13,5] hp.length (Dm r g l b5 b6 row (row+1) (i+1) all room pas at_) ⟨put (hp.set l (.cells 0 true [.int .i64 0])) r q B,L,H,[]⟩:=by
 have k:=o.k;have h1:=k.cJ;have h2:=k.cI;have hne:=k.ne;have hf:=o.hf;have hid:=o.hid;have hr:=o.hr;have hq:=o.hq;have hfl:f < hp.length:=(List.getElem?_eq_some_iff.1 o.hf).1;have hl:=a.hl;have hg:=a.hg;have hll:l < hp.length:=(List.getElem?_eq_some_iff.1 hl).1;have hgl:g < hp.length:=(List.getElem?_eq_some_iff.1 hg).1;have lr:=a.lr;have lq:=a.lq;have gr:=a.gr;have gq:=a.gq;have lH:=a.lH;have gH:=a.gH;have lLf:(l < L)=False:=eq_false (by omega);have c0:(i:Int) < all:=by omega
 have gg:=fun d=>fH (d:=d) hF o.k hf hr hq hid i;have bK:=jI (hp:=hp) (A:=B) (b:=.cells 0 true [.int .i64 0]) lr lq;have hl2:(hp.set l (.cells 0 true [.int .i64 0]))[l]?=some (.cells 0 true [.int .i64 0]):=List.getElem?_set_self hll;have er:((row+1:Nat):Int)=(row:Int)+1:=by omega
 have ei:((i+1:Nat):Int)=(i:Int)+1:=by omega
 unfold Dm;rw [er,ei,ak mH.eq_1];simp (disch:=first|exact aQ|fail) only [sy,simprocAttr,-List.reduceReplicate,syR,Int.le_refl,hF.all,k.hr,k.hq,hl,hl2,hg,lH,gH,lLf,c0,gg,hw,bK,Int.natCast_zero]
theorem Ox(hF:Fit hp.length L H)(o:dz hp r q f L H B s t z n many x)(a:gW hp r q f l g H last)(b:nE hp r q f l g b5 b6 H s x.length cs)(hlL:L<=l)(hi:i < all)(hall:all<=65537)(hrow:row<=65537){e:Nat}(hw:B.cY t z i=e+1)(he:e < x.length)(hat:at_ < x.length)(hwl:L<=r/\L<=q) :
  aG env mH [8,15,49,48,12,9,11,14,6,0,13,5] hp.length (Dm r g l b5 b6 ix row i all room pas at_) ⟨put hp r q B,L,H,[]⟩ =
  aG env mH [8,15,49,48,12,9,11,14,6,0,13,5] hp.length (Dm r g l b5 b6 ix (row+1) (i+1) all room pas (at_+1)) ⟨put (hp.set l (.cells 0 true [.int .i64 (e+1:Nat)])) r q (B.cL cs x.length at_ x[e]),L,H,[]⟩:=by
 have k:=o.k;have h1:=k.cJ;have h2:=k.cI;have hne:=k.ne;have hf:=o.hf;have hid:=o.hid;have hr:=o.hr;have hq:=o.hq;have hfl:f < hp.length:=(List.getElem?_eq_some_iff.1 o.hf).1;have hl:=a.hl;have hg:=a.hg;have hll:l < hp.length:=(List.getElem?_eq_some_iff.1 hl).1;have hgl:g < hp.length:=(List.getElem?_eq_some_iff.1 hg).1;have lr:=a.lr;have lq:=a.lq;have gr:=a.gr;have gq:=a.gq;have lH:=a.lH;have gH:=a.gH;have lLf:(l < L)=False:=eq_false (by omega);have c0:(i:Int) < all:=by omega
 have gg:=fun d=>fH (d:=d) hF o.k hf hr hq hid i;have bK:=jI (hp:=hp) (A:=B) (b:=.cells 0 true [.int .i64 ((e:Int)+1)]) lr lq;have hl2:(hp.set l (.cells 0 true [.int .i64 ((e:Int)+1)]))[l]?=some (.cells 0 true [.int .i64 ((e:Int)+1)]):=List.getElem?_set_self hll;have k1:bF (hp.set l (.cells 0 true [.int .i64 ((e:Int)+1)])).length r q H B:=k.mono (by simp);have hF1:Fit (hp.set l (.cells 0 true [.int .i64 ((e:Int)+1)])).length L H:=hF.mono (by simp);have h5:=b.h5;have h6:=b.h6;have r5:=b.r5;have q5:=b.q5;have l5:=b.l5;have r6:=b.r6;have q6:=b.q6;have l6:=b.l6;have H5:=b.H5;have H6:=b.H6;have hmx:=o.hm;have g5:(hp.set l (.cells 0 true [.int .i64 ((e:Int)+1)]))[b5]?=some (.cells 0 true [.int .i64 s,.int .i64 x.length]):=by rw [List.getElem?_set_ne l5];exact h5
 have g6:(hp.set l (.cells 0 true [.int .i64 ((e:Int)+1)]))[b6]?=some (.cells 0 true [.int .i64 cs,.int .i64 x.length]):=by rw [List.getElem?_set_ne l6];exact h6
 have h5l:b5 < hp.length:=(List.getElem?_eq_some_iff.1 h5).1;have h6l:b6 < hp.length:=(List.getElem?_eq_some_iff.1 h6).1;have by1:=fun d=>eP (d:=d) hF1 k1 s x.length e;have bv:=o.hx.byte he;have xe:x[e] < 256:=by have:=Arn.jx k.by_ s e;have h3:=o.hx.get e he;unfold Arn.slot at this;rw [show ((s:Int)+(e:Int)).toNat=s+e by omega,List.getD_eq_getElem?_getD,h3] at this;exact this
 have sb1:=fun d=>mX (d:=d) hF1 k1 hwl cs x.length at_ x[e] xe;have c1:¬ (e:Int)+1=0:=by omega
 have c2:(e:Int)+1 - 1=e:=by omega
 have ew:((e+1:Nat):Int)=(e:Int)+1:=by omega
 have ea:((at_+1:Nat):Int)=(at_:Int)+1:=by omega
 have er:((row+1:Nat):Int)=(row:Int)+1:=by omega
 have ei:((i+1:Nat):Int)=(i:Int)+1:=by omega
 unfold Dm;rw [er,ei,ew,ea,ak mH.eq_1];simp (disch:=first|exact aQ|fail) only [sy,simprocAttr,-List.reduceReplicate,syR,Int.le_refl,hF.all,k.hr,k.hq,hl,hl2,hg,lH,gH,lLf,c0,gg,hw,bK,ew,c1,c2,g5,g6,H5,H6,by1,bv,sb1]
end
end ArA
namespace AM
open Go Go.RowKit
end AM
namespace ArA
open Go Go.RowKit AM aE
end ArA
namespace AM
open Go Go.RowKit
def bv(b:Nat)(l:List Nat):Value:=if l=[] then .slice none 0 0 else .slice (some ⟨b,0,some l.length⟩) l.length 1
theorem Oy{t o:List Nat}{r:Nat}(hr:r < o.length):bU t (o.take (r+1))=bU t (o.take r)++if o[r]=0 then [] else [t.getD (o[r] - 1) 0]:=by
 rw [List.take_add_one,List.getElem?_eq_getElem hr];unfold bU;rw [List.filter_append,List.map_append];congr 1;by_cases h:o[r]=0
 ·simp [h]
 ·simp [h]
end AM
namespace ArA
open Go Go.RowKit AM aE
end ArA
namespace ArA
open Go Go.RowKit AM aE
def ixO(o:List Nat)(row:Nat):Nat:=if o.idxOf 0 < row then o.idxOf 0 else 0
def fL(o:List Nat)(row:Nat):Int:=if row=0 then -1 else (o.getD (row - 1) 0:Nat)
theorem YJ{x o:List Nat}(ho:Ord x o){row:Nat}(hr:row < o.length)(h0:o[row]=0):o.idxOf 0=row:=by have hm:o.idxOf 0 < o.length:=List.idxOf_lt_length_of_mem (ho.mem.2 (by omega));have h1:o[o.idxOf 0]=0:=List.getElem_idxOf hm;exact (List.getElem_inj ho.nodup).1 (h1.trans h0.symm)
theorem SO{x o:List Nat}(ho:Ord x o){row:Nat}(hr:row < o.length)(h0:o[row]=0):ixO o (row+1)=row:=by unfold ixO;rw [YJ ho hr h0,if_pos (by omega)]
theorem YK{x o:List Nat}(ho:Ord x o){row:Nat}(hr:row < o.length)(h0:o[row]≠0):ixO o (row+1)=ixO o row:=by
 have hm:o.idxOf 0 < o.length:=List.idxOf_lt_length_of_mem (ho.mem.2 (by omega));have h1:o[o.idxOf 0]=0:=List.getElem_idxOf hm;have h2:o.idxOf 0≠row:=fun e=>h0 (by simp only [e] at h1;exact h1);unfold ixO;by_cases c:o.idxOf 0 < row
 ·rw [if_pos c,if_pos (by omega)]
 ·rw [if_neg c,if_neg (by omega)]
theorem Vx{x o:List Nat}(ho:Ord x o)(k:Nat):(bU x (o.take k)).length<=x.length:=by rw [<- yQ ho];unfold bU;rw [List.length_map,List.length_map];exact ((List.take_sublist k o).filter _).length_le
section
variable{L:Nat}{H d:List Nat}{r q f l g b5 b6:Nat}{A:Arn}{s t z n room cs gJ pas all:Nat}{x o:List Nat}{W:Nat->Nat}
theorem gW.last'{hp:List Blk}{last v:Int}(a:gW hp r q f l g H last)(hlg:l≠g):gW (hp.set l (.cells 0 true [.int .i64 v])) r q f l g H v:=
 { a with hl:=by rw [List.getElem?_set_self (List.getElem?_eq_some_iff.1 a.hl).1],hg:=by rw [List.getElem?_set_ne hlg];exact a.hg }
theorem dz.Oz{hp:List Blk}{b:Blk}{A:Arn}{many:Nat}(h:dz hp r q f L H A s t z n many x)(hlf:f≠l):dz (hp.set l b) r q f L H A s t z n many x:=
 { h with k:=h.k.mono (by simp),hf:=by rw [List.getElem?_set_ne (Ne.symm hlf)];exact h.hf }
theorem nE.Oz{hp:List Blk}{b:Blk}{m:Nat}(h:nE hp r q f l g b5 b6 H s m cs):nE (hp.set l b) r q f l g b5 b6 H s m cs:=
 { h with h5:=by rw [List.getElem?_set_ne h.l5];exact h.h5,h6:=by rw [List.getElem?_set_ne h.l6];exact h.h6 }
theorem dz.col{hp:List Blk}{A1:Arn}{many v i:Nat}(h:dz hp r q f L H A1 s t z n many x)(h1:(cs:Int)+x.length<=A1.live)(h2:i < x.length)(hv:v < 256)(hap:∀ p,p < x.length->cs+i≠s+p):dz hp r q f L H (A1.cL cs x.length i v) s t z n many x:=by
 have h3:=h.k.dn;have e:=m8 (v:=v) h1 h2 h3;refine { h with k:=h.k.cL hv,hx:=?_,hz:=by rw [e];exact h.hz };rw [e];exact ⟨h.hx.live,fun p hp=>by show (A1.bs.set _ _)[_]?=_;rw [List.getElem?_set_ne (hap p hp)];exact h.hx.get p hp⟩
theorem JE(ho:Ord x o)(hb:By x)(hlL:L<=l)(hwl:L<=r/\L<=q)(hall:gJ+all<=o.length)(hW:∀ j,j < all->W j=o.getD (gJ+j) 0)(ac8:all<=n)
  (hcl:(cs:Int)+x.length<=A.live) (hcx:∀ i p,i < x.length->p < x.length->cs+i≠s+p) (hct:∀ i,i < x.length->cs+i < t\/t+4*n<=cs+i) {many:Nat} :
  ∀ (c i:Nat) (hp:List Blk) (A1 B:Arn),i+c=all->Fit hp.length L H->dz hp r q f L H A1 s t z n many x->gW hp r q f l g H (fL o (gJ+i))->nE hp r q f l g b5 b6 H s x.length cs->Words A1 B t n W ->
  r7 A A1 cs (bU x (o.take (gJ+i)))->∃ fr A2 B2,
  aG env mH [8,15,49,48,12,9,11,14,6,0,13,5] hp.length (Dm r g l b5 b6 (ixO o (gJ+i)) (gJ+i) i all room pas (bU x (o.take (gJ+i))).length) ⟨put hp r q B,L,H,[]⟩ =
   some (.exit 2,fr,⟨put (hp.set l (.cells 0 true [.int .i64 (fL o (gJ+all))])) r q B2,L,H,[]⟩)/\Words A2 B2 t n W/\r7 A A2 cs (bU x (o.take (gJ+all)))/\dz hp r q f L H A2 s t z n many x /\
   fr.get 8=some (.int .i64 (ixO o (gJ+all)))/\fr.get 15=some (.int .i64 (gJ+all:Nat))/\fr.get 12=some (.int .i64 room)/\fr.get 9=some (.int .i64 pas)/\fr.get 11=some (.pointer (some ⟨g,0,some 0⟩)) /\
   fr.get 14=some (.int .i64 (bU x (o.take (gJ+all))).length)/\fr.get 6=some (.pointer (some ⟨b6,0,some 0⟩))/\fr.get 0=some (arP r)/\fr.get 13=some (.pointer (some ⟨l,0,some 0⟩))/\fr.get 5=some (.pointer (some ⟨b5,0,some 0⟩)):=by
 intro c;induction c with
 | zero=>
  intro i hp A1 B hi hF h a b w cl;have e:i=all:=by omega
  subst e;have hsame:hp.set l (.cells 0 true [.int .i64 (fL o (gJ+i))])=hp:=by
   apply List.ext_getElem?;intro j;by_cases c:l=j
   ·subst c;rw [List.getElem?_set_self (List.getElem?_eq_some_iff.1 a.hl).1,a.hl]
   ·rw [List.getElem?_set_ne c]
  have k:=(h.words w).k;have c0:¬ (i:Int) < i:=by omega
  rw [hsame];unfold Dm;rw [ak mH.eq_1];simp (disch:=first|exact aQ|fail) only [sy,simprocAttr,-List.reduceReplicate,syR,Int.le_refl,hF.all,k.hr,k.hq,c0];exact ⟨_,A1,B,rfl,w,cl,h,rfl,rfl,rfl,rfl,rfl,rfl,rfl,rfl,rfl,rfl⟩
 | succ c ih=>
  intro i hp A1 B hi hF h a b w cl;have hm:=h.hm;have hol:=ho.len;have hro:gJ+i < o.length:=by omega
  have hoi:o[gJ+i]<=x.length:=ho.mem.1 (List.getElem_mem hro);have hWi:W i=o[gJ+i]:=by rw [hW i (by omega),List.getD_eq_getElem?_getD,List.getElem?_eq_getElem hro];rfl
  have hw0:B.cY t z i=W i:=w.get' h (by omega) (by omega) rfl;have hlo:fL o (gJ+i+1)=(o[gJ+i]:Nat):=by unfold fL;rw [if_neg (by omega),Nat.add_sub_cancel,List.getD_eq_getElem?_getD,List.getElem?_eq_getElem hro];rfl
  have hF1:∀ b,Fit (hp.set l b).length L H:=fun b=>hF.mono (by simp);have hs:=Oy (t:=x) hro;by_cases c0:o[gJ+i]=0
  ·have st:=JD (i:=i) (ix:=ixO o (gJ+i)) (room:=room) (pas:=pas) (at_:=(bU x (o.take (gJ+i))).length) (row:=gJ+i) (all:=all) hF (h.words w) a b hlL (by omega) (by omega) (by omega) (by rw [hw0,hWi,c0]);rw [c0] at hlo;rw [if_pos c0,List.append_nil] at hs;have:=ih (i+1) (hp.set l (.cells 0 true [.int .i64 0])) A1 B (by omega) (hF1 _) (h.Oz a.lf) (by rw [<- Nat.add_assoc,hlo];exact a.last' b.lg) b.Oz w (by rw [<- Nat.add_assoc,hs];exact cl);rw [<- Nat.add_assoc,hs,SO ho hro c0,List.length_set,List.set_set] at this;obtain ⟨fr,A2,B2,i1,i2,i3,i4,i5⟩:=this;refine ⟨fr,A2,B2,by rw [st];exact i1,i2,i3,?_,i5⟩;exact { i4 with k:=i4.k.mono (by simp),hf:=h.hf }
  ·obtain ⟨e,he⟩:∃ e,o[gJ+i]=e+1:=⟨o[gJ+i] - 1,by omega⟩;have hel:e < x.length:=by omega
   rw [he] at hlo;rw [if_neg c0,he,Nat.add_sub_cancel] at hs;have hgd:x.getD e 0=x[e]:=by rw [List.getD_eq_getElem?_getD,List.getElem?_eq_getElem hel];rfl
   rw [hgd] at hs;have hat:(bU x (o.take (gJ+i))).length < x.length:=by have:=Vx ho (gJ+i+1);rw [hs,List.length_append,List.length_singleton] at this;omega
   have hl1:(cs:Int)+x.length<=A1.live:=by rw [cl.live];exact hcl
   have xe:x[e] < 256:=hb.get hel;have st:=Ox (i:=i) (ix:=ixO o (gJ+i)) (room:=room) (pas:=pas) (at_:=(bU x (o.take (gJ+i))).length) (row:=gJ+i) (all:=all) hF (h.words w) a b hlL (by omega) (by omega) (by omega) (e:=e) (by rw [hw0,hWi,he]) hel hat hwl;have h':=h.col hl1 hat xe (hcx _ · hat);have w':=w.col hl1 hat h.k.dn xe (hct _ hat);have cl':=cl.next hcl hat (by have:=h.k.dn;rw [cl.live,cl.len] at this;exact this) xe;have:=ih (i+1) (hp.set l (.cells 0 true [.int .i64 (e+1:Nat)])) _ _ (by omega) (hF1 _) (h'.Oz a.lf) (by rw [<- Nat.add_assoc,hlo];exact a.last' b.lg) b.Oz w' (by rw [<- Nat.add_assoc,hs];exact cl');rw [<- Nat.add_assoc,hs,YK ho hro c0,List.length_set,List.set_set,List.length_append,List.length_singleton] at this;obtain ⟨fr,A2,B2,i1,i2,i3,i4,i5⟩:=this;refine ⟨fr,A2,B2,by rw [st];exact i1,i2,i3,?_,i5⟩;exact { i4 with k:=i4.k.mono (by simp),hf:=h.hf }
end
end ArA
namespace ArA
open Go Go.RowKit AM aE
theorem Ord.slt{x o:List Nat}(ho:Ord x o){i j:Nat}(hi:i < o.length)(hj:j < o.length)(hij:i < j):slt x o[i] o[j]=true:=by have:=List.pairwise_iff_getElem.1 ho.sorted i j hi hj hij;unfold ArA.slt;rw [decide_eq_true_eq];exact this
theorem Vy{x o:List Nat}(ho:Ord x o){row:Nat}(hr:row<=o.length)(e:Nat):e∈o.drop row↔e < x.length+1/\mZ x (fL o row) e=true:=by
 have hel:e∈o↔e < x.length+1:=by rw [ho.mem];omega
 by_cases c:row=0
 ·subst c;rw [List.drop_zero,hel];have:mZ x (fL o 0) e=true:=by simp [mZ,fL]
  simp [this]
 ·have hv:row - 1 < o.length:=by omega
  have hl:fL o row=(o[row - 1]:Nat):=by unfold fL;rw [if_neg c,List.getD_eq_getElem?_getD,List.getElem?_eq_getElem hv];rfl
  have ha:mZ x (fL o row) e=slt x o[row - 1] e:=by rw [hl];unfold mZ;simp;omega
  rw [ha];constructor
  ·intro h;obtain ⟨j,hj,rfl⟩:=List.getElem_of_mem h;rw [List.length_drop] at hj;rw [List.getElem_drop];have h3:row+j < o.length:=by omega
   have h4:=ho.mem.1 (List.getElem_mem h3);exact ⟨by omega,Ord.slt ho hv h3 (by omega)⟩
  ·rintro ⟨h1,h2⟩;obtain ⟨j,hj,rfl⟩:=List.getElem_of_mem (hel.2 h1);by_cases c2:row<=j
   ·rw [List.mem_iff_getElem];refine ⟨j - row,by rw [List.length_drop];omega,?_⟩;rw [List.getElem_drop];congr 1;omega
   ·exfalso;by_cases c3:j=row - 1
    ·subst c3;rw [yZ] at h2;cases h2
    ·have:=Ord.slt ho hj hv (by omega);rw [(rY x).asy _ _ this] at h2;cases h2
theorem JF{x o:List Nat}(ho:Ord x o){row room k:Nat}{V:Nat->Nat}(hr:row<=o.length)(g:lp (slt x) (mZ x (fL o row)) room V k (x.length+1)) :
  k=min room (o.length - row)/\∀ j,j < k->kG (slt x) k V j=o.getD (row+j) 0:=by
 have hp:(o.drop row).Pairwise fun a b=>slt x a b=true:=by rw [List.pairwise_iff_getElem];intro i j hi hj hij;rw [List.length_drop] at hi hj;rw [List.getElem_drop,List.getElem_drop];exact Ord.slt ho (by omega) (by omega) (by omega)
 obtain ⟨h1,h2⟩:=g.next (rY x) (Dl x) hp (Vy ho hr);rw [List.length_drop] at h2;refine ⟨h2,fun j hj=>?_⟩;have h3:=congrArg (fun l=>l[j]?) h1;simp only [List.getElem?_map,List.getElem?_range hj,Option.map_some] at h3;rw [List.getElem?_take_of_lt (by omega),List.getElem?_drop] at h3;rw [List.getD_eq_getElem?_getD,<- h3];rfl
end ArA
namespace ArA
open Go Go.RowKit AM aE
section
variable{L:Nat}{H d:List Nat}{r q f l g b5 b6:Nat}{A:Arn}{s t z n room cs row pas:Nat}{x o:List Nat}{W:Nat->Nat}
def vc(r g l b5 b6 ix row room pas at_:Nat):Fr:=[(8,.int .i64 ix),(15,.int .i64 row),(12,.int .i64 room),(9,.int .i64 pas),(11,.pointer (some ⟨g,0,some 0⟩)),(14,.int .i64 at_),(6,.pointer (some ⟨b6,0,some 0⟩)),(0,arP r),(13,.pointer (some ⟨l,0,some 0⟩)),(5,.pointer (some ⟨b5,0,some 0⟩))]
theorem nE.abC{hp:List Blk}{b:Blk}{m:Nat}(h:nE hp r q f l g b5 b6 H s m cs):nE (hp.set f b) r q f l g b5 b6 H s m cs:=
 { h with h5:=by rw [List.getElem?_set_ne h.f5];exact h.h5,h6:=by rw [List.getElem?_set_ne h.f6];exact h.h6 }
theorem OA{hp:List Blk}{A1 B:Arn}{many:Nat}(hF:Fit hp.length L H)(ho:Ord x o)(hb:By x)(hlL:L<=l)(hwl:L<=r/\L<=q)
  (hcl:(cs:Int)+x.length<=A.live) (hcx:∀ i p,i < x.length->p < x.length->cs+i≠s+p) (hct:∀ i,i < x.length->cs+i < t\/t+4*n<=cs+i)
  (hrow:row < o.length) (hr1:1<=room) (hrn:room<=n) (hro:room<=o.length) (adg:pas<=65537)
  (h:dz hp r q f L H A1 s t z n many x) (a:gW hp r q f l g H (fL o row)) (b:nE hp r q f l g b5 b6 H s x.length cs) (w:Words A1 B t n W) (cl:r7 A A1 cs (bU x (o.take row))):∃ A2 B2 k2 V,
  aG env og [8,15,12,9,11,14,6,0,13,5] hp.length (vc r g l b5 b6 (ixO o row) row room pas (bU x (o.take row)).length) ⟨put hp r q B,L,H,[]⟩ =
  aG env og [8,15,12,9,11,14,6,0,13,5] hp.length (vc r g l b5 b6 (ixO o (min (row+room) o.length)) (min (row+room) o.length) room (pas+1) (bU x (o.take (min (row+room) o.length))).length)
   ⟨put ((hp.set f (hB r s x.length t z k2)).set l (.cells 0 true [.int .i64 (fL o (min (row+room) o.length))])) r q B2,L,H,[]⟩ /\
  dz ((hp.set f (hB r s x.length t z k2)).set l (.cells 0 true [.int .i64 (fL o (min (row+room) o.length))])) r q f L H A2 s t z n k2 x/\Words A2 B2 t n V/\r7 A A2 cs (bU x (o.take (min (row+room) o.length))):=by
 have hm:=h.hm;have hol:=ho.len;have fA:fL o row < 0\/fL o row<=x.length:=by
  unfold fL;split
  ·left;decide
  ·right;have hv:row - 1 < o.length:=by omega
   have:=ho.mem.1 (List.getElem_mem hv);rw [List.getD_eq_getElem?_getD,List.getElem?_eq_getElem hv];show ((o[row - 1]:Nat):Int)<=_;omega
 obtain ⟨Z,V,k1,z1,z2,z3⟩:=GI hF fA hrn hr1 (by omega) h a w;obtain ⟨e1,e2⟩:=JF ho (by omega) z3;have acR:∀ i,i < k1->V i<=x.length:=fun i hi=>by have:=(z3.from_ _ ⟨i,hi,rfl⟩).1;omega
 have hF1:Fit (hp.set f (hB r s x.length t z k1)).length L H:=hF.mono (by simp);obtain ⟨Z2,k2,y1,y2⟩:=tK hF1 (h.to (m2:=k1)) z2 (by omega) (by omega) acR;simp only [List.set_set] at y1;have hF2:Fit (hp.set f (hB r s x.length t z k2)).length L H:=hF.mono (by simp);obtain ⟨fr,A2,B2,i1,i2,i3,i4,f8,f15,f12,f9,f11,f14,f6,f0,f13,f5⟩:=JE (room:=room) (pas:=pas) (gJ:=row) (all:=k1) (W:=kG (slt x) k1 V) ho hb hlL hwl (by omega) e2 (by omega) hcl hcx hct k1 0 (hp.set f (hB r s x.length t z k2)) A1 Z2 (by omega) hF2 (h.to (m2:=k2)) a.to b.abC y2 cl;have er:row+k1=min (row+room) o.length:=by omega
 rw [er] at i1 i3 f8 f15 f14;rw [List.length_set] at i1;refine ⟨A2,B2,k2,_,?_,?_,i2,i3⟩
 ·have k:=(h.words w).k;have h1:=k.cJ;have h2:=k.cI;have hne:=k.ne;have hl:=a.hl;have hg:=a.hg;have hll:l < hp.length:=(List.getElem?_eq_some_iff.1 hl).1;have hgl:g < hp.length:=(List.getElem?_eq_some_iff.1 hg).1;have h5:=b.h5;have h5l:b5 < hp.length:=(List.getElem?_eq_some_iff.1 h5).1;have lr:=a.lr;have lq:=a.lq;have gr:=a.gr;have gq:=a.gq;have gf:=a.gf;have lH:=a.lH;have gH:=a.gH;have r5:=b.r5;have q5:=b.q5;have H5:=b.H5;have c0:(row:Int)<=x.length:=by omega
  have g1:(hp.set f (hB r s x.length t z k1))[g]?=some (.cells 0 false [.pointer (some ⟨f,0,some 0⟩)]):=by rw [List.getElem?_set_ne gf];exact hg
  have ep:((pas+1:Nat):Int)=(pas:Int)+1:=by omega
  unfold vc;unfold Dm at i1;unfold clo at z1;simp only [Nat.add_zero,Int.natCast_zero] at i1;rw [ep,ak og.eq_1];simp (disch:=first|exact aQ|fail) only [sy,simprocAttr,-List.reduceReplicate,syR,Int.le_refl,hF.all,k.hr,k.hq,h5,H5,hg,g1,lH,gH,c0,z1,y1,i1,f8,f15,f12,f9,f11,f14,f6,f0,f13,f5]
 ·exact { i4 with k:=i4.k.mono (by simp),hf:=by rw [List.getElem?_set_ne (Ne.symm a.lf)];exact (h.to (m2:=k2)).hf }
theorem GJ(ho:Ord x o)(hb:By x)(hlL:L<=l)(hwl:L<=r/\L<=q)
  (hcl:(cs:Int)+x.length<=A.live) (hcx:∀ i p,i < x.length->p < x.length->cs+i≠s+p) (hct:∀ i,i < x.length->cs+i < t\/t+4*n<=cs+i)
  (hr1:1<=room) (hrn:room<=n) (hro:room<=o.length):∀ (c row pas:Nat) (hp:List Blk) (A1 B:Arn) (many:Nat) (W:Nat->Nat),row+c=o.length->pas<=row->Fit hp.length L H ->
  dz hp r q f L H A1 s t z n many x->gW hp r q f l g H (fL o row)->nE hp r q f l g b5 b6 H s x.length cs->Words A1 B t n W->r7 A A1 cs (bU x (o.take row))->∃ fr A2 B2 V bf bl,
  aG env og [8,15,12,9,11,14,6,0,13,5] hp.length (vc r g l b5 b6 (ixO o row) row room pas (bU x (o.take row)).length) ⟨put hp r q B,L,H,[]⟩ =
   some (.exit 0,fr,⟨put ((hp.set f bf).set l bl) r q B2,L,H,[]⟩)/\fr.get 8=some (.int .i64 (o.idxOf 0:Nat))/\fr.get 9=some (.int .i64 (pas+(c+room - 1) / room:Nat))/\Words A2 B2 t n V/\r7 A A2 cs (bU x o):=by
 intro c;induction c using Nat.strongRecOn with
 | _ c ih=>
  intro row pas hp A1 B many W hc hpr hF h a b w cl;have hol:=ho.len;have hm:=h.hm;by_cases c0:c=0
  ·subst c0;have er:row=o.length:=by omega
   have k:=(h.words w).k;have h5:=b.h5;have h5l:b5 < hp.length:=(List.getElem?_eq_some_iff.1 h5).1;have r5:=b.r5;have q5:=b.q5;have H5:=b.H5;have c1:¬ (row:Int)<=x.length:=by omega
   have hfr:∃ fr,aG env og [8,15,12,9,11,14,6,0,13,5] hp.length (vc r g l b5 b6 (ixO o row) row room pas (bU x (o.take row)).length) ⟨put hp r q B,L,H,[]⟩ =
     some (.exit 0,fr,⟨put hp r q B,L,H,[]⟩)/\fr.get 8=some (.int .i64 (ixO o row))/\fr.get 9=some (.int .i64 pas):=by unfold vc;rw [ak og.eq_1];simp (disch:=first|exact aQ|fail) only [sy,simprocAttr,-List.reduceReplicate,syR,Int.le_refl,hF.all,k.hr,k.hq,h5,H5,c1];exact ⟨_,rfl,rfl,rfl⟩
   obtain ⟨fr,e1,e2,e3⟩:=hfr;have hx:o.idxOf 0 < o.length:=List.idxOf_lt_length_of_mem (ho.mem.2 (by omega));have hix:ixO o row=o.idxOf 0:=by unfold ixO;rw [if_pos (by omega)]
   have hdiv:(0+room - 1) / room=0:=by rw [Nat.div_eq_of_lt (by omega)]
   rw [hix] at e2;rw [er,List.take_length] at cl;refine ⟨fr,A1,B,W,hB r s x.length t z many,.cells 0 true [.int .i64 (fL o row)],?_,e2,by rw [hdiv,Nat.add_zero];exact e3,w,cl⟩;rw [h.same,e1];have hs:hp.set l (.cells 0 true [.int .i64 (fL o row)])=hp:=by
    apply List.ext_getElem?;intro j;by_cases c:l=j
    ·subst c;rw [List.getElem?_set_self (List.getElem?_eq_some_iff.1 a.hl).1,a.hl]
    ·rw [List.getElem?_set_ne c]
   rw [hs]
  ·obtain ⟨A2,B2,k2,V,e1,e2,e3,e4⟩:=OA hF ho hb hlL hwl hcl hcx hct (by omega) hr1 hrn hro (by omega) h a b w cl (pas:=pas);have hdiv:(c+room - 1) / room=1+(c - room+room - 1) / room:=by
    by_cases c2:room<=c
    ·rw [show c+room - 1=(c - room+room - 1)+room by omega,Nat.add_div_right _ (by omega)];omega
    ·rw [show c - room=0 by omega,Nat.div_eq_of_lt (show 0+room - 1 < room by omega),show c+room - 1=(c - 1)+room by omega,Nat.add_div_right _ (by omega),Nat.div_eq_of_lt (by omega)]
   have hc2:min (row+room) o.length+(c - room)=o.length:=by omega
   have:=ih (c - room) (by omega) (min (row+room) o.length) (pas+1) _ A2 B2 k2 V hc2 (by omega) (hF.mono (by simp)) e2 (a.to.last' b.lg) b.abC.Oz e3 e4;rw [List.length_set,List.length_set] at this;obtain ⟨fr,A3,B3,V3,bf,bl,i1,i2,i3,i4,i5⟩:=this;refine ⟨fr,A3,B3,V3,bf,bl,?_,i2,by rw [hdiv,<- Nat.add_assoc];exact i3,i4,i5⟩;rw [e1,i1];congr 5;rw [List.set_comm _ _ a.lf,List.set_set,List.set_comm _ _ (Ne.symm a.lf),List.set_set]
end
end ArA
namespace ArA
open Go Go.RowKit AM aE
section
variable{hp:List Blk}{L:Nat}{H d:List Nat}{r q:Nat}{A:Arn}
theorem oF(hF:Fit hp.length L H){s m t z:Int}(h1:0<=s/\s<=1048576/\0<=m/\m<=1048576)(h2:0<=t/\t<=1048576/\0<=z/\z<=1048576) :
  aN env (.func 175) [.agg #[.int .i64 s,.int .i64 m],.agg #[.int .i64 t,.int .i64 z]] ⟨hp,L,H,d⟩=some (.bool (bQ s m t z),⟨hp,L,H,d⟩):=by
 rw [av 175 _ _ aar];by_cases c1:m=0
 ·have e:bQ s m t z=true:=by unfold bQ;simp [c1]
  have c1':(m==0)=true:=by simpa using c1
  rw [e];simp (disch:=first|exact dis|fail) only [sy,simprocAttr,-List.reduceReplicate,hF.all,AR,c1']
 have c1':(m==0)=false:=by simpa using c1
 by_cases c2:z=0
 ·have e:bQ s m t z=true:=by unfold bQ;simp [c2]
  have c2':(z==0)=true:=by simpa using c2
  rw [e];simp (disch:=first|exact dis|fail) only [sy,simprocAttr,-List.reduceReplicate,hF.all,AR,c1',c2']
 have c2':(z==0)=false:=by simpa using c2
 by_cases c3:s+m<=t
 ·have e:bQ s m t z=true:=by unfold bQ;simp [c3]
  rw [e];simp (disch:=first|exact dis|fail) only [sy,simprocAttr,-List.reduceReplicate,hF.all,AR,c1',c2',c3]
 ·have e:bQ s m t z=decide (t+z<=s):=by unfold bQ;rw [decide_eq_decide];omega
  rw [e];simp (disch:=first|exact dis|fail) only [sy,simprocAttr,-List.reduceReplicate,hF.all,AR,c1',c2',c3]
def eT(A:Arn)(s m c k t z:Int):Bool:=A.has s m&&A.has c k&&A.has t z&&decide (1<=m/\m<=65536/\k=m/\4<=z)&&bQ s m c k&&bQ s m t z&&bQ c k t z
set_option maxRecDepth 20000 in
theorem GK(hF:Fit hp.length L H)(k:bF hp.length r q H A)(s m c n t z:Int) :
  aN env (.func 119) [arP r,.agg #[.int .i64 s,.int .i64 m],.agg #[.int .i64 c,.int .i64 n],.agg #[.int .i64 t,.int .i64 z]] ⟨put hp r q A,L,H,d⟩=some (.bool (eT A s m c n t z),⟨put hp r q A,L,H,d⟩):=by
 have h1:=k.cJ;have h2:=k.cI;have h3:=k.gV;have h4:=k.dn;have h5:=k.size;rw [av 119 _ _ aab];cases c1:A.has s m with
 | false=>
  have e:eT A s m c n t z=false:=by unfold eT;simp [c1]
  rw [e];simp (disch:=first|exact aQ|fail) only [sy,simprocAttr,-List.reduceReplicate,syR,Int.le_refl,hF.all,k.hr,k.hq,nC,bE,c1]
 | true=>
  cases c2:A.has c n with
  | false=>
   have e:eT A s m c n t z=false:=by unfold eT;simp [c2]
   rw [e];simp (disch:=first|exact aQ|fail) only [sy,simprocAttr,-List.reduceReplicate,syR,Int.le_refl,hF.all,k.hr,k.hq,nC,bE,c1,c2]
  | true=>
   cases c3:A.has t z with
   | false=>
    have e:eT A s m c n t z=false:=by unfold eT;simp [c3]
    rw [e];simp (disch:=first|exact aQ|fail) only [sy,simprocAttr,-List.reduceReplicate,syR,Int.le_refl,hF.all,k.hr,k.hq,nC,bE,c1,c2,c3]
   | true=>
    have b1:=Arn.cq.1 c1;have b2:=Arn.cq.1 c2;have b3:=Arn.cq.1 c3;by_cases hd:1<=m/\m<=65536/\n=m/\4<=z
    ·obtain ⟨hd1,hd2,hd3,hd4⟩:=hd;subst hd3;have e:eT A s n c n t z=(bQ s n c n&&bQ s n t z&&bQ c n t z):=by unfold eT;simp [c1,c2,c3,hd1,hd2,hd4]
     rw [e];have d1:¬ n < 1:=by omega
     have d2:¬ n > 65536:=by omega
     have d4:¬ z < 4:=by omega
     have w1:=fun (hp:List Blk) (L:Nat) (H d:List Nat) (hF:Fit hp.length L H)=>oF (d:=d) hF (s:=s) (m:=n) (t:=c) (z:=n) (by omega) (by omega);have w2:=fun (hp:List Blk) (L:Nat) (H d:List Nat) (hF:Fit hp.length L H)=>oF (d:=d) hF (s:=s) (m:=n) (t:=t) (z:=z) (by omega) (by omega);have w3:=fun (hp:List Blk) (L:Nat) (H d:List Nat) (hF:Fit hp.length L H)=>oF (d:=d) hF (s:=c) (m:=n) (t:=t) (z:=z) (by omega) (by omega);cases p1:bQ s n c n with
     | false=>simp (disch:=first|exact aQ|fail) only [sy,simprocAttr,-List.reduceReplicate,syR,Int.le_refl,hF.all,k.hr,k.hq,nC,bE,c1,c2,c3,d1,d2,d4,w1,p1]
     | true=>
      cases p2:bQ s n t z with
      | false=>simp (disch:=first|exact aQ|fail) only [sy,simprocAttr,-List.reduceReplicate,syR,Int.le_refl,hF.all,k.hr,k.hq,nC,bE,c1,c2,c3,d1,d2,d4,w1,p1,w2,p2]
      | true=>simp (disch:=first|exact aQ|fail) only [sy,simprocAttr,-List.reduceReplicate,syR,Int.le_refl,hF.all,k.hr,k.hq,nC,bE,c1,c2,c3,d1,d2,d4,w1,p1,w2,p2,w3]
    ·have e:eT A s m c n t z=false:=by unfold eT;simp [hd]
     rw [e];by_cases d1:m < 1
     ·simp (disch:=first|exact aQ|fail) only [sy,simprocAttr,-List.reduceReplicate,syR,Int.le_refl,hF.all,k.hr,k.hq,nC,bE,c1,c2,c3,d1]
     by_cases d2:m > 65536
     ·simp (disch:=first|exact aQ|fail) only [sy,simprocAttr,-List.reduceReplicate,syR,Int.le_refl,hF.all,k.hr,k.hq,nC,bE,c1,c2,c3,d1,d2]
     by_cases d3:n=m
     ·have d4:z < 4:=by omega
      subst d3;simp (disch:=first|exact aQ|fail) only [sy,simprocAttr,-List.reduceReplicate,syR,Int.le_refl,hF.all,k.hr,k.hq,nC,bE,c1,c2,c3,d1,d2,d4]
     ·simp (disch:=first|exact aQ|fail) only [sy,simprocAttr,-List.reduceReplicate,syR,Int.le_refl,hF.all,k.hr,k.hq,nC,bE,c1,c2,c3,d1,d2,d3]
end
end ArA
namespace ArA
open Go Go.RowKit AM aE
section
variable{hp:List Blk}{L:Nat}{H d:List Nat}{r q:Nat}{A:Arn}
theorem m9{A:Arn}{s m c n t z:Int}(h:eT A s m c n t z=true):A.has s m=true/\A.has c n=true/\A.has t z=true/\(1<=m/\m<=65536/\n=m/\4<=z)/\bQ s m c n=true/\bQ s m t z=true/\bQ c n t z=true:=by unfold eT at h;simp only [Bool.and_eq_true,decide_eq_true_eq] at h;exact ⟨h.1.1.1.1.1.1,h.1.1.1.1.1.2,h.1.1.1.1.2,h.1.1.1.2,h.1.1.2,h.1.2,h.2⟩
def y8(hn r s m c t z:Nat):List Blk:=[.cells 0 true [.int .i64 s,.int .i64 m],.cells 0 true [.int .i64 c,.int .i64 m],.cells 0 true [.int .i64 t,.int .i64 z],hB r s m t z 0,.cells 0 false [.pointer (some ⟨hn+3,0,some 0⟩)],.cells 0 true [.int .i64 (-1)]]
def kI(x:List Nat)(z:Nat):Nat:=min (z / 4) (x.length+1)
theorem JG(hF:Fit hp.length L H)(k:bF hp.length r q H A)(hw:L<=r/\L<=q){s c t z:Nat}{x:List Nat}(hx:eL A s x)(hb:By x)(hv:eT A s x.length c x.length t z=true):∃ fr A2 B2 V bf bl,
  aG env og [8,15,12,9,11,14,6,0,13,5] (hp.length+6) (vc r (hp.length+4) (hp.length+5) hp.length (hp.length+1) 0 0 (kI x z) 0 0) ⟨put (hp++y8 hp.length r s x.length c t z) r q A,L,H,[]⟩ =
   some (.exit 0,fr,⟨put (((hp++y8 hp.length r s x.length c t z).set (hp.length+3) bf).set (hp.length+5) bl) r q B2,L,H,[]⟩)/\fr.get 8=some (.int .i64 (aK x).2.1)/\fr.get 9=some (.int .i64 ((x.length+1+kI x z - 1) / kI x z:Nat))/\Words A2 B2 t (z / 4) V/\r7 A A2 c (aK x).1:=by
 obtain ⟨v1,v2,v3,v4,v5,v6,v7⟩:=m9 hv;have b1:=Arn.cq.1 v1;have b2:=Arn.cq.1 v2;have b3:=Arn.cq.1 v3;have hl1:=k.dn;have hsz:=k.size;have hrl:=k.cJ;have hql:=k.cI;unfold bQ at v5 v6 v7;rw [decide_eq_true_eq] at v5 v6 v7;have ho:=Gz x;have hol:=ho.len;obtain ⟨t1,t2⟩:=Sz x;have hlen:(hp++y8 hp.length r s x.length c t z).length=hp.length+6:=by simp [y8]
 have hF1:Fit (hp++y8 hp.length r s x.length c t z).length L H:=hF.mono (by simp);have gn:∀ i,(hp++y8 hp.length r s x.length c t z)[hp.length+i]?=(y8 hp.length r s x.length c t z)[i]?:=fun i=>by rw [List.getElem?_append_right (by omega),Nat.add_sub_cancel_left]
 have g0:=gn 0;rw [Nat.add_zero] at g0;have hnH:∀ i,H.contains (hp.length+i)=false:=hF.nL;have h0H:=hnH 0;rw [Nat.add_zero] at h0H;have hok:dz (hp++y8 hp.length r s x.length c t z) r q (hp.length+3) L H A s t z (z / 4) 0 x:=
  { k:=k.mono (by simp),hx:=hx,hm:=by omega,hf:=gn 3,hr:=by omega,hq:=by omega,hid:=hnH 3,hw:=hw,hwf:=by have:=hF.1;omega,hz:=by omega,hn:=by omega,hs:=by omega,hap:=fun i hi=>by omega }
 have aok:gW (hp++y8 hp.length r s x.length c t z) r q (hp.length+3) (hp.length+5) (hp.length+4) H (fL (yT x (x.length+1)) 0):=
  { hl:=gn 5,hg:=gn 4,lr:=by omega,lq:=by omega,lf:=by omega,gr:=by omega,gq:=by omega,gf:=by omega,lH:=hnH 5,gH:=hnH 4 }
 have bok:nE (hp++y8 hp.length r s x.length c t z) r q (hp.length+3) (hp.length+5) (hp.length+4) hp.length (hp.length+1) H s x.length c:=
  { h5:=g0,h6:=gn 1,r5:=by omega,q5:=by omega,f5:=by omega,l5:=by omega,r6:=by omega,q6:=by omega,f6:=by omega,l6:=by omega,lg:=by omega,H5:=h0H,H6:=hnH 1 }
 have w0:=Words.self (A:=A) (t:=t) (n:=z / 4) k.by_ (by omega);obtain ⟨fr,A2,B2,V,bf,bl,i1,i2,i3,i4,i5⟩:=GJ (L:=L) (H:=H) (cs:=c) (room:=kI x z) (A:=A) ho hb (by have:=hF.1;omega) hw (by omega) (fun i p hi hp=>by omega) (fun i hi=>by omega) (by unfold kI;omega) (by unfold kI;omega) (by unfold kI;omega)
  (x.length+1) 0 0 _ A A 0 _ (by omega) (by omega) hF1 hok aok bok w0 (by rw [List.take_zero];exact r7.nil k.by_ c)
 rw [hlen] at i1;refine ⟨fr,A2,B2,V,bf,bl,?_,by rw [t2];exact i2,by rw [Nat.zero_add] at i3;exact i3,i4,by rw [t1];exact i5⟩;exact i1
end
end ArA
namespace ArA
open Go Go.RowKit AM aE
section
variable{hp:List Blk}{L:Nat}{H d:List Nat}{r q:Nat}{A:Arn}
theorem YL{h nw:List Blk}{L:Nat}{H:List Nat}{d:List Nat}{v:Value}(hn:nw≠[])(hv:refs v=[])(hd:d.filter (fun t=>decide (t < h.length))=[]):gc h.length [v] ⟨h++nw,L,H,d⟩=some ([v],⟨h,L,H,[]⟩):=by
 have hpos:0 < nw.length:=List.length_pos_iff.2 hn;have hl:¬ (h++nw).length<=h.length:=by simp;omega
 unfold gc;rw [if_neg hl];simp [hv,hd]
theorem JH(hF:Fit hp.length L H)(k:bF hp.length r q H A)(hw:L<=r/\L<=q){s c t z:Nat}{x:List Nat}(hx:eL A s x)(hb:By x)(hv:eT A s x.length c x.length t z=true):∃ A2 B V,
  (∀ d,aN env (.func 59) [arP r,.agg #[.int .i64 s,.int .i64 x.length],.agg #[.int .i64 c,.int .i64 x.length],.agg #[.int .i64 t,.int .i64 z]] ⟨put hp r q A,L,H,d⟩ =
   some (.tuple #[.int .i64 (aK x).2.1,.int .i64 ((x.length+1+kI x z - 1) / kI x z:Nat),.int .i64 0],⟨put hp r q B,L,H,d⟩))/\Words A2 B t (z / 4) V/\r7 A A2 c (aK x).1:=by
 obtain ⟨fr,A2,B2,V,bf,bl,i1,i2,i3,i4,i5⟩:=JG hF k hw hx hb hv;refine ⟨A2,B2,V,fun d=>?_,i4,i5⟩;obtain ⟨v1,v2,v3,v4,v5,v6,v7⟩:=m9 hv;have b1:=Arn.cq.1 v1;have b2:=Arn.cq.1 v2;have b3:=Arn.cq.1 v3;have hl1:=k.dn;have hsz:=k.size;have hrl:=k.cJ;have hql:=k.cI;have hne:=k.ne;have va:=fun d nw=>GK (d:=d) (hp:=hp++nw) (L:=L) (H:=H) (r:=r) (q:=q) (A:=A) (hF.mono (by simp)) (k.mono (by simp)) s x.length c x.length t z;simp only [hv] at va;have e1:Int.tdiv (z:Int) 4=((z / 4:Nat):Int):=rfl;have e2:min (((z / 4:Nat):Int)) ((x.length:Int)+1)=(kI x z:Int):=by unfold kI;omega
 unfold vc y8 hB at i1;simp only [Int.natCast_zero] at i1;rw [av 59 _ _ acH];simp (disch:=first|exact aQ|fail) only [sy,simprocAttr,-List.reduceReplicate,syR,Int.le_refl,hF.jv,hF.nL,hF.up0,hF.up1,k.hr,k.hq,XT,va,e1,e2,i1,i2,i3];have hpl:(put hp r q B2).length=hp.length:=bL;rw [<- Da hrl hql];have hg:=YL (h:=put hp r q B2) (nw:=[.cells 0 true [.int .i64 s,.int .i64 x.length],.cells 0 true [.int .i64 c,.int .i64 x.length],.cells 0 true [.int .i64 t,.int .i64 z],bf,.cells 0 false [.pointer (some ⟨hp.length+3,0,some 0⟩)],bl]) (L:=L) (H:=H) (d:=[hp.length+4])
  (v:=.tuple #[.int .i64 (aK x).2.1,.int .i64 ((x.length+1+kI x z - 1) / kI x z:Nat),.int .i64 0]) (by simp) rfl (by rw [hpl];simp)
 rw [hpl] at hg;rw [hg];simp [gcX,aO]
end
end ArA
end Go.Proofs.YtgdpefeomemllaaGreat
section
namespace Go.Proofs.YtgdpefeomemllaaGreat
namespace ArA
open Go Go.RowKit AM aE
structure BT(A B:Arn)(s c t z:Nat)(x:List Nat):Prop where
 live:B.live=A.live
 cR:B.cR=A.cR
 len:B.bs.length=A.bs.length
 by_:By B.bs
 text:eL B s x
 col:eL B c (aK x).1
 out:∀ p,p < c\/c+x.length<=p->p < t\/t+z<=p->B.bs[p]?=A.bs[p]?
theorem BT.ok{A B:Arn}{s c t z n r q:Nat}{H:List Nat}{x:List Nat}(h:BT A B s c t z x)(o:bF n r q H A):bF n r q H B where
 cJ:=o.cJ
 cI:=o.cI
 ne:=o.ne
 by_:=h.by_
 gV:=by rw [h.live];exact o.gV
 dn:=by rw [h.live,h.len];exact o.dn
 Bg:=by rw [h.cR];exact o.Bg
 uY:=by rw [h.cR,h.len];exact o.uY
 size:=by rw [h.len];exact o.size
 hr:=o.hr
 hq:=o.hq
theorem OB{m r:Nat}(hr:1<=r):(m+1+min r (m+1) - 1) / min r (m+1)=m / r+1:=by
 by_cases h:r<=m+1
 ·rw [Nat.min_eq_left h,show m+1+r - 1=m+r by omega,Nat.add_div_right _ (by omega)]
 ·rw [Nat.min_eq_right (by omega),Nat.div_eq_of_lt (show m < r by omega),show m+1+(m+1) - 1=m+(m+1) by omega,Nat.add_div_right _ (by omega),Nat.div_eq_of_lt (by omega)]
theorem SP{hp:List Blk}{L:Nat}{H:List Nat}{r q:Nat}{A:Arn}(hF:Fit hp.length L H)(k:bF hp.length r q H A)(hw:L<=r/\L<=q){s c t z:Nat}{x:List Nat}(hx:eL A s x)(hb:By x)(hv:eT A s x.length c x.length t z=true):∃ B,
  (∀ d,aN env (.func 59) [arP r,.agg #[.int .i64 s,.int .i64 x.length],.agg #[.int .i64 c,.int .i64 x.length],.agg #[.int .i64 t,.int .i64 z]] ⟨put hp r q A,L,H,d⟩ =
   some (.tuple #[.int .i64 (aK x).2.1,.int .i64 (x.length / (z / 4)+1:Nat),.int .i64 0],⟨put hp r q B,L,H,d⟩))/\BT A B s c t z x:=by
 obtain ⟨A2,B,V,e1,e2,e3⟩:=JH hF k hw hx hb hv;obtain ⟨v1,v2,v3,v4,v5,v6,v7⟩:=m9 hv;have b1:=Arn.cq.1 v1;have b2:=Arn.cq.1 v2;have b3:=Arn.cq.1 v3;have hl1:=k.dn;have hcl:(aK x).1.length=x.length:=(iF x).1;unfold bQ at v5 v6 v7;rw [decide_eq_true_eq] at v5 v6 v7;have hz:(kI x z:Nat)=min (z / 4) (x.length+1):=rfl;rw [hz,OB (by omega)] at e1;refine ⟨B,e1,⟨e2.live.trans e3.live,e2.cR.trans e3.cR,e2.len.trans e3.len,e2.by_,⟨by rw [e2.live,e3.live];exact hx.live,fun i hi=>?_⟩,⟨by rw [e2.live,e3.live,hcl];omega,fun i hi=>?_⟩,fun p h1 h2=>?_⟩⟩
 ·rw [e2.out _ (by omega),e3.out _ (by rw [hcl];omega)];exact hx.get i hi
 ·rw [hcl] at hi;rw [e2.out _ (by omega),e3.at_ i (by rw [hcl];exact hi)];exact List.getElem?_eq_getElem _
 ·rw [e2.out _ (by omega),e3.out _ (by rw [hcl];exact h1)]
end ArA
end Go.Proofs.YtgdpefeomemllaaGreat
end
section
namespace Go.Proofs.YtgdpefeomemllaaGreat
namespace ArA
open Go Go.RowKit AM aE
end ArA
end Go.Proofs.YtgdpefeomemllaaGreat
end
namespace Go.Proofs.YtgdpefeomemllaaGreat
namespace UeD
open Go Go.RowKit AM aE ArA
section
variable{hp:List Blk}{L:Nat}{H d:List Nat}
theorem ve{h nw:List Blk}{r q g:Nat}{A:Arn}{v:Value}{cs:List Value}(hr:h.length<=r)(hq:h.length<=q)(k:Nat)(hk:nw[k]?=some (.cells g true cs))(n1:r≠h.length+k)(n2:q≠h.length+k)(hv:∀ x∈refs v,x < h.length\/x=h.length+k)(hx:h.length+k∈refs v) :
  gc h.length [v] ⟨put (h++nw) r q A,L,H,[]⟩=some ([ren (AM.one h.length (h.length+k)) v],⟨h++[.cells g true cs],L,H,[]⟩):=by
 have e1:put (h++nw) r q A=h++(put (h++nw) r q A).drop h.length:=by
  conv=>lhs;rw [<- List.take_append_drop h.length (put (h++nw) r q A)]
  congr 1;apply List.ext_getElem?;intro i;rw [List.getElem?_take];split
  ·rename_i hi;rw [Ls (by omega) (by omega),List.getElem?_append_left hi]
  ·rename_i hi;rw [List.getElem?_eq_none (by omega)]
 have e2:((put (h++nw) r q A).drop h.length)[k]?=some (.cells g true cs):=by rw [List.getElem?_drop,Ls (by omega) (by omega),List.getElem?_append_right (by omega),Nat.add_sub_cancel_left];exact hk
 have e3:(refs v).isEmpty=false:=by
  cases hrv:refs v with
  | nil=>rw [hrv] at hx;simp at hx
  | cons a l=>rfl
 rw [e1,CQ,e3];exact iO k e2 hv hx
def cl(l:List Nat)(sz:Nat):Arn:=Arn.laid (l.length+sz+1) (l++List.replicate sz 0)
theorem LB(l:List Nat)(sz:Nat):(cl l sz).live=((l.length+sz:Nat):Int):=by simp [cl,Arn.laid]
theorem SQ(l:List Nat)(sz:Nat):eL (cl l sz) 0 l:=⟨by rw [LB];omega,fun i hi=>by unfold cl Arn.laid;simp only [Nat.zero_add];rw [List.append_assoc,List.getElem?_append_left hi,List.getElem?_eq_getElem hi]⟩
theorem W8{n r q:Nat}{H:List Nat}{l:List Nat}{sz:Nat}(hr:r < n)(hq:q < n)(hne:r≠q)(h1:H.contains r=false)(h2:H.contains q=false)(hl:By l)(hs:l.length+sz+1<=1048576):bF n r q H (cl l sz):=
 bF.laid hr hq hne (hl.append fun x hx=>by rw [List.mem_replicate] at hx;omega) (by simp) (by omega) h1 h2
theorem SR{l:List Nat}{sz:Nat} : (Arn.laid (l.length+sz+1) (List.replicate (l.length+sz) 0)).part 0 l.length 0 l.length=true/\(Arn.laid (l.length+sz+1) (List.replicate (l.length+sz) 0)).store 0 l.length 0 l=cl l sz:=by
 have hp:(Arn.laid (l.length+sz+1) (List.replicate (l.length+sz) 0)).part 0 l.length 0 l.length=true:=by rw [Arn.dM];simp [Arn.laid];omega
 refine ⟨hp,?_⟩;unfold Arn.store;rw [if_pos hp];unfold Arn.setAt cl Arn.laid;simp only [Int.zero_add,Int.toNat_zero,List.length_replicate,List.length_append,Arn.mk.injEq];refine ⟨?_,by first | omega | simp,by first | omega | simp⟩;unfold lR;simp only [List.take_zero,List.nil_append,Nat.zero_add];rw [List.drop_append,List.drop_replicate,List.drop_replicate,List.length_replicate,show l.length+sz - l.length=sz by omega,show l.length - (l.length+sz)=0 by omega,Nat.sub_zero,List.append_assoc]
theorem BE{v:Value}{l:List Nat}{room:Nat}(hF:Fit hp.length L H)(hr:Rd ⟨hp,L,H,[]⟩ v l)(hl:l.length<=1000)(hsz:room<=1000) :
  (∀ d,aN env (.func 54) [.int .i64 (2*(l.length:Int)+4*(room:Int)+1)] ⟨hp,L,H,d⟩=some (.tuple #[arP hp.length,.int .i64 0],⟨put (hp++[default,default]) hp.length (hp.length+1) (Arn.new (l.length+(l.length+4*room)+1)),L,H,d⟩))
  /\ (∀ nw,aN env (.func 55) [arP hp.length,.int .i64 l.length] ⟨put (hp++(default::default::nw)) hp.length (hp.length+1) (Arn.new (l.length+(l.length+4*room)+1)),L,H,[]⟩=some (.tuple #[.agg #[.int .i64 0,.int .i64 l.length],.int .i64 0],⟨put (hp++(default::default::nw)) hp.length (hp.length+1) (Arn.laid (l.length+(l.length+4*room)+1) (List.replicate l.length 0)),L,H,[]⟩))
  /\ (∀ nw,aN env (.func 55) [arP hp.length,.int .i64 l.length] ⟨put (hp++(default::default::nw)) hp.length (hp.length+1) (Arn.laid (l.length+(l.length+4*room)+1) (List.replicate l.length 0)),L,H,[]⟩=some (.tuple #[.agg #[.int .i64 l.length,.int .i64 l.length],.int .i64 0],⟨put (hp++(default::default::nw)) hp.length (hp.length+1) (Arn.laid (l.length+(l.length+4*room)+1) (List.replicate (l.length+l.length) 0)),L,H,[]⟩))
  /\ (∀ nw,aN env (.func 55) [arP hp.length,.int .i64 (4*(room:Int))] ⟨put (hp++(default::default::nw)) hp.length (hp.length+1) (Arn.laid (l.length+(l.length+4*room)+1) (List.replicate (l.length+l.length) 0)),L,H,[]⟩=some (.tuple #[.agg #[.int .i64 ((l.length+l.length:Nat):Int),.int .i64 (4*(room:Int))],.int .i64 0],⟨put (hp++(default::default::nw)) hp.length (hp.length+1) (Arn.laid (l.length+(l.length+4*room)+1) (List.replicate (l.length+(l.length+4*room)) 0)),L,H,[]⟩))
  /\ (∀ nw,aN env (.func 56) [arP hp.length,.agg #[.int .i64 0,.int .i64 l.length],.int .i64 0,v] ⟨put (hp++(default::default::nw)) hp.length (hp.length+1) (Arn.laid (l.length+(l.length+4*room)+1) (List.replicate (l.length+(l.length+4*room)) 0)),L,H,[]⟩=some (.bool true,⟨put (hp++(default::default::nw)) hp.length (hp.length+1) (cl l (l.length+4*room)),L,H,[]⟩)):=by
 have t1:=qF (N:=l.length+(l.length+4*room)+1) (l:=[]) (m:=l.length) (by simp;omega);have t2:=qF (N:=l.length+(l.length+4*room)+1) (l:=List.replicate l.length 0) (m:=l.length) (by simp;omega);have t3:=qF (N:=l.length+(l.length+4*room)+1) (l:=List.replicate (l.length+l.length) 0) (m:=4*room) (by simp;omega);rw [List.replicate_append_replicate,List.length_replicate] at t2 t3;rw [show ((4*room:Nat):Int)=4*(room:Int) by omega,show l.length+l.length+4*room=l.length+(l.length+4*room) by omega] at t3;simp only [List.nil_append,List.length_nil,Int.natCast_zero] at t1;rw [<- SC] at t1;obtain ⟨p1,p2⟩:=SR (l:=l) (sz:=l.length+4*room);have hw:L<=hp.length/\L<=hp.length+1:=by have:=hF.1;omega
 have hh1:=hF.jv;have hh2:H.contains (hp.length+1)=false:=hF.nL 1;have hz:∀ n,By (List.replicate n 0):=fun n x hx=>by rw [List.mem_replicate] at hx;omega
 have k0:bF (hp.length+2) hp.length (hp.length+1) H (Arn.new (l.length+(l.length+4*room)+1)):=bF.new (by omega) (by omega) (by omega) (by omega) hh1 hh2;have k1:bF (hp.length+2) hp.length (hp.length+1) H (Arn.laid (l.length+(l.length+4*room)+1) (List.replicate l.length 0)):=bF.laid (by omega) (by omega) (by omega) (hz _) (by simp;omega) (by omega) hh1 hh2;have k2:bF (hp.length+2) hp.length (hp.length+1) H (Arn.laid (l.length+(l.length+4*room)+1) (List.replicate (l.length+l.length) 0)):=bF.laid (by omega) (by omega) (by omega) (hz _) (by simp;omega) (by omega) hh1 hh2;have k3:bF (hp.length+2) hp.length (hp.length+1) H (Arn.laid (l.length+(l.length+4*room)+1) (List.replicate (l.length+(l.length+4*room)) 0)):=bF.laid (by omega) (by omega) (by omega) (hz _) (by simp) (by omega) hh1 hh2;have e4:∀ (nw:List Blk),hp.length+2<=(hp++(default::default::nw)).length:=fun _=>by simp
 refine ⟨fun d=>?_,fun nw=>?_,fun nw=>?_,fun nw=>?_,fun nw=>?_⟩
 ·have:=SB (d:=d) hF (2*(l.length:Int)+4*(room:Int)+1) (by omega) (by omega);rw [this,show (2*(l.length:Int)+4*(room:Int)+1).toNat=l.length+(l.length+4*room)+1 by omega]
 ·have:=tO (d:=[]) (hp:=hp++(default::default::nw)) (r:=hp.length) (q:=hp.length+1) (L:=L) (H:=H) (hF.mono (by simp)) (k0.mono (e4 nw)) hw l.length;rw [t1] at this;exact this
 ·have:=tO (d:=[]) (hp:=hp++(default::default::nw)) (r:=hp.length) (q:=hp.length+1) (L:=L) (H:=H) (hF.mono (by simp)) (k1.mono (e4 nw)) hw l.length;rw [t2] at this;exact this
 ·have:=tO (d:=[]) (hp:=hp++(default::default::nw)) (r:=hp.length) (q:=hp.length+1) (L:=L) (H:=H) (hF.mono (by simp)) (k2.mono (e4 nw)) hw (4*(room:Int));rw [t3] at this;exact this
 ·have:=Jy (d:=[]) (hp:=hp++(default::default::nw)) (r:=hp.length) (q:=hp.length+1) (L:=L) (H:=H) (by omega:l.length<=1048576) (hF.mono (by simp)) (k3.mono (e4 nw)) hw 0 l.length 0 (fun nw=>by rw [List.append_assoc];exact hr.put (by omega) (by omega));rw [p1,p2] at this;exact this
end
end UeD
namespace UeE
open Go Go.RowKit AM aE ArA UeD
section
variable{hp:List Blk}{L:Nat}{H d:List Nat}
theorem SS(l:List Nat)(sz:Nat):cl l sz=⟨[]++(l++List.replicate (sz+1) 0),((l.length+sz:Nat):Int),((l.length+sz:Nat):Int)⟩:=by simp only [cl,Arn.laid,List.length_append,List.length_replicate,List.append_assoc,List.replicate_append_replicate,List.nil_append,Arn.mk.injEq];refine ⟨?_,by first | omega | simp,by first | omega | simp⟩;rw [show sz+(l.length+sz+1 - (l.length+sz))=sz+1 by omega]
theorem GL{v:Value}{x:List Nat}{m:Nat}(hF:Fit hp.length L H)(hr:Rd ⟨hp,L,H,[]⟩ v x)(hm:x.length=m)(h1:1<=m)(hl:m<=1000) :
  aN env (.func 16) [v,.int .i64 0] ⟨hp,L,H,d⟩=some (.tuple #[.slice (some ⟨hp.length,0,some m⟩) m 1,.int .i64 ((aK x).2.1:Nat)],⟨hp++[.cells m true (u8s (aK x).1)],L,H,d⟩):=by
 have hlen:=hr.E8;obtain ⟨w1,w2,w3,w4,w5⟩:=BE (room:=0) hF hr (by omega) (by omega);have hw:L<=hp.length/\L<=hp.length+1:=by have:=hF.1;omega
 have k4:bF (hp.length+2) hp.length (hp.length+1) H (cl x (x.length+4*0)):=W8 (by omega) (by omega) (by omega) hF.jv (hF.nL 1) hr.by_ (by omega);have e4:∀ (nw:List Blk),hp.length+2<=(hp++(default::default::nw)).length:=fun _=>by simp
 rw [SS] at w5 k4;obtain ⟨lv,hlv⟩:∃ lv:Int,lv=((x.length+(x.length+4*0):Nat):Int):=⟨_,rfl⟩;rw [<- hlv] at w5 k4;generalize List.replicate (x.length+4*0+1) 0=Q at w5 k4;have tw:=fun nw=>Ol (d:=[]) (s:=0) (hp:=hp++(default::default::nw)) (hF.mono (by simp)) (P:=[]) (Q:=Q) (x:=x) (lv:=lv) (pk:=lv) hw (by omega) rfl rfl (by omega) (by omega) (by omega) (k4.mono (e4 nw));have k5:=fun nw=>(tw nw).1;have tw2:=fun nw=>(tw nw).2;have hyl:=(iF x).1;have hold:eL (⟨[]++((aK x).1++Q),lv,lv⟩:Arn) 0 (aK x).1:=⟨by rw [hyl];show _<=lv;omega,fun i hi=>by show ([]++((aK x).1++Q))[0+i]?=_;rw [List.nil_append,Nat.zero_add,List.getElem?_append_left hi,List.getElem?_eq_getElem hi]⟩
 have xk:=hold.load;have lw:=fun nw=>Bq (d:=[]) (L:=L) (hp:=hp++(default::default::nw)) (hF.mono (by simp)) (k5 nw) (0:Nat) (aK x).1.length;simp only [xk,Option.getD_some,rN,n9] at lw;clear tw k5 hold xk k4;simp only [hyl,hm] at lw;rw [hm] at hlen w1 w2 w3 w4 w5;simp only [hm] at tw2;generalize (aK x).1=y at *;generalize (aK x).2.1=idx at *;generalize (aK x).2.2=st at *;simp only [Int.natCast_zero,Nat.mul_zero,Int.mul_zero,Nat.add_zero,Int.add_zero,Int.natCast_add,List.append_assoc,List.cons_append,List.length_append,List.length_cons,List.nil_append] at w1 w2 w3 w4 w5 tw2 lw;generalize Arn.new (m+m+1)=A0 at *;generalize Arn.laid (m+m+1) (List.replicate m 0)=A1 at *;generalize Arn.laid (m+m+1) (List.replicate (m+m) 0)=A2 at *;generalize (⟨x++Q,lv,lv⟩:Arn)=A4 at *;generalize (⟨y++Q,lv,lv⟩:Arn)=A5 at *;rw [av 16 _ _ Z5];simp (disch:=first|exact aQ|fail) only [sy,simprocAttr,-List.reduceReplicate,syR,Int.le_refl,hF.jv,hF.nL,hF.up0,hF.up1,UP,hlen,w1,w2,w3,w4,w5,tw2,lw];rw [ve (by omega) (by omega) 5 rfl (by omega) (by omega) (by simp [refs,bw,aI]) (by simp [refs,bw,aI])];have o2:AM.one hp.length (hp.length+5) (hp.length+5)=hp.length:=eU;simp [gcX,aO,ren,fN,dU,o2]
theorem GM{v:Value}{x:List Nat}{m room:Nat}(hF:Fit hp.length L H)(hr:Rd ⟨hp,L,H,[]⟩ v x)(hm:x.length=m)(h1:1<=m)(hl:m<=1000)(h2:1<=room)(h3:room<=1000) :
  aN env (.func 16) [v,.int .i64 room] ⟨hp,L,H,d⟩=some (.tuple #[.slice (some ⟨hp.length,0,some m⟩) m 1,.int .i64 ((aK x).2.1:Nat)],⟨hp++[.cells m true (u8s (aK x).1)],L,H,d⟩):=by
 have hlen:=hr.E8;obtain ⟨w1,w2,w3,w4,w5⟩:=BE (room:=room) hF hr (by omega) (by omega);have hw:L<=hp.length/\L<=hp.length+1:=by have:=hF.1;omega
 have k4:bF (hp.length+2) hp.length (hp.length+1) H (cl x (x.length+4*room)):=W8 (by omega) (by omega) (by omega) hF.jv (hF.nL 1) hr.by_ (by omega);have e4:∀ (nw:List Blk),hp.length+2<=(hp++(default::default::nw)).length:=fun _=>by simp
 have hld:=SQ x (x.length+4*room);have hlv:=LB x (x.length+4*room);generalize cl x (x.length+4*room)=A4 at *;have hbv:eT A4 (0:Nat) x.length x.length x.length (x.length+x.length:Nat) (4*room:Nat)=true:=by
  have a1:A4.has (0:Nat) x.length=true:=by rw [Arn.cq,hlv];omega
  have a2:A4.has x.length x.length=true:=by rw [Arn.cq,hlv];omega
  have a3:A4.has (x.length+x.length:Nat) (4*room:Nat)=true:=by rw [Arn.cq,hlv];omega
  unfold eT bQ;rw [a1,a2,a3];simp;omega
 have tw:=fun nw=>SP (hp:=hp++(default::default::nw)) (hF.mono (by simp)) (k4.mono (e4 nw)) hw hld hr.by_ hbv;have hyl:=(iF x).1;have ht:=fun nw=>(tw nw).choose_spec;generalize hB:(fun nw=>(tw nw).choose)=B at ht;have hB':∀ nw,(tw nw).choose=B nw:=fun nw=>by rw [<- hB]
 simp only [hB'] at ht;have t1:=fun nw=>(ht nw).1 [];have k5:=fun nw=>(ht nw).2.ok (k4.mono (e4 nw));have xk:=fun nw=>(ht nw).2.col.load;have lw:=fun nw=>Bq (d:=[]) (L:=L) (hp:=hp++(default::default::nw)) (hF.mono (by simp)) (k5 nw) (x.length:Nat) (aK x).1.length;simp only [xk,Option.getD_some,rN,n9] at lw;clear ht hB hB' k5 xk k4 tw hbv hld hlv;simp only [hyl,hm] at lw;rw [hm] at hlen w1 w2 w3 w4 w5;simp only [hm] at t1;generalize (aK x).1=y at *;generalize (aK x).2.1=idx at *;have g1:((room:Int)==0)=false:=by simp;omega
 have g2:¬ (room:Int)=0:=by omega
 simp only [Int.natCast_zero,Int.natCast_add,Int.natCast_mul,Int.cast_ofNat_Int,List.append_assoc,List.cons_append,List.length_append,List.length_cons,List.nil_append] at w1 w2 w3 w4 w5 t1 lw;generalize ((m / (4*room / 4)+1:Nat):Int)=ps at *;rw [av 16 _ _ Z5];simp (disch:=first|exact aQ|fail) only [sy,simprocAttr,-List.reduceReplicate,syR,Int.le_refl,hF.jv,hF.nL,hF.up0,hF.up1,UP,g1,g2,hlen,w1,w2,w3,w4,w5,t1,lw];rw [ve (by omega) (by omega) 5 rfl (by omega) (by omega) (by simp [refs,bw,aI]) (by simp [refs,bw,aI])];have o2:AM.one hp.length (hp.length+5) (hp.length+5)=hp.length:=eU;simp [gcX,aO,ren,fN,dU,o2]
end
end UeE
namespace AM
open Go
noncomputable section
variable{ρ:Type}
def ob{α:Type}(x:Option α)(f:α->Option ρ):Option ρ:=@Option.rec α (fun _=>Option ρ) none f x
theorem jZ{α:Type}(x:Option α)(f:α->Option ρ):ob x f=x.bind f:=by cases x<;>rfl
def Dn(t:Nat)(fr:Fr)(k:Value->Option ρ):Option ρ:=@List.rec (Nat×Value) (fun _=>Option ρ) none (fun p _ ih=>@Bool.rec (fun _=>Option ρ) ih (k p.2) (Nat.beq p.1 t)) fr
theorem r8(t:Nat)(k:Value->Option ρ):∀ fr:Fr,Dn t fr k=(fr.get t).bind k
 | []=>rfl
 | (a,v)::l=>by
  show @Bool.rec (fun _=>Option ρ) (Dn t l k) (k v) (Nat.beq a t)=_;simp only [Fr.get];by_cases h:a=t
  ·subst h;simp [Nat.beq_refl]
  ·have:Nat.beq a t=false:=by rw [Bool.eq_false_iff];intro hb;exact h (Nat.eq_of_beq_eq_true hb)
   rw [if_neg h,this];exact r8 t k l
def evK:Operand->Fr->(Value->Option ρ)->Option ρ:=@Operand.rec (fun _=>Fr->(Value->Option ρ)->Option ρ) (fun t fr k=>Dn t fr k) (fun v _ k=>k v) (fun _ _ _=>none) (fun f _ k=>k (.func (.func f) #[] #[]))
theorem cO(x:Operand)(fr:Fr)(k:Value->Option ρ):evK x fr k=(ev fr x).bind k:=by
 cases x<;>first
  | rfl
  | exact r8 _ _ _
def SU:List Operand->Fr->(List Value->Option ρ)->Option ρ:=@List.rec Operand (fun _=>Fr->(List Value->Option ρ)->Option ρ) (fun _ k=>k []) (fun x _ ih fr k=>evK x fr fun v=>ih fr fun l=>k (v::l))
theorem Dp:∀ (xs:List Operand) (fr:Fr) (k:List Value->Option ρ),SU xs fr k=(evs fr xs).bind k
 | [],fr,k=>rfl
 | x::l,fr,k=>by
  show evK x fr (fun v=>SU l fr fun l=>k (v::l))=_;rw [cO];simp only [evs];cases ev fr x with
  | none=>rfl
  | some v=>
   simp only [Option.bind_some,Dp l];cases evs fr l<;>rfl
def nN:Value->(IntKind->Int->Option ρ)->Option ρ->Option ρ:=
 @Value.rec (fun _=>(IntKind->Int->Option ρ)->Option ρ->Option ρ) (fun _=>PUnit) (fun _=>PUnit)
  (fun _ _ e=>e) (fun k n f _=>f k n) (fun _ _ _ e=>e) (fun _ _ _ _ e=>e) (fun _ _ e=>e) (fun _ _ e=>e) (fun _ _ _ _ e=>e) (fun _ _ e=>e) (fun _ _ e=>e) (fun _ _ _ _ _ _ e=>e) (fun _ e=>e) (fun _ _ _ _ e=>e) (fun _ e=>e) (fun _ _ _ e=>e) (fun _ _ _ e=>e) (fun _ _=>⟨⟩) ⟨⟩ (fun _ _ _ _=>⟨⟩)
def nF:Value->(Bool->Option ρ)->Option ρ->Option ρ:=
 @Value.rec (fun _=>(Bool->Option ρ)->Option ρ->Option ρ) (fun _=>PUnit) (fun _=>PUnit)
  (fun b f _=>f b) (fun _ _ _ e=>e) (fun _ _ _ e=>e) (fun _ _ _ _ e=>e) (fun _ _ e=>e) (fun _ _ e=>e) (fun _ _ _ _ e=>e) (fun _ _ e=>e) (fun _ _ e=>e) (fun _ _ _ _ _ _ e=>e) (fun _ e=>e) (fun _ _ _ _ e=>e) (fun _ e=>e) (fun _ _ _ e=>e) (fun _ _ _ e=>e) (fun _ _=>⟨⟩) ⟨⟩ (fun _ _ _ _=>⟨⟩)
def tT:Value->(Addr->Option ρ)->Option ρ->Option ρ:=
 @Value.rec (fun _=>(Addr->Option ρ)->Option ρ->Option ρ) (fun _=>PUnit) (fun _=>PUnit)
  (fun _ _ e=>e) (fun _ _ _ e=>e) (fun _ _ _ e=>e) (fun _ _ _ _ e=>e) (fun _ _ e=>e) (fun a f e=>@Option.rec Addr (fun _=>Option ρ) e f a) (fun _ _ _ _ e=>e) (fun _ _ e=>e) (fun _ _ e=>e) (fun _ _ _ _ _ _ e=>e) (fun _ e=>e) (fun _ _ _ _ e=>e) (fun _ e=>e) (fun _ _ _ e=>e) (fun _ _ _ e=>e) (fun _ _=>⟨⟩) ⟨⟩ (fun _ _ _ _=>⟨⟩)
theorem j0(k:IntKind)(n:Int)(f:IntKind->Int->Option ρ)(e:Option ρ):nN (.int k n) f e=f k n:=rfl
theorem GN(v:Value)(x y e:Option ρ):nF v (fun b=>@Bool.rec (fun _=>Option ρ) y x b) e=match some v with | some (.bool true)=>x | some (.bool false)=>y | _=>e:=by
 cases v<;>first
  | rfl
  | (rename_i b;cases b<;>rfl)
def j3:IntKind->Nat:=@IntKind.rec (fun _=>Nat) 0 1 2 3 4 5 6 7
theorem lU{a b:IntKind}(h:Nat.beq (j3 a) (j3 b)=true):a=b:=by have:=Nat.eq_of_beq_eq_true h;cases a<;>cases b<;>first | rfl | (simp [j3] at this)
def frc(m:Nat)(k:Nat->Option ρ):Option ρ:=@Nat.rec (fun _=>Option ρ) (k 0) (fun p _=>k (Nat.succ p)) m
theorem cP(m:Nat)(k:Nat->Option ρ):frc m k=k m:=by cases m<;>rfl
def fY{σ:Type}(f:Nat->σ)(g:Nat->σ)(i:Int):σ:=@Int.rec (fun _=>σ) f g i
def LC(m max:Nat)(x:Nat->Int)(k:Int->Option ρ)(iG:Option ρ):Option ρ:=@Bool.rec (fun _=>Option ρ) iG (frc m fun m=>k (x m)) (Nat.ble m max)
def BF(w:Nat)(i:Int)(k:Int->Option ρ)(iG:Option ρ):Option ρ:=fY (fun m=>frc (Nat.mod m w) fun m=>k (Int.ofNat m)) (fun _=>iG) i
def BG(max:Nat)(i:Int)(k:Int->Option ρ)(iG:Option ρ):Option ρ:=fY (fun m=>LC m max Int.ofNat k iG) (fun m=>LC m max Int.negSucc k iG) i
def abD:IntKind->Int->(Int->Option ρ)->Option ρ->Option ρ:=
 @IntKind.rec (fun _=>Int->(Int->Option ρ)->Option ρ->Option ρ) (BG 127) (BG 32767) (BG 2147483647) (BG 9223372036854775807) (BF 256) (BF 65536) (BF 4294967296) (BF 18446744073709551616)
def kJ(d:IntKind)(i:Int)(k:Int->Option ρ):Option ρ:=abD d i k (k (d.wrap i))
theorem GO{m max:Nat}{x:Nat->Int}{k:Int->Option ρ}{iG:Option ρ}(h:m<=max->k (x m)=iG):LC m max x k iG=iG:=by
 unfold LC;cases hb:Nat.ble m max with
 | false=>rfl
 | true=>simp only [cP];exact h (Nat.le_of_ble_eq_true hb)
theorem iZ(d:IntKind)(i:Int)(k:Int->Option ρ):kJ d i k=k (d.wrap i):=by
 unfold kJ;have hS:∀ (max:Nat) (b:Int),b=((max+1:Nat):Int)->(∀ j:Int,d.wrap j=let m:=j%(b*2);if m>=b then m - b*2 else m)->BG max i k (k (d.wrap i))=k (d.wrap i):=fun max b hb hw=>by
  unfold BG fY;cases i with
  | ofNat m=>
   refine GO fun h=>?_;congr 1;rw [hw];simp only [Int.ofNat_eq_natCast];have e:((m:Nat):Int)%(b*2)=m:=Int.emod_eq_of_lt (by omega) (by omega);rw [e,if_neg (by omega)]
  | negSucc m=>
   refine GO fun h=>?_;congr 1;rw [hw];have e:Int.negSucc m%(b*2)=Int.negSucc m+b*2:=by rw [<- Int.add_emod_right];exact Int.emod_eq_of_lt (by omega) (by omega)
   simp only [e];rw [if_pos (by omega)];omega
 have hU:∀ (w:Nat),0 < w->(∀ j:Int,d.wrap j=j%(w:Int))->BF w i k (k (d.wrap i))=k (d.wrap i):=fun w h0 hw=>by
  unfold BF fY;cases i with
  | ofNat m=>
   simp only [cP];rw [hw];rfl
  | negSucc m=>rfl
 cases d with
 | i8=>exact hS 127 128 rfl fun j=>by simp [IntKind.wrap,IntKind.signed,IntKind.bits]
 | i16=>exact hS 32767 32768 rfl fun j=>by simp [IntKind.wrap,IntKind.signed,IntKind.bits]
 | i32=>exact hS 2147483647 2147483648 rfl fun j=>by simp [IntKind.wrap,IntKind.signed,IntKind.bits]
 | i64=>exact hS 9223372036854775807 9223372036854775808 rfl fun j=>by simp [IntKind.wrap,IntKind.signed,IntKind.bits]
 | u8=>exact hU 256 (by omega) fun j=>by simp [IntKind.wrap,IntKind.signed,IntKind.bits]
 | u16=>exact hU 65536 (by omega) fun j=>by simp [IntKind.wrap,IntKind.signed,IntKind.bits]
 | u32=>exact hU 4294967296 (by omega) fun j=>by simp [IntKind.wrap,IntKind.signed,IntKind.bits]
 | u64=>exact hU 18446744073709551616 (by omega) fun j=>by simp [IntKind.wrap,IntKind.signed,IntKind.bits]
def JI(f:Nat->Nat->Option ρ)(e:Option ρ)(a b:Int):Option ρ:=fY (fun m=>fY (fun n=>f m n) (fun _=>e) b) (fun _=>e) a
theorem ng{f:Nat->Nat->Option ρ}{e:Option ρ}{a b:Int}(h:∀ m n:Nat,a=m->b=n->f m n=e):JI f e a b=e:=by
 unfold JI fY;cases a with
 | ofNat m=>cases b with
  | ofNat n=>exact h m n rfl rfl
  | negSucc n=>rfl
 | negSucc m=>rfl
def ltB(a b:Int):Bool:=fY (fun m=>fY (fun n=>Nat.ble (Nat.succ m) n) (fun _=>false) b) (fun m=>fY (fun _=>true) (fun n=>Nat.ble (Nat.succ n) m) b) a
theorem SV(a b:Int):ltB a b=decide (a < b):=by unfold ltB fY;rw [Bool.eq_iff_iff,decide_eq_true_eq];cases a<;>cases b<;>simp only [Nat.ble_eq,Bool.false_eq_true,false_iff,true_iff,Int.ofNat_eq_natCast]<;>omega
def leB(a b:Int):Bool:=fY (fun m=>fY (fun n=>Nat.ble m n) (fun _=>false) b) (fun m=>fY (fun _=>true) (fun n=>Nat.ble n m) b) a
theorem tU(a b:Int):leB a b=decide (a<=b):=by unfold leB fY;rw [Bool.eq_iff_iff,decide_eq_true_eq];cases a<;>cases b<;>simp only [Nat.ble_eq,Bool.false_eq_true,false_iff,true_iff,Int.ofNat_eq_natCast]<;>omega
def eqB(a b:Int):Bool:=fY (fun m=>fY (fun n=>Nat.beq m n) (fun _=>false) b) (fun m=>fY (fun _=>false) (fun n=>Nat.beq m n) b) a
theorem y9(a b:Int):eqB a b=(a==b):=by unfold eqB fY;rw [Bool.eq_iff_iff,beq_iff_eq];cases a<;>cases b<;>simp only [Nat.beq_eq,Bool.false_eq_true,false_iff,Int.ofNat_eq_natCast]<;>omega
abbrev lV(ρ:Type):=IntKind->Int->Int->(Value->Option ρ)->Option ρ->Option ρ
def abE:lV ρ:=fun d a b k _=>kJ d (Int.add a b) fun i=>k (.int d i)
def abF:lV ρ:=fun d a b k _=>kJ d (Int.sub a b) fun i=>k (.int d i)
def abG:lV ρ:=fun d a b k _=>kJ d (Int.mul a b) fun i=>k (.int d i)
def abH:lV ρ:=fun d a b k e=>JI (fun m n=>@Nat.rec (fun _=>Option ρ) e (fun p _=>kJ d (Int.ofNat (Nat.div m (Nat.succ p))) fun i=>k (.int d i)) n) e a b
def abI:lV ρ:=fun d a b k e=>JI (fun m n=>@Nat.rec (fun _=>Option ρ) e (fun p _=>frc (Nat.mod m (Nat.succ p)) fun r=>k (.int d (Int.ofNat r))) n) e a b
def LD:IntKind->Nat:=@IntKind.rec (fun _=>Nat) 256 65536 4294967296 18446744073709551616 256 65536 4294967296 18446744073709551616
def JJ(f:Nat->Nat->Nat):lV ρ:=fun d a b k e=>JI (fun m n=>kJ d (Int.ofNat (f (Nat.mod m (LD d)) (Nat.mod n (LD d)))) fun i=>k (.int d i)) e a b
def SW:IntKind->Nat:=@IntKind.rec (fun _=>Nat) 8 16 32 64 8 16 32 64
def Vz(m n:Nat):Nat:=@Bool.rec (fun _=>Nat) n m (Nat.ble m n)
def abJ:lV ρ:=fun d a b k e=>JI (fun m n=>kJ d (Int.ofNat (Nat.mul m (Nat.pow 2 (Vz n (SW d))))) fun i=>k (.int d i)) e a b
def abK:lV ρ:=fun d a b k e=>JI (fun m n=>frc (Nat.div m (Nat.pow 2 (Vz n (SW d)))) fun r=>k (.int d (Int.ofNat r))) e a b
def W9:lV ρ:=fun _ _ _ _ e=>e
def vp(f:Int->Int->Bool):lV ρ:=fun _ a b k _=>k (.bool (f a b))
def YM:BinOp->lV ρ:=@BinOp.rec (fun _=>lV ρ) abE abF abG abH abI (JJ Nat.land) (JJ Nat.lor) (JJ Nat.xor) abJ abK W9 (vp eqB) (vp fun a b=>!(eqB a b)) (vp ltB) (vp leB) (vp fun a b=>ltB b a) (vp fun a b=>leB b a)
def Dq:BinOp->Bool:=@BinOp.rec (fun _=>Bool) false false false false false false false false true true false false false false false false false
def SX(op:BinOp)(v w:Value)(k:Value->Option ρ):Option ρ:=
 nN v (fun d a=>nN w (fun d' b=>@Bool.rec (fun _=>Option ρ) (ob (bV op v w) k) (YM op d a b k (ob (bV op v w) k)) (or (Nat.beq (j3 d) (j3 d')) (Dq op))) (ob (bV op v w) k)) (ob (bV op v w) k)
theorem SY(d:IntKind):LD d=2 ^ d.bits:=by cases d<;>rfl
theorem r9(d:IntKind):SW d=d.bits:=by cases d<;>rfl
theorem wA(m n:Nat):Vz m n=min m n:=by
 unfold Vz;cases h:Nat.ble m n with
 | false=>
  have:¬ m<=n:=fun hl=>by rw [Nat.ble_eq_true_of_le hl] at h;cases h
  simp only [];omega
 | true=>have:=Nat.le_of_ble_eq_true h;simp only [];omega
theorem Dr{op:BinOp}{f:Nat->Nat->Nat}{d:IntKind}(g:BitVec d.bits->BitVec d.bits->BitVec d.bits)(hg:∀ x y,(g x y).toNat=f x.toNat y.toNat)
  (h:∀ a b,bV op (.int d a) (.int d b)=some (.int d (d.wrap ((g (BitVec.ofInt d.bits a) (BitVec.ofInt d.bits b)).toNat)))) (a b:Int) (k:Value->Option ρ) :
  JJ f d a b k ((bV op (.int d a) (.int d b)).bind k)=(bV op (.int d a) (.int d b)).bind k:=by
 refine ng fun m n hm hn=>?_;subst hm;subst hn;simp only [iZ];rw [h,Option.bind_some,hg];have e:∀ m:Nat,(BitVec.ofInt d.bits (m:Int)).toNat=Nat.mod m (LD d):=fun m=>by rw [SY,BitVec.toNat_ofInt];rfl
 rw [e,e];rfl
theorem VA(op:BinOp)(d:IntKind)(a b:Int)(k:Value->Option ρ):YM op d a b k ((bV op (.int d a) (.int d b)).bind k)=(bV op (.int d a) (.int d b)).bind k:=by
 cases op with
 | add=>show kJ d (Int.add a b) _=_;rw [iZ,EK];rfl
 | sub=>show kJ d (Int.sub a b) _=_;rw [iZ,EL];rfl
 | mul=>show kJ d (Int.mul a b) _=_;rw [iZ,EM];rfl
 | quo=>
  refine ng fun m n hm hn=>?_;subst hm;subst hn;cases n with
  | zero=>rfl
  | succ p=>
   show kJ d _ _=_;rw [iZ,EU,if_neg (by omega)];rfl
 | rem=>
  refine ng fun m n hm hn=>?_;subst hm;subst hn;cases n with
  | zero=>rfl
  | succ p=>
   show frc _ _=_;rw [cP,EV,if_neg (by omega)];rfl
 | and=>exact Dr (·&&&·) (fun x y=>rfl) (fun a b=>EW) a b k
 | or=>exact Dr (·|||·) (fun x y=>rfl) (fun a b=>Ku) a b k
 | xor=>exact Dr (· ^^^ ·) (fun x y=>rfl) (fun a b=>EX) a b k
 | shl=>
  refine ng fun m n hm hn=>?_;subst hm;subst hn;simp only [iZ];rw [xW,if_neg (by omega),wA,r9];simp
 | shr=>
  refine ng fun m n hm hn=>?_;subst hm;subst hn;simp only [cP];rw [xX,if_neg (by omega),wA,r9];have:Int.fdiv (m:Int) (2 ^ min n d.bits)=((m / 2 ^ min n d.bits:Nat):Int):=by rw [Int.fdiv_eq_ediv_of_nonneg _ (Int.le_of_lt (Int.pow_pos (by omega)))];simp
  simp only [Int.toNat_natCast,Option.bind_some,this];rfl
 | andNot=>rfl
 | eql=>show k (.bool (eqB a b))=_;rw [EN,y9];rfl
 | neq=>show k (.bool (!(eqB a b)))=_;rw [EO,y9];rfl
 | lss=>show k (.bool (ltB a b))=_;rw [EP,SV];rfl
 | leq=>show k (.bool (leB a b))=_;rw [ER,tU];rfl
 | gtr=>show k (.bool (ltB b a))=_;rw [ES,SV];rfl
 | geq=>show k (.bool (leB b a))=_;rw [ET,tU];rfl
theorem VB(op:BinOp)(v w:Value)(k:Value->Option ρ):SX op v w k=(bV op v w).bind k:=by
 unfold SX;simp only [jZ];cases v<;>try rfl
 cases w<;>try rfl
 rename_i d a d' b;simp only [j0];cases hs:Dq op with
 | true=>
  rw [Bool.or_true];simp only [];cases op<;>first | (simp [Dq] at hs;done) | skip
  ·refine ng fun m n hm hn=>?_;subst hm;subst hn;simp only [iZ];rw [xW,if_neg (by omega),wA,r9];simp
  ·refine ng fun m n hm hn=>?_;subst hm;subst hn;simp only [cP];rw [xX,if_neg (by omega),wA,r9];have:Int.fdiv (m:Int) (2 ^ min n d.bits)=((m / 2 ^ min n d.bits:Nat):Int):=by rw [Int.fdiv_eq_ediv_of_nonneg _ (Int.le_of_lt (Int.pow_pos (by omega)))];simp
   simp only [Int.toNat_natCast,Option.bind_some,this];rfl
 | false=>
  rw [Bool.or_false];cases hb:Nat.beq (j3 d) (j3 d') with
  | false=>rfl
  | true=>
   have:=lU hb;subst this;exact VA op d a b k
end
end AM
namespace AM
open Go
noncomputable section
variable{ρ:Type}
def sj{α:Type} : List α->Nat->(α->Option ρ)->Option ρ:=@List.rec α (fun _=>Nat->(α->Option ρ)->Option ρ) (fun _ _=>none) (fun a _ ih i k=>@Nat.rec (fun _=>Option ρ) (k a) (fun p _=>ih p k) i)
theorem jz{α:Type} : ∀ (l:List α) (i:Nat) (k:α->Option ρ),sj l i k=(l[i]?).bind k
 | [],i,k=>by simp [sj]
 | a::l,0,k=>rfl
 | a::l,i+1,k=>by show sj l i k=_;rw [jz l,List.getElem?_cons_succ]
def JK{α:Type}(v:α):List α->Nat->(List α->Option ρ)->Option ρ->Option ρ:=@List.rec α (fun _=>Nat->(List α->Option ρ)->Option ρ->Option ρ) (fun _ _ e=>e) (fun a l ih i k e=>@Nat.rec (fun _=>Option ρ) (k (v::l)) (fun p _=>ih p (fun l'=>k (a::l')) e) i)
theorem sk{α:Type}(v:α):∀ (l:List α) (i:Nat) (k:List α->Option ρ) (e:Option ρ),JK v l i k e=if i < l.length then k (l.set i v) else e
 | [],i,k,e=>by simp [JK]
 | a::l,0,k,e=>by show k (v::l)=_;simp
 | a::l,i+1,k,e=>by show JK v l i (fun l'=>k (a::l')) e=_;rw [sk v l];simp only [List.length_cons,List.set_cons_succ,Nat.add_lt_add_iff_right]
def vq(b:Nat):List Nat->Bool:=@List.rec Nat (fun _=>Bool) false (fun a _ ih=>@Bool.rec (fun _=>Bool) ih true (Nat.beq b a))
theorem gX(b:Nat):∀ l:List Nat,vq b l=l.contains b
 | []=>rfl
 | a::l=>by
  show @Bool.rec (fun _=>Bool) (vq b l) true (Nat.beq b a)=_;rw [List.contains_cons];cases h:Nat.beq b a with
  | true=>have:=Nat.eq_of_beq_eq_true h;subst this;simp
  | false=>
   have:(b==a)=false:=by rw [Bool.eq_false_iff];intro hb;have:=eq_of_beq hb;subst this;rw [Nat.beq_refl] at h;cases h
   rw [this,Bool.false_or];exact gX b l
def za{α:Type} : List α->Nat->Bool:=@List.rec α (fun _=>Nat->Bool) (fun _=>true) (fun _ _ ih n=>@Nat.rec (fun _=>Bool) false (fun p _=>ih p) n)
theorem tV{α:Type} : ∀ (l:List α) (n:Nat),za l n=decide (l.length<=n)
 | [],n=>by simp [za]
 | a::l,0=>by show false=_;simp
 | a::l,n+1=>by show za l n=_;rw [tV l];simp
def dN{α:Type} : List α->Nat:=@List.rec α (fun _=>Nat) 0 (fun _ _ ih=>Nat.succ ih)
theorem cr{α:Type} : ∀ l:List α,dN l=l.length
 | []=>rfl
 | a::l=>by show Nat.succ (dN l)=_;rw [cr l];rfl
def GP{α:Type} : List α->Nat->(List α->Option ρ)->Option ρ:=@List.rec α (fun _=>Nat->(List α->Option ρ)->Option ρ) (fun off k=>@Nat.rec (fun _=>Option ρ) (k []) (fun _ _=>none) off) (fun a l ih off k=>@Nat.rec (fun _=>Option ρ) (k (a::l)) (fun p _=>ih p k) off)
theorem zb{α:Type} : ∀ (l:List α) (n:Nat) (k:List α->Option ρ),GP l n k=if n<=l.length then k (l.drop n) else none
 | [],0,k=>rfl
 | [],n+1,k=>by show none=_;simp
 | a::l,0,k=>by show k (a::l)=_;simp
 | a::l,n+1,k=>by show GP l n k=_;rw [zb l];simp only [List.length_cons,Nat.add_le_add_iff_right,List.drop_succ_cons]
def zc{α:Type} : List α->Nat->(List α->Option ρ)->Option ρ:=@List.rec α (fun _=>Nat->(List α->Option ρ)->Option ρ) (fun off k=>@Nat.rec (fun _=>Option ρ) (k []) (fun _ _=>none) off) (fun a l ih off k=>@Nat.rec (fun _=>Option ρ) (k []) (fun p _=>ih p fun l'=>k (a::l')) off)
theorem oG{α:Type} : ∀ (l:List α) (n:Nat) (k:List α->Option ρ),zc l n k=if n<=l.length then k (l.take n) else none
 | [],0,k=>rfl
 | [],n+1,k=>by show none=_;simp
 | a::l,0,k=>by show k []=_;simp
 | a::l,n+1,k=>by show zc l n (fun l'=>k (a::l'))=_;rw [oG l];simp only [List.length_cons,Nat.add_le_add_iff_right,List.take_succ_cons]
theorem nh:∀ (vs cs:List Value) (a:Value) (off:Nat),putAt (a::cs) (off+1) vs=a::putAt cs off vs
 | [],cs,a,off=>rfl
 | v::vs,cs,a,off=>by simp only [putAt,List.set_cons_succ];exact nh vs _ a (off+1)
def OC:List Value->List Value->(List Value->Option ρ)->Option ρ:=@List.rec Value (fun _=>List Value->(List Value->Option ρ)->Option ρ) (fun cs k=>k cs) (fun v _ ih cs k=>@List.rec Value (fun _=>Option ρ) none (fun _ cs' _=>ih cs' fun l=>k (v::l)) cs)
theorem Ds:∀ (vs cs:List Value) (k:List Value->Option ρ),OC vs cs k=if vs.length<=cs.length then k (putAt cs 0 vs) else none
 | [],cs,k=>by show k cs=_;simp [putAt]
 | v::vs,[],k=>by show none=_;simp
 | v::vs,c::cs,k=>by show OC vs cs (fun l=>k (v::l))=_;rw [Ds vs cs];simp only [List.length_cons,Nat.add_le_add_iff_right,putAt,List.set_cons_zero,nh]
def pmK(vs:List Value):List Value->Nat->(List Value->Option ρ)->Option ρ:=@List.rec Value (fun _=>Nat->(List Value->Option ρ)->Option ρ) (fun off k=>@Nat.rec (fun _=>Option ρ) (OC vs [] k) (fun _ _=>none) off) (fun a l ih off k=>@Nat.rec (fun _=>Option ρ) (OC vs (a::l) k) (fun p _=>ih p fun l'=>k (a::l')) off)
theorem SZ(vs:List Value):∀ (cs:List Value) (off:Nat) (k:List Value->Option ρ),pmK vs cs off k=if off+vs.length<=cs.length then k (putAt cs off vs) else none
 | [],0,k=>by show OC vs [] k=_;rw [Ds];simp
 | [],off+1,k=>by show none=_;rw [if_neg (by simp)]
 | a::l,0,k=>by show OC vs (a::l) k=_;rw [Ds];simp
 | a::l,off+1,k=>by
  show pmK vs l off (fun l'=>k (a::l'))=_;rw [SZ vs l];have:(off+1+vs.length<=(a::l).length)↔(off+vs.length<=l.length):=by simp only [List.length_cons];omega
  simp only [this,nh]
theorem vf:∀ (vs cs:List Value),vs.length=cs.length->putAt cs 0 vs=vs
 | [],[],_=>rfl
 | [],c::cs,h=>by simp at h
 | v::vs,[],h=>by simp at h
 | v::vs,c::cs,h=>by show putAt ((c::cs).set 0 v) 1 vs=_;rw [List.set_cons_zero,nh,vf vs cs (by simpa using h)]
def YN(vs cs:List Value)(off:Nat)(k:List Value->Option ρ):Option ρ:=@Bool.rec (fun _=>Option ρ) (pmK vs cs off k) (k vs) (and (Nat.beq off 0) (Nat.beq (dN vs) (dN cs)))
theorem VC(vs cs:List Value)(off:Nat)(k:List Value->Option ρ):YN vs cs off k=if off+vs.length<=cs.length then k (putAt cs off vs) else none:=by
 unfold YN;cases h:and (Nat.beq off 0) (Nat.beq (dN vs) (dN cs)) with
 | false=>exact SZ vs cs off k
 | true=>
  rw [Bool.and_eq_true] at h;have h1:=Nat.eq_of_beq_eq_true h.1;have h2:=Nat.eq_of_beq_eq_true h.2;rw [cr,cr] at h2;subst h1;rw [if_pos (by omega),vf vs cs h2]
def LF{α:Type}(b:α):List α->(List α->Option ρ)->Option ρ:=@List.rec α (fun _=>(List α->Option ρ)->Option ρ) (fun k=>k [b]) (fun a _ ih k=>ih fun l=>k (a::l))
theorem ze{α:Type}(b:α):∀ (l:List α) (k:List α->Option ρ),LF b l k=k (l++[b])
 | [],k=>rfl
 | a::l,k=>by show LF b l (fun l=>k (a::l))=_;rw [ze b l];rfl
def stE(σ:St)(f:List Blk->Nat->List Nat->List Nat->Option ρ):Option ρ:=@St.rec (fun _=>Option ρ) f σ
theorem ef(σ:St)(f:List Blk->Nat->List Nat->List Nat->Option ρ):stE σ f=f σ.heap σ.lock σ.hid σ.af:=by cases σ;rfl
def Dt:Blk->(Nat->Bool->List Value->Option ρ)->Option ρ:=@Blk.rec (fun _=>(Nat->Bool->List Value->Option ρ)->Option ρ) (fun g pl cs k=>k g pl cs) (fun _ _=>none) (fun _=>none)
def GQ(s:Option Nat)(g:Nat):Bool:=@Option.rec Nat (fun _=>Bool) false (fun s=>Nat.beq s g) s
theorem sq(s:Option Nat)(g:Nat):GQ s g=decide (s=some g):=by
 cases s with
 | none=>simp [GQ]
 | some s=>
  show Nat.beq s g=_;rw [Bool.eq_iff_iff];simp
def z8(hp:List Blk)(H:List Nat)(a:Addr)(k:Nat->Bool->List Value->Option ρ):Option ρ:=
 @Bool.rec (fun _=>Option ρ) (sj hp a.block fun b=>Dt b fun g pl cs=>@Bool.rec (fun _=>Option ρ) none (k g pl cs) (GQ a.spot g)) none (vq a.block H)
theorem LG(σ:St)(a:Addr)(k:Bool->List Value->Option ρ):z8 σ.heap σ.hid a (fun _=>k)=(σ.blk a).bind fun r=>k r.1 r.2:=by
 unfold z8 St.blk;rw [gX];cases σ.hid.contains a.block with
 | true=>rfl
 | false=>
  simp only [Bool.false_eq_true,if_false,jz];cases σ.heap[a.block]? with
  | none=>rfl
  | some b=>
   cases b with
   | cells g pl cs=>
    simp only [Option.bind_some,sq];show @Bool.rec (fun _=>Option ρ) none (k pl cs) (decide (a.spot=some g))=_;by_cases h:a.spot=some g
    ·simp [h]
    ·simp [h]
   | _=>rfl
def rdK(cs:List Value)(off:Nat)(n:Option Nat)(k:Value->Option ρ):Option ρ:=
 @Option.rec Nat (fun _=>Option ρ) (sj cs off k) (fun n=>@Bool.rec (fun _=>Option ρ) (GP cs off fun l=>zc l n fun l=>k (.agg (Array.mk l))) (k (.agg (Array.mk cs))) (and (Nat.beq off 0) (Nat.beq (dN cs) n))) n
theorem Du(cs:List Value)(off:Nat)(n:Option Nat)(k:Value->Option ρ):rdK cs off n k=(bM cs off n).bind k:=by
 cases n with
 | none=>show sj cs off k=_;rw [jz];rfl
 | some n=>
  show @Bool.rec (fun _=>Option ρ) _ _ (and (Nat.beq off 0) (Nat.beq (dN cs) n))=_;cases h:and (Nat.beq off 0) (Nat.beq (dN cs) n) with
  | false=>
   show (GP cs off fun l=>zc l n fun l=>k (.agg (Array.mk l)))=_;simp only [zb,oG,bM,List.length_drop];by_cases h1:off+n<=cs.length
   ·rw [if_pos (by omega),if_pos (by omega),if_pos h1];rfl
   ·rw [if_neg h1];by_cases h2:off<=cs.length
    ·rw [if_pos h2,if_neg (by omega)];rfl
    ·rw [if_neg h2];rfl
  | true=>
   rw [Bool.and_eq_true] at h;have h1:=Nat.eq_of_beq_eq_true h.1;have h2:=Nat.eq_of_beq_eq_true h.2;rw [cr] at h2;subst h1;subst h2;simp only [bM,Nat.zero_add,Nat.le_refl,if_true,Option.bind_some,List.drop_zero,List.take_length]
def LH(n:Option Nat)(v:Value)(σ:St)(k:Value->St->Option ρ):Option ρ:=
 stE σ fun hp L H d=>tT v (fun a=>z8 hp H a fun _ _ cs=>rdK cs a.off n fun u=>k u (St.mk hp L H d)) none
theorem jA(v:Value)(f:Addr->Option ρ):tT v f none=match v with | .pointer (some a)=>f a | _=>none:=by
 cases v<;>first
  | rfl
  | (rename_i a;cases a<;>rfl)
theorem S0(aa:au)(n:Option Nat)(x:Operand)(fr:Fr)(σ:St)(k:Value->St->Option ρ):evK x fr (fun v=>LH n v σ k)=(aop aa (.load n x) fr σ).bind fun r=>k r.1 r.2:=by
 rw [cO,E6];cases ev fr x with
 | none=>rfl
 | some v=>
  simp only [Option.bind_some,LH,ef,jA];cases v<;>try rfl
  rename_i a;cases a with
  | none=>rfl
  | some a=>
   simp only [xZ];rw [LG σ a (fun _ cs=>rdK cs a.off n fun u=>k u ⟨σ.heap,σ.lock,σ.hid,σ.af⟩)];cases σ.blk a with
   | none=>rfl
   | some r=>
    obtain ⟨pl,cs⟩:=r;simp only [Option.bind_some,uJ,Du];cases bM cs a.off n<;>rfl
def scB:Value->Bool:=
 @Value.rec (fun _=>Bool) (fun _=>PUnit) (fun _=>PUnit)
  (fun _=>true) (fun _ _=>true) (fun _ _=>false) (fun _ _ _=>false) (fun _=>true) (fun a=>@Option.rec Addr (fun _=>Bool) true (fun _=>false) a) (fun a l c=>sc (.slice a l c)) (fun r=>sc (.map r)) (fun _=>false) (fun f fi ca _ _=>sc (.func f fi ca)) true (fun t v _=>sc (.iface t v)) true (fun _ _=>false) (fun _ _=>false) (fun _ _=>⟨⟩) ⟨⟩ (fun _ _ _ _=>⟨⟩)
theorem S3(v:Value):scB v=sc v:=by
 cases v<;>first
  | rfl
  | (rename_i a;cases a<;>rfl)
def qI:Value->Bool:=
 @Value.rec (fun _=>Bool) (fun _=>PUnit) (fun _=>PUnit)
  (fun _=>true) (fun _ _=>true) (fun _ _=>false) (fun _ _ _=>false) (fun _=>true) (fun _=>true) (fun a l c=>@Option.rec Addr (fun _=>Bool) (aW (.slice none l c)) (fun _=>true) a) (fun r=>aW (.map r)) (fun r=>aW (.chan r)) (fun f fi ca _ _=>aW (.func f fi ca)) true (fun t v _=>aW (.iface t v)) true (fun _ _=>false) (fun _ _=>false) (fun _ _=>⟨⟩) ⟨⟩ (fun _ _ _ _=>⟨⟩)
theorem BH(v:Value):qI v=aW v:=by
 cases v<;>first
  | rfl
  | (rename_i a;cases a<;>rfl)
  | (rename_i a l c;cases a<;>rfl)
def OD:Value->Bool:=
 @Value.rec (fun _=>Bool) (fun _=>PUnit) (fun _=>PUnit)
  (fun _=>false) (fun _ _=>false) (fun _ _=>false) (fun _ _ _=>false) (fun _=>false) (fun _=>false) (fun _ _ _=>false) (fun _=>false) (fun _=>false) (fun _ _ _ _ _=>false) false (fun _ _ _=>false) false (fun _ _=>true) (fun _ _=>false) (fun _ _=>⟨⟩) ⟨⟩ (fun _ _ _ _=>⟨⟩)
theorem JL{v:Value}(h:OD v=false):cellsOf v=[v]:=by
 cases v<;>first
  | rfl
  | (simp [OD] at h)
def aF{α:Type}(c:Bool)(x y:α):α:=@Bool.rec (fun _=>α) y x c
def Dv(hp:List Blk)(L:Nat)(H d:List Nat)(a:Addr)(v:Value)(k:St->Option ρ):Option ρ:=
 aF (Nat.ble L a.block) (z8 hp H a fun g pl cs=>
  aF (and (qI v) (or (not pl) (scB v)))
   (JK v cs a.off (fun cs'=>JK (.cells g pl cs') hp a.block (fun hp'=>k (St.mk hp' L H (aF (or (scB v) (vq a.block d)) d (a.block::d)))) none) none) none) none
theorem JM(σ:St)(a:Addr)(v:Value)(k:St->Option ρ):Dv σ.heap σ.lock σ.hid σ.af a v k=(σ.write a [v]).bind k:=by
 unfold Dv St.write aF;by_cases hL:a.block < σ.lock
 ·rw [if_pos hL];have:Nat.ble σ.lock a.block=false:=by rw [Bool.eq_false_iff];intro h;have:=Nat.le_of_ble_eq_true h;omega
  rw [this];rfl
 ·rw [if_neg hL];have:Nat.ble σ.lock a.block=true:=Nat.ble_eq_true_of_le (by omega);rw [this];simp only [];unfold z8 St.blk;rw [gX a.block σ.hid];cases σ.hid.contains a.block with
  | true=>rfl
  | false=>
   simp only [Bool.false_eq_true,if_false,jz];cases hb:σ.heap[a.block]? with
   | none=>rfl
   | some b=>
    have hlt:a.block < σ.heap.length:=(List.getElem?_eq_some_iff.1 hb).1;cases b with
    | cells g pl cs=>
     simp only [Option.bind_some,sq];show @Bool.rec (fun _=>Option ρ) none _ (decide (a.spot=some g))=_;by_cases h:a.spot=some g
     ·simp only [h,decide_true,if_true,Option.bind_some,List.length_singleton,List.all_cons,List.all_nil,Bool.and_true];rw [BH,S3,sk];by_cases hoff:a.off < cs.length
      ·rw [if_pos hoff];have h1:decide (a.off+1<=cs.length)=true:=decide_eq_true (by omega);rw [h1,Bool.true_and];cases hc:(aW v&&(!pl||sc v)) with
       | false=>rfl
       | true=>
        simp only [if_true,hb,sk,if_pos hlt,Option.bind_some,putAt,bu,List.all_cons,List.all_nil,Bool.and_true,gX];cases (sc v||σ.af.contains a.block)<;>rfl
      ·rw [if_neg hoff];have h1:decide (a.off+1<=cs.length)=false:=decide_eq_false (by omega);rw [h1];cases (aW v&&(!pl||sc v))<;>rfl
     ·simp [h]
    | _=>rfl
def lW{α:Type}(f:α->Bool):List α->Bool:=@List.rec α (fun _=>Bool) true (fun a _ ih=>@Bool.rec (fun _=>Bool) false ih (f a))
theorem kK{α:Type}(f:α->Bool):∀ l:List α,lW f l=l.all f
 | []=>rfl
 | a::l=>by show @Bool.rec (fun _=>Bool) false (lW f l) (f a)=_;rw [List.all_cons,kK f l];cases f a<;>rfl
theorem ni:qI=aW:=funext BH
theorem wB:scB=sc:=funext S3
def JN(hp:List Blk)(L:Nat)(H d:List Nat)(a:Addr)(vs:List Value)(k:St->Option ρ):Option ρ:=
 aF (Nat.ble L a.block) (z8 hp H a fun g pl cs=>
  aF (and (lW qI vs) (or (not pl) (lW scB vs)))
   (YN vs cs a.off (fun cs'=>JK (.cells g pl cs') hp a.block (fun hp'=>k (St.mk hp' L H (aF (or (lW scB vs) (vq a.block d)) d (a.block::d)))) none)) none) none
theorem OE(σ:St)(a:Addr)(vs:List Value)(k:St->Option ρ):JN σ.heap σ.lock σ.hid σ.af a vs k=(σ.write a vs).bind k:=by
 unfold JN St.write aF;by_cases hL:a.block < σ.lock
 ·rw [if_pos hL];have:Nat.ble σ.lock a.block=false:=by rw [Bool.eq_false_iff];intro h;have:=Nat.le_of_ble_eq_true h;omega
  rw [this];rfl
 ·rw [if_neg hL];have:Nat.ble σ.lock a.block=true:=Nat.ble_eq_true_of_le (by omega);rw [this];simp only [];unfold z8 St.blk;rw [gX a.block σ.hid];cases σ.hid.contains a.block with
  | true=>rfl
  | false=>
   simp only [Bool.false_eq_true,if_false,jz];cases hb:σ.heap[a.block]? with
   | none=>rfl
   | some b=>
    have hlt:a.block < σ.heap.length:=(List.getElem?_eq_some_iff.1 hb).1;cases b with
    | cells g pl cs=>
     simp only [Option.bind_some,sq];show @Bool.rec (fun _=>Option ρ) none _ (decide (a.spot=some g))=_;by_cases h:a.spot=some g
     ·simp only [h,decide_true,if_true,Option.bind_some];rw [ni,wB,kK,kK,VC];by_cases hoff:a.off+vs.length<=cs.length
      ·rw [if_pos hoff];have h1:decide (a.off+vs.length<=cs.length)=true:=decide_eq_true hoff;rw [h1,Bool.true_and];cases hc:(vs.all aW&&(!pl||vs.all sc)) with
       | false=>rfl
       | true=>
        simp only [if_true,hb,sk,if_pos hlt,Option.bind_some,bu,gX];cases (vs.all sc||σ.af.contains a.block)<;>rfl
      ·rw [if_neg hoff];have h1:decide (a.off+vs.length<=cs.length)=false:=decide_eq_false hoff;rw [h1];cases (vs.all aW&&(!pl||vs.all sc))<;>rfl
     ·simp [h]
    | _=>rfl
def tW(n:Nat)(p v:Value)(σ:St)(k:Value->St->Option ρ):Option ρ:=
 aF (or (OD v) (not (Nat.beq n 1)))
  (stE σ fun hp L H d=>tT p (fun a=>aF (Nat.beq (dN (cellsOf v)) n) (JN hp L H d a (cellsOf v) fun σ'=>k (.tuple #[]) σ') none) none)
  (stE σ fun hp L H d=>tT p (fun a=>Dv hp L H d a v fun σ'=>k (.tuple #[]) σ') none)
theorem OF(aa:au)(n:Nat)(x y:Operand)(fr:Fr)(σ:St)(k:Value->St->Option ρ):evK y fr (fun v=>evK x fr fun p=>tW n p v σ k)=(aop aa (.store n x y) fr σ).bind fun r=>k r.1 r.2:=by
 rw [cO,AF];cases ev fr y with
 | none=>cases ev fr x<;>(try rename_i v;cases v<;>(try rename_i a;cases a<;>rfl)<;>rfl)<;>rfl
 | some v=>
  simp only [Option.bind_some,cO];cases ev fr x with
  | none=>rfl
  | some p=>
   simp only [Option.bind_some];cases p<;>try (simp only [tW,ef,jA,aF,tG];cases (or (OD v) (not (Nat.beq n 1)))<;>rfl)
   rename_i a;cases a with
   | none=>simp only [tW,ef,jA,aF,tG];cases (or (OD v) (not (Nat.beq n 1)))<;>rfl
   | some a=>
    rw [uK];unfold tW;cases hc:or (OD v) (not (Nat.beq n 1)) with
    | true=>
     simp only [aF,jA,ef,OE];cases hn:Nat.beq (dN (cellsOf v)) n with
     | true=>
      have:=Nat.eq_of_beq_eq_true hn;rw [cr] at this;rw [if_pos this];cases σ.write a (cellsOf v)<;>rfl
     | false=>
      have:¬ (cellsOf v).length=n:=fun e=>by rw [cr,e,Nat.beq_refl] at hn;cases hn
      rw [if_neg this];rfl
    | false=>
     rw [Bool.or_eq_false_iff] at hc;obtain ⟨h1,h2⟩:=hc;have hn:n=1:=by
      have:Nat.beq n 1=true:=by cases hq:Nat.beq n 1<;>simp [hq] at h2 ⊢
      exact Nat.eq_of_beq_eq_true this
     subst hn;simp only [aF,ef,jA,JM,JL h1,List.length_singleton,if_true];cases σ.write a [v]<;>rfl
abbrev OpF(ρ:Type):=au->Fr->St->(Value->St->Option ρ)->Option ρ
def cZ(o:AOp):OpF ρ:=fun aa fr σ k=>ob (aop aa o fr σ) fun r=>k r.1 r.2
def S4(f:Value->Option Value)(x:Operand):OpF ρ:=fun _ fr σ k=>evK x fr fun v=>ob (f v) fun u=>k u σ
def VD(f:Value->Value->Option Value)(x y:Operand):OpF ρ:=fun _ fr σ k=>evK x fr fun v=>evK y fr fun w=>ob (f v w) fun u=>k u σ
def S6(d:IntKind)(x:Operand):OpF ρ:=fun _ fr σ k=>evK x fr fun v=>nN v (fun _ n=>kJ d n fun i=>k (.int d i) σ) none
def z9(n:Nat)(i:Value)(k:Nat->Option ρ):Option ρ:=nN i (fun _ i=>fY (fun m=>aF (Nat.ble (Nat.succ m) n) (frc m k) none) (fun _=>none) i) none
theorem Dw(n:Nat)(i:Value)(k:Nat->Option ρ):z9 n i k=(qi n i).bind k:=by
 unfold z9;cases i<;>try rfl
 rename_i d i;simp only [j0,qi,aF,cP,fY];cases i with
 | ofNat m=>
  show @Bool.rec (fun _=>Option ρ) none (k m) (Nat.ble (Nat.succ m) n)=_;cases h:Nat.ble (Nat.succ m) n with
  | true=>have:=Nat.le_of_ble_eq_true h;rw [if_pos ⟨by simp only [Int.ofNat_eq_natCast];omega,by simp only [Int.ofNat_eq_natCast];omega⟩];rfl
  | false=>
   have:¬ Nat.succ m<=n:=fun hl=>by rw [Nat.ble_eq_true_of_le hl] at h;cases h
   rw [if_neg (by simp only [Int.ofNat_eq_natCast];omega)];rfl
 | negSucc m=>rw [if_neg (by omega)];rfl
def zf:Value->(Array Value->Option ρ)->Option ρ:=
 @Value.rec (fun _=>(Array Value->Option ρ)->Option ρ) (fun _=>PUnit) (fun _=>PUnit)
  (fun _ _=>none) (fun _ _ _=>none) (fun _ _ _=>none) (fun _ _ _ _=>none) (fun _ _=>none) (fun _ _=>none) (fun _ _ _ _=>none) (fun _ _=>none) (fun _ _=>none) (fun _ _ _ _ _ _=>none) (fun _=>none) (fun _ _ _ _=>none) (fun _=>none) (fun cs _ f=>f cs) (fun _ _ _=>none) (fun _ _=>⟨⟩) ⟨⟩ (fun _ _ _ _=>⟨⟩)
def OG:Value->(Array Value->Option ρ)->Option ρ:=
 @Value.rec (fun _=>(Array Value->Option ρ)->Option ρ) (fun _=>PUnit) (fun _=>PUnit)
  (fun _ _=>none) (fun _ _ _=>none) (fun _ _ _=>none) (fun _ _ _ _=>none) (fun _ _=>none) (fun _ _=>none) (fun _ _ _ _=>none) (fun _ _=>none) (fun _ _=>none) (fun _ _ _ _ _ _=>none) (fun _=>none) (fun _ _ _ _=>none) (fun _=>none) (fun _ _ _=>none) (fun vs _ f=>f vs) (fun _ _=>⟨⟩) ⟨⟩ (fun _ _ _ _=>⟨⟩)
def slE:Value->(Option Addr->Nat->Nat->Option ρ)->Option ρ:=
 @Value.rec (fun _=>(Option Addr->Nat->Nat->Option ρ)->Option ρ) (fun _=>PUnit) (fun _=>PUnit)
  (fun _ _=>none) (fun _ _ _=>none) (fun _ _ _=>none) (fun _ _ _ _=>none) (fun _ _=>none) (fun _ _=>none) (fun a l c f=>f a l c) (fun _ _=>none) (fun _ _=>none) (fun _ _ _ _ _ _=>none) (fun _=>none) (fun _ _ _ _=>none) (fun _=>none) (fun _ _ _=>none) (fun _ _ _=>none) (fun _ _=>⟨⟩) ⟨⟩ (fun _ _ _ _=>⟨⟩)
def adE(a:Addr)(f:Nat->Nat->Option Nat->Option ρ):Option ρ:=@Addr.rec (fun _=>Option ρ) f a
def YO(esz n:Nat)(m:Option Nat)(x i:Operand):OpF ρ:=fun _ fr σ k=>evK x fr fun v=>evK i fr fun w=>zf v fun cs=>z9 n w fun j=>rdK cs.toList (Nat.mul j esz) m fun u=>k u σ
def JO(off:Nat)(n:Option Nat)(x:Operand):OpF ρ:=fun _ fr σ k=>evK x fr fun v=>zf v fun cs=>rdK cs.toList off n fun u=>k u σ
def YP(x:Operand)(i:Nat):OpF ρ:=fun _ fr σ k=>evK x fr fun v=>OG v fun vs=>sj vs.toList i fun u=>k u σ
def YQ(x:Operand):OpF ρ:=fun _ fr σ k=>evK x fr fun v=>slE v fun _ n _=>k (.int .i64 (Int.ofNat n)) σ
def JP(off:Nat)(x:Operand):OpF ρ:=fun _ fr σ k=>evK x fr fun v=>tT v (fun a=>adE a fun b o s=>frc (Nat.add o off) fun o'=>k (.pointer (some (Addr.mk b o' s))) σ) none
def JQ(esz:Nat)(x i:Operand):OpF ρ:=fun _ fr σ k=>evK x fr fun v=>evK i fr fun w=>slE v fun a n _=>@Option.rec Addr (fun _=>Option ρ) none (fun a=>z9 n w fun j=>adE a fun b o s=>frc (Nat.add o (Nat.mul j esz)) fun o'=>k (.pointer (some (Addr.mk b o' s))) σ) a
def Dx(esz n:Nat)(x i:Operand):OpF ρ:=fun _ fr σ k=>evK x fr fun v=>evK i fr fun w=>tT v (fun a=>z9 n w fun j=>adE a fun b o s=>frc (Nat.add o (Nat.mul j esz)) fun o'=>k (.pointer (some (Addr.mk b o' s))) σ) none
def S8(f:FuncId)(args:List Operand):OpF ρ:=fun aa fr σ k=>SU args fr fun vs=>ob (aa (.func f) vs σ) fun r=>@Prod.rec Value St (fun _=>Option ρ) k r
def S9(c a b:Operand):OpF ρ:=fun _ fr σ k=>evK c fr fun v=>nF v (fun q=>@Bool.rec (fun _=>Option ρ) (evK b fr fun u=>k u σ) (evK a fr fun u=>k u σ) q) none
def VE(pl:Bool)(v:Value)(σ:St)(k:Value->St->Option ρ):Option ρ:=
 aF (and (lW qI (cellsOf v)) (or (not pl) (lW scB (cellsOf v)))) (stE σ fun hp L H d=>frc (dN hp) fun n=>LF (.cells 0 pl (cellsOf v)) hp fun hp'=>k (.pointer (some (Addr.mk n 0 (some 0)))) (St.mk hp' L H d)) none
theorem VF(aa:au)(pl:Bool)(x:Operand)(fr:Fr)(σ:St)(k:Value->St->Option ρ):evK x fr (fun v=>VE pl v σ k)=(aop aa (.box pl x) fr σ).bind fun r=>k r.1 r.2:=by
 rw [cO];simp only [aop];cases ev fr x with
 | none=>rfl
 | some v=>
  simp only [Option.bind_some,VE,ni,wB,kK,ef,cP,cr,ze,aF];cases ((cellsOf v).all aW&&(!pl||(cellsOf v).all sc))<;>rfl
def opK:AOp->OpF ρ:=@AOp.rec (fun _=>OpF ρ)
 (fun x _ fr σ k=>evK x fr fun v=>k v σ) S9 (fun pl zs=>cZ (.alloc pl zs)) (fun pl x _ fr σ k=>evK x fr fun v=>VE pl v σ k) (fun zs ps=>cZ (.build zs ps)) (fun pl e n zs ps=>cZ (.dO pl e n zs ps))
 (fun n x _ fr σ k=>evK x fr fun v=>LH n v σ k) (fun n x y _ fr σ k=>evK y fr fun v=>evK x fr fun p=>tW n p v σ k) (S4 x8) (fun op x y _ fr σ k=>evK x fr fun v=>evK y fr fun w=>SX op v w fun u=>k u σ)
 (fun g s=>VD (eqF g s)) (fun op=>S4 (aun op)) S6 (fun x=>cZ (.zI x)) (fun x=>cZ (.qg x)) (fun x=>cZ (.mark x)) (fun f a b=>cZ (.zJ f a b)) (fun p e z l c=>cZ (.eA p e z l c))
 (fun e x l h m=>cZ (.slice e x l h m)) (fun e n x l h m=>cZ (.lY e n x l h m)) (fun x l h=>cZ (.kT x l h)) JP JO JQ Dx YO (VD E9) YP S8 (fun x a=>cZ (.dw x a)) (fun p e x y=>cZ (.append p e x y))
 YQ (S4 KA) (fun n _ _ σ k=>k (.int .i64 n) σ) (fun x=>cZ (.cap x)) (fun e x y=>cZ (.copy e x y)) (fun e z x=>cZ (.clear e z x)) (fun b xs=>cZ (.mm b xs)) (fun f=>cZ (.native f)) (fun x y=>cZ (.jl x y)) (cZ .iP) (fun a s m k x=>cZ (.jc a s m k x)) (fun a s z o m k=>cZ (.wG a s z o m k)) (fun m=>cZ (.wH m)) (fun t x=>cZ (.Ht t x)) (fun t x a=>cZ (.zK t x a)) (fun x c=>cZ (.DT x c)) (fun n=>cZ (.DU n))
theorem oH(o:AOp)(aa:au)(fr:Fr)(σ:St)(k:Value->St->Option ρ):cZ o aa fr σ k=(aop aa o fr σ).bind fun r=>k r.1 r.2:=jZ _ _
theorem Dy{f:Value->Option Value}{x:Operand}{aa:au}{fr:Fr}{σ:St}{o:AOp}(h:aop aa o fr σ=n5 σ f (ev fr x))(k:Value->St->Option ρ):S4 f x aa fr σ k=(aop aa o fr σ).bind fun r=>k r.1 r.2:=by
 rw [h];unfold S4;rw [cO];cases ev fr x with
 | none=>rfl
 | some v=>
  simp only [Option.bind_some,gu,jZ];cases f v<;>rfl
theorem LI{f:Value->Value->Option Value}{x y:Operand}{aa:au}{fr:Fr}{σ:St}{o:AOp}(h:aop aa o fr σ=n6 σ f (ev fr x) (ev fr y))(k:Value->St->Option ρ):VD f x y aa fr σ k=(aop aa o fr σ).bind fun r=>k r.1 r.2:=by
 rw [h];unfold VD;simp only [cO];cases ev fr x with
 | none=>rfl
 | some v=>
  cases ev fr y with
  | none=>rfl
  | some w=>
   simp only [Option.bind_some,iU,jZ];cases f v w<;>rfl
theorem zg(o:AOp)(aa:au)(fr:Fr)(σ:St)(k:Value->St->Option ρ):opK o aa fr σ k=(aop aa o fr σ).bind fun r=>k r.1 r.2:=by
 cases o<;>try exact oH _ _ _ _ _
 case mv x=>
  show evK x fr _=_;rw [cO,Qe];cases ev fr x<;>rfl
 case pick c a b=>
  show S9 c a b aa fr σ k=_;unfold S9;rw [cO,E5];cases ev fr c with
  | none=>rfl
  | some v=>
   simp only [Option.bind_some,GN,cO];cases v<;>try rfl
   rename_i q;rw [Iv];cases q with
   | true=>simp only [if_true];cases ev fr a<;>rfl
   | false=>simp only [Bool.false_eq_true,if_false];cases ev fr b<;>rfl
 case box pl x=>exact VF aa pl x fr σ k
 case load n x=>exact S0 aa n x fr σ k
 case store n x y=>exact OF aa n x y fr σ k
 case br x=>exact Dy (AH fr σ x) k
 case bin op x y=>
  show evK x fr _=_;rw [Kz];simp only [cO];cases ev fr x with
  | none=>rfl
  | some v=>cases ev fr y with
   | none=>rfl
   | some w=>
    simp only [Option.bind_some,AE,VB];cases bV op v w<;>rfl
 case eqs g s x y=>exact LI (KB fr σ g s x y) k
 case un op x=>exact Dy (Qk fr σ op x) k
 case conv d x=>
  show S6 d x aa fr σ k=_;unfold S6;rw [cO,Fb];cases ev fr x with
  | none=>rfl
  | some v=>
   simp only [Option.bind_some,gu];cases v<;>try rfl
   simp only [j0,iZ];rfl
 case ay off x=>
  show JP off x aa fr σ k=_;unfold JP;rw [cO,AI];cases ev fr x with
  | none=>rfl
  | some v=>
   simp only [Option.bind_some,gu,jA];cases v<;>try rfl
   rename_i a;cases a with
   | none=>rfl
   | some a=>cases a;simp only [adE,cP];rfl
 case field off n x=>
  show JO off n x aa fr σ k=_;unfold JO;rw [cO,AJ];cases ev fr x with
  | none=>rfl
  | some v=>
   simp only [Option.bind_some,gu];cases v<;>try rfl
   rename_i cs;show rdK cs.toList off n _=_;rw [Du,x9];cases bM cs.toList off n<;>rfl
 case aD e x i=>
  show JQ e x i aa fr σ k=_;unfold JQ;rw [AK];simp only [cO];cases ev fr x with
  | none=>rfl
  | some v=>cases ev fr i with
   | none=>rfl
   | some w=>
    simp only [Option.bind_some,iU];cases v<;>try rfl
    rename_i a l c;cases a with
    | none=>rfl
    | some a=>
     show z9 l w _=_;rw [Dw];cases w<;>try rfl
     rename_i d j;obtain ⟨b,o,s⟩:=a;rw [uL];simp only [qi];split
     ·simp only [Option.bind_some,adE,cP];rfl
     ·rfl
 case cz e n x i=>
  show Dx e n x i aa fr σ k=_;unfold Dx;rw [yc];simp only [cO];cases ev fr x with
  | none=>rfl
  | some v=>cases ev fr i with
   | none=>rfl
   | some w=>
    simp only [Option.bind_some,iU,jA];cases v<;>try rfl
    rename_i a;cases a with
    | none=>rfl
    | some a=>
     simp only [Dw];cases w<;>try rfl
     rename_i d j;obtain ⟨b,o,s⟩:=a;rw [rL];simp only [qi];split
     ·simp only [Option.bind_some,adE,cP];rfl
     ·rfl
 case idx e n m x i=>
  show YO e n m x i aa fr σ k=_;unfold YO;rw [KE];simp only [cO];cases ev fr x with
  | none=>rfl
  | some v=>cases ev fr i with
   | none=>rfl
   | some w=>
    simp only [Option.bind_some,iU];cases v<;>try rfl
    rename_i cs;show z9 n w _=_;rw [Dw];cases w<;>try rfl
    rename_i d j;rw [AG];simp only [qi];split
    ·simp only [Option.bind_some,Du];show (bM cs.toList (j.toNat*e) m).bind _=_;cases bM cs.toList (j.toNat*e) m<;>rfl
    ·rfl
 case idxs x i=>exact LI (Fe fr σ x i) k
 case ext x i=>
  show YP x i aa fr σ k=_;unfold YP;rw [cO,KD];cases ev fr x with
  | none=>rfl
  | some v=>
   simp only [Option.bind_some,gu];cases v<;>try rfl
   rename_i vs;show sj vs.toList i _=_;rw [jz,ya];cases vs.toList[i]?<;>rfl
 case call f args=>
  show S8 f args aa fr σ k=_;unfold S8;rw [Dp];simp only [aop,jZ];cases evs fr args with
  | none=>rfl
  | some vs=>rfl
 case len x=>
  show YQ x aa fr σ k=_;unfold YQ;rw [cO,KC];cases ev fr x with
  | none=>rfl
  | some v=>
   simp only [Option.bind_some,gu];cases v<;>rfl
 case lens x=>exact Dy (Fc fr σ x) k
 case B1 n=>rfl
def jB(d:Option Nat)(v:Value)(fr:Fr):Fr:=@Option.rec Nat (fun _=>Fr) fr (fun d=>(d,v)::fr) d
theorem nj(d:Option Nat)(v:Value)(fr:Fr):jB d v fr=fr.put d v:=by cases d<;>rfl
def nG(g:Option (Nat×Bool))(fr:Fr)(y n:Option ρ):Option ρ:=
 @Option.rec (Nat×Bool) (fun _=>Option ρ) y (fun q=>@Prod.rec Nat Bool (fun _=>Option ρ) (fun t b=>Dn t fr fun v=>nF v (fun c=>@Bool.rec (fun _=>Option ρ) (aF b n y) (aF b y n) c) (OG v fun _=>n)) q) g
theorem zh(o:aj)(fr:Fr)(y n:Option ρ):nG o.guard fr y n=(want o fr).bind fun b=>if b then y else n:=by
 unfold nG want;cases o.guard with
 | none=>rfl
 | some q=>
  obtain ⟨t,b⟩:=q;simp only [r8];cases fr.get t with
  | none=>rfl
  | some v=>
   simp only [Option.bind_some,aF];cases v<;>try rfl
   rename_i c;cases c<;>cases b<;>rfl
def Dz:List aj->au->Fr->St->(Fr->St->Option ρ)->Option ρ:=@List.rec aj (fun _=>au->Fr->St->(Fr->St->Option ρ)->Option ρ) (fun _ fr σ k=>k fr σ)
 (fun o _ ih aa fr σ k=>nG o.guard fr (opK o.op aa fr σ fun v σ'=>ih aa (jB o.dst v fr) σ' k) (ih aa (jB o.dst bA fr) σ k))
theorem DA:∀ (l:List aj) (aa:au) (fr:Fr) (σ:St) (k:Fr->St->Option ρ),Dz l aa fr σ k=(fO aa l fr σ).bind fun r=>k r.1 r.2
 | [],aa,fr,σ,k=>rfl
 | o::l,aa,fr,σ,k=>by
  show nG o.guard fr (opK o.op aa fr σ fun v σ'=>Dz l aa (jB o.dst v fr) σ' k) (Dz l aa (jB o.dst bA fr) σ k)=_;rw [zh];simp only [fO];cases want o fr with
  | none=>rfl
  | some b=>
   simp only [Option.bind_some];cases b with
   | true=>
    simp only [if_true,zg,nj,DA l];cases aop aa o.op fr σ<;>rfl
   | false=>simp only [Bool.false_eq_true,if_false,nj,DA l]
end
end AM
namespace AM
open Go
noncomputable section
variable{ρ:Type}
def vg:List aj->au->List (Nat×Nat×Nat)->Nat->Fr->St->(Fr->St->Option ρ)->Option ρ:=@List.rec aj (fun _=>au->List (Nat×Nat×Nat)->Nat->Fr->St->(Fr->St->Option ρ)->Option ρ) (fun _ _ _ fr σ k=>k fr σ)
 (fun o _ ih aa born j fr σ k=>nG o.guard fr
  (stE σ fun hp L H d=>frc (dN hp) fun n=>opK o.op aa fr (St.mk hp (eo o.wr (gI o) born L n) (aU o.bef born++H) d) fun v σ'=>
   stE σ' fun hp' _ _ d'=>frc (dN hp') fun n'=>ih aa (aF (Nat.ble n' n) born ((j,n,n')::born)) (Nat.succ j) (jB o.dst v fr) (St.mk hp' L H d') k)
  (ih aa born (Nat.succ j) (jB o.dst bA fr) σ k))
theorem zi:∀ (l:List aj) (aa:au) (born:List (Nat×Nat×Nat)) (j:Nat) (fr:Fr) (σ:St) (k:Fr->St->Option ρ),vg l aa born j fr σ k=(fQ aa born j l fr σ).bind fun r=>k r.1 r.2
 | [],aa,born,j,fr,σ,k=>rfl
 | o::l,aa,born,j,fr,σ,k=>by
  show nG o.guard fr
   (stE σ fun hp L H d=>frc (dN hp) fun n=>opK o.op aa fr (St.mk hp (eo o.wr (gI o) born L n) (aU o.bef born++H) d) fun v σ'=>
    stE σ' fun hp' _ _ d'=>frc (dN hp') fun n'=>vg l aa (aF (Nat.ble n' n) born ((j,n,n')::born)) (j+1) (jB o.dst v fr) (St.mk hp' L H d') k)
   (vg l aa born (j+1) (jB o.dst bA fr) σ k)=_
  rw [zh];simp only [fQ];cases want o fr with
  | none=>rfl
  | some b=>
   simp only [Option.bind_some];cases b with
   | true=>
    simp only [if_true,ef,cP,cr,zg,nj,zi l];cases aop aa o.op fr { σ with lock:=eo o.wr (gI o) born σ.lock σ.heap.length,hid:=aU o.bef born++σ.hid } with
    | none=>rfl
    | some r=>
     simp only [Option.bind_some];have:aF (Nat.ble r.2.heap.length σ.heap.length) born ((j,σ.heap.length,r.2.heap.length)::born)=if σ.heap.length < r.2.heap.length then (j,σ.heap.length,r.2.heap.length)::born else born:=by
      unfold aF;by_cases h:r.2.heap.length<=σ.heap.length
      ·rw [Nat.ble_eq_true_of_le h,if_neg (by omega)]
      ·have hb:Nat.ble r.2.heap.length σ.heap.length=false:=by rw [Bool.eq_false_iff];intro hq;exact h (Nat.le_of_ble_eq_true hq)
       rw [hb,if_pos (by omega)]
     rw [this]
   | false=>simp only [Bool.false_eq_true,if_false,nj,zi l]
def oJ(m:Bool)(B:List Nat):List aj->au->List (Bool×Nat)->Fr->St->(Fr->St->Option ρ)->Option ρ:=@List.rec aj (fun _=>au->List (Bool×Nat)->Fr->St->(Fr->St->Option ρ)->Option ρ) (fun _ _ fr σ k=>k fr σ)
 (fun o _ ih aa seen fr σ k=>nG o.guard fr
  (aF o.wr
   (aF m (stE σ fun hp L H d=>opK o.op aa fr (St.mk hp L (B++H) d) fun v σ'=>stE σ' fun hp' L' _ d'=>ih aa seen (jB o.dst v fr) (St.mk hp' L' H d') k) none)
   (ob (tgt fr o.op) fun tg=>aF (apart tg seen&&(!m||tg.all fun p=>B.contains p.2)) (opK o.op cH fr σ fun v σ'=>ih aa (tg++seen) (jB o.dst v fr) σ' k) none))
  (ih aa seen (jB o.dst bA fr) σ k))
theorem sr(m:Bool)(B:List Nat):∀ (l:List aj) (aa:au) (seen:List (Bool×Nat)) (fr:Fr) (σ:St) (k:Fr->St->Option ρ),oJ m B l aa seen fr σ k=(eB aa m B seen l fr σ).bind fun r=>k r.1 r.2
 | [],aa,seen,fr,σ,k=>rfl
 | o::l,aa,seen,fr,σ,k=>by
  show nG o.guard fr
   (aF o.wr
    (aF m (stE σ fun hp L H d=>opK o.op aa fr (St.mk hp L (B++H) d) fun v σ'=>stE σ' fun hp' L' _ d'=>oJ m B l aa seen (jB o.dst v fr) (St.mk hp' L' H d') k) none)
    (ob (tgt fr o.op) fun tg=>aF (apart tg seen&&(!m||tg.all fun p=>B.contains p.2)) (opK o.op cH fr σ fun v σ'=>oJ m B l aa (tg++seen) (jB o.dst v fr) σ' k) none))
   (oJ m B l aa seen (jB o.dst bA fr) σ k)=_
  rw [zh];simp only [eB];cases want o fr with
  | none=>rfl
  | some b=>
   simp only [Option.bind_some];cases b with
   | true=>
    simp only [if_true];cases hw:o.wr with
    | true=>
     cases m with
     | true=>
      simp only [aF,if_true,ef,zg,nj,sr true B l];cases aop aa o.op fr { σ with hid:=B++σ.hid }<;>rfl
     | false=>rfl
    | false=>
     simp only [aF,Bool.false_eq_true,if_false,jZ,zg,nj,sr m B l];cases tgt fr o.op with
     | none=>rfl
     | some tg=>
      simp only [Option.bind_some];cases (apart tg seen&&(!m||tg.all fun p=>B.contains p.2)) with
      | true=>
       simp only [if_true];cases aop cH o.op fr σ<;>rfl
      | false=>rfl
   | false=>simp only [Bool.false_eq_true,if_false,nj,sr m B l]
def JR(t:Nat)(fr:Fr)(k:Value->Option ρ)(e:Option ρ):Option ρ:=@List.rec (Nat×Value) (fun _=>Option ρ) e (fun p _ ih=>@Bool.rec (fun _=>Option ρ) ih (k p.2) (Nat.beq p.1 t)) fr
theorem LJ(t:Nat)(k:Value->Option ρ)(e:Option ρ):∀ fr:Fr,JR t fr k e=match fr.get t with | some v=>k v | none=>e
 | []=>rfl
 | (a,v)::l=>by
  show @Bool.rec (fun _=>Option ρ) (JR t l k e) (k v) (Nat.beq a t)=_;simp only [Fr.get];by_cases h:a=t
  ·subst h;simp [Nat.beq_refl]
  ·have:Nat.beq a t=false:=by rw [Bool.eq_false_iff];intro hb;exact h (Nat.eq_of_beq_eq_true hb)
   rw [if_neg h,this];exact LJ t k e l
def nH:List Nat->Fr->(Fr->Option ρ)->Option ρ:=@List.rec Nat (fun _=>Fr->(Fr->Option ρ)->Option ρ) (fun _ k=>k []) (fun t _ ih fr k=>JR t fr (fun v=>ih fr fun l=>k ((t,v)::l)) (ih fr k))
theorem oK:∀ (l:List Nat) (fr:Fr) (k:Fr->Option ρ),nH l fr k=k (fr.keep l)
 | [],fr,k=>rfl
 | t::l,fr,k=>by show JR t fr (fun v=>nH l fr fun l=>k ((t,v)::l)) (nH l fr k)=_;rw [LJ];simp only [Fr.keep,oK l];cases fr.get t<;>rfl
theorem oL{α β:Type} : ∀ l:List (α×β),(l.map (·.1)).zip (l.map (·.2))=l
 | []=>rfl
 | (a,b)::l=>by simp [oL l]
def oM(base:Nat)(fr:Fr)(σ:St)(k:Fr->St->Option ρ):Option ρ:=aF (za σ.heap base) (k fr σ) (ob (jo base fr σ) fun r=>k r.1 r.2)
theorem su(base:Nat)(fr:Fr)(σ:St)(k:Fr->St->Option ρ):oM base fr σ k=(jo base fr σ).bind fun r=>k r.1 r.2:=by
 unfold oM aF;rw [tV];by_cases h:σ.heap.length<=base
 ·rw [decide_eq_true h];simp only [jo,gc,if_pos h,Option.map_some,Option.bind_some,oL]
 ·rw [decide_eq_false h];exact jZ _ _
def eM:Value->Bool:=
 @Value.rec (fun _=>Bool) (fun _=>Bool) (fun _=>Bool)
  (fun _=>true) (fun _ _=>true) (fun _ _=>true) (fun _ _ _=>true) (fun _=>true) (fun a=>@Option.rec Addr (fun _=>Bool) true (fun _=>false) a) (fun a _ _=>@Option.rec Addr (fun _=>Bool) true (fun _=>false) a) (fun a=>@Option.rec Nat (fun _=>Bool) true (fun _=>false) a) (fun _=>true) (fun _ _ _ i j=>@Bool.rec (fun _=>Bool) false j i) true (fun _ _ i=>i) true (fun _ i=>i) (fun _ i=>i) (fun _ i=>i) true (fun _ _ i j=>@Bool.rec (fun _=>Bool) false j i)
theorem sv{v:Value}(h:eM v=true):aI v=[]:=by
 cases v<;>try rfl
 ·rename_i a;cases a<;>first | rfl | (simp [eM] at h)
 ·rename_i a l c;cases a<;>first | rfl | (simp [eM] at h)
 ·rename_i a;cases a<;>first | rfl | (simp [eM] at h)
 ·rename_i t v;cases v<;>try rfl
  rename_i a;cases a<;>first | rfl | (simp [eM] at h)
theorem j4:∀ {l:List Value},@Value.rec_2 (fun _=>Bool) (fun _=>Bool) (fun _=>Bool)
  (fun _=>true) (fun _ _=>true) (fun _ _=>true) (fun _ _ _=>true) (fun _=>true) (fun a=>@Option.rec Addr (fun _=>Bool) true (fun _=>false) a) (fun a _ _=>@Option.rec Addr (fun _=>Bool) true (fun _=>false) a) (fun a=>@Option.rec Nat (fun _=>Bool) true (fun _=>false) a) (fun _=>true) (fun _ _ _ i j=>@Bool.rec (fun _=>Bool) false j i) true (fun _ _ i=>i) true (fun _ i=>i) (fun _ i=>i) (fun _ i=>i) true (fun _ _ i j=>@Bool.rec (fun _=>Bool) false j i) l=true->∀ v∈l,eM v=true
 | [],h,v,hv=>by cases hv
 | a::l,h,v,hv=>by
  have h':@Bool.rec (fun _=>Bool) false _ (eM a)=true:=h;cases ha:eM a with
  | false=>rw [ha] at h';cases h'
  | true=>
   rw [ha] at h';rcases List.mem_cons.1 hv with rfl | hv
   ·exact ha
   ·exact j4 h' v hv
theorem sA{l:List Value}{f:Value->List Nat}(h:∀ v∈l,f v=[]):l.flatMap f=[]:=by rw [List.flatMap_eq_nil_iff];exact h
theorem LK{v:Value}(h:eM v=true):bw v=[]:=by
 cases v<;>try exact sv h
 ·rename_i f fi ca;obtain ⟨fi⟩:=fi;obtain ⟨ca⟩:=ca;have h':@Bool.rec (fun _=>Bool) false (eM (.agg ⟨ca⟩)) (eM (.agg ⟨fi⟩))=true:=h;cases h1:eM (.agg ⟨fi⟩) with
  | false=>rw [h1] at h';cases h'
  | true=>
   rw [h1] at h';have h2:eM (.agg ⟨ca⟩)=true:=h';show fi.flatMap aI++ca.flatMap aI=[];rw [sA fun v hv=>sv (j4 h1 v hv),sA fun v hv=>sv (j4 h2 v hv)];rfl
 ·rename_i cs;obtain ⟨cs⟩:=cs;exact sA fun v hv=>sv (j4 h v hv)
theorem DB{v:Value}(h:eM v=true):refs v=[]:=by
 cases v<;>try exact LK h
 rename_i cs;obtain ⟨cs⟩:=cs;exact sA fun v hv=>LK (j4 h v hv)
def Ta(v:Value):List Nat:=@Bool.rec (fun _=>List Nat) (refs v) [] (eM v)
theorem GR:Ta=refs:=by
 funext v;unfold Ta;cases h:eM v with
 | true=>exact (DB h).symm
 | false=>rfl
def wC(base:Nat):List Nat->List Nat:=@List.rec Nat (fun _=>List Nat) [] (fun a _ ih=>@Bool.rec (fun _=>List Nat) (a::ih) ih (Nat.ble base a))
theorem zj(base:Nat):∀ l:List Nat,wC base l=l.filter (· < base)
 | []=>rfl
 | a::l=>by
  show @Bool.rec (fun _=>List Nat) (a::wC base l) (wC base l) (Nat.ble base a)=_;rw [zj base l,List.filter_cons];by_cases h:a < base
  ·have:Nat.ble base a=false:=by rw [Bool.eq_false_iff];intro hb;have:=Nat.le_of_ble_eq_true hb;omega
   rw [this];simp [h]
  ·have:Nat.ble base a=true:=Nat.ble_eq_true_of_le (by omega);rw [this];simp [h]
def pG(base:Nat)(l t:List Nat):List Nat:=@List.rec Nat (fun _=>List Nat) t (fun a _ ih=>@Bool.rec (fun _=>List Nat) ih (a::ih) (Nat.ble base a)) l
theorem qJ(base:Nat)(t:List Nat):∀ l:List Nat,pG base l t=l.filter (base<=·)++t
 | []=>rfl
 | a::l=>by
  show @Bool.rec (fun _=>List Nat) (pG base l t) (a::pG base l t) (Nat.ble base a)=_;rw [qJ base t l,List.filter_cons];by_cases h:base<=a
  ·rw [Nat.ble_eq_true_of_le h];simp [h]
  ·have:Nat.ble base a=false:=by rw [Bool.eq_false_iff];intro hb;exact h (Nat.le_of_ble_eq_true hb)
   rw [this];simp [h]
def DC(base:Nat)(t:List Nat):List Value->List Nat:=@List.rec Value (fun _=>List Nat) t (fun v _ ih=>@Bool.rec (fun _=>List Nat) (pG base (refs v) ih) ih (eM v))
theorem BI(base:Nat)(t:List Nat):∀ vs:List Value,DC base t vs=(vs.flatMap refs).filter (base<=·)++t
 | []=>rfl
 | v::l=>by
  show @Bool.rec (fun _=>List Nat) (pG base (refs v) (DC base t l)) (DC base t l) (eM v)=_;rw [BI base t l,List.flatMap_cons,List.filter_append];cases h:eM v with
  | true=>rw [DB h];rfl
  | false=>simp only [qJ,List.append_assoc]
def DD:List Value->List Nat:=@List.rec Value (fun _=>List Nat) [] (fun v _ ih=>@Bool.rec (fun _=>List Nat) (aI v++ih) ih (eM v))
theorem BJ:∀ l:List Value,DD l=l.flatMap aI
 | []=>rfl
 | v::l=>by
  show @Bool.rec (fun _=>List Nat) (aI v++DD l) (DD l) (eM v)=_;rw [BJ l,List.flatMap_cons];cases h:eM v with
  | true=>rw [sv h];rfl
  | false=>rfl
def Tb:Blk->List Nat:=@Blk.rec (fun _=>List Nat) (fun _ pl cs=>@Bool.rec (fun _=>List Nat) (DD cs) [] pl) (fun es=>es.flatMap fun p=>bw p.2) []
theorem OH(b:Blk):Tb b=cU b:=by
 cases b with
 | cells g pl cs=>cases pl<;>first | rfl | exact BJ cs
 | _=>rfl
def kO(h:List Blk)(r:Nat):List Nat:=@Option.rec Blk (fun _=>List Nat) [] (fun b=>Tb b) (sj h r some)
theorem qK:kO=aP:=by
 funext h r;unfold kO aP;rw [jz];cases h[r]? with
 | none=>rfl
 | some b=>exact OH b
def DE(h:List Blk)(base:Nat):Nat->List Nat->List Nat->List Nat:=@Nat.rec (fun _=>List Nat->List Nat->List Nat) (fun _ acc=>acc)
 (fun _ ih ws acc=>@List.rec Nat (fun _=>List Nat) acc (fun r ws' _=>@Bool.rec (fun _=>List Nat) (ih (kO h r++ws') (acc++[r])) (ih ws' acc) (or (Nat.ble (Nat.succ r) base) (vq r acc))) ws)
theorem tX(h:List Blk)(base:Nat):∀ (f:Nat) (ws acc:List Nat),DE h base f ws acc=reach h base f ws acc
 | 0,ws,acc=>rfl
 | f+1,[],acc=>rfl
 | f+1,r::ws,acc=>by
  show @Bool.rec (fun _=>List Nat) (DE h base f (kO h r++ws) (acc++[r])) (DE h base f ws acc) (or (Nat.ble (Nat.succ r) base) (vq r acc))=_;rw [tX h base f,tX h base f,gX,reach,qK];have:Nat.ble (Nat.succ r) base=decide (r < base):=by
   by_cases h:r < base
   ·rw [Nat.ble_eq_true_of_le h];simp [h]
   ·have h1:Nat.ble (Nat.succ r) base=false:=by rw [Bool.eq_false_iff];intro hb;exact h (Nat.le_of_ble_eq_true hb)
    rw [h1];simp [h]
  rw [this];cases (decide (r < base)||acc.contains r)<;>rfl
def GS:List Nat->Nat->Bool:=@List.rec Nat (fun _=>Nat->Bool) (fun _=>true) (fun a _ ih n=>@Bool.rec (fun _=>Bool) false (ih (Nat.succ n)) (Nat.beq a n))
theorem zk:∀ (l:List Nat) (n:Nat),GS l n=true->l=List.range' n l.length
 | [],n,_=>rfl
 | a::l,n,h=>by
  have h':@Bool.rec (fun _=>Bool) false (GS l (n+1)) (Nat.beq a n)=true:=h;cases ha:Nat.beq a n with
  | false=>rw [ha] at h';cases h'
  | true=>
   rw [ha] at h';have:=Nat.eq_of_beq_eq_true ha;subst this;rw [List.length_cons,List.range'_succ,<- zk l _ h']
def chk(base:Nat)(vs:List Value)(σ:St)(olds keep:List Nat):Bool:=
 dW keep&&dW olds&&(vs.all fun v=>(Ta v).all fun r=>r < base||keep.contains r)&&(olds.all fun t=>(aP σ.heap t).all fun r=>r < base||keep.contains r)&&(keep.all fun r=>base<=r&&r < σ.heap.length&&(aP σ.heap r).all fun r=>r < base||keep.contains r)
def JS(base:Nat)(keep:List Nat)(r:Nat):Bool:=@Bool.rec (fun _=>Bool) (vq r keep) true (Nat.ble (Nat.succ r) base)
theorem LL(base:Nat)(keep:List Nat):JS base keep=fun r=>decide (r < base)||keep.contains r:=by
 funext r;unfold JS;rw [gX];by_cases h:r < base
 ·rw [Nat.ble_eq_true_of_le h];simp [h]
 ·have h1:Nat.ble (Nat.succ r) base=false:=by rw [Bool.eq_false_iff];intro hb;exact h (Nat.le_of_ble_eq_true hb)
  rw [h1];simp [h]
def YR(base:Nat)(vs:List Value)(hp:List Blk)(olds keep:List Nat):Bool:=
 and (dW keep) (and (dW olds) (and (lW (fun v=>@Bool.rec (fun _=>Bool) (lW (JS base keep) (refs v)) true (eM v)) vs) (and (lW (fun t=>lW (JS base keep) (kO hp t)) olds)
  (lW (fun r=>and (Nat.ble base r) (and (Nat.ble (Nat.succ r) (dN hp)) (lW (JS base keep) (kO hp r)))) keep))))
theorem VG(base:Nat)(vs:List Value)(σ:St)(olds keep:List Nat):YR base vs σ.heap olds keep=chk base vs σ olds keep:=by
 unfold YR chk;rw [qK,GR];have h1:(fun v=>@Bool.rec (fun _=>Bool) (lW (JS base keep) (refs v)) true (eM v))=fun v=>(refs v).all fun r=>decide (r < base)||keep.contains r:=by
  funext v;cases h:eM v with
  | true=>rw [DB h];rfl
  | false=>show lW (JS base keep) (refs v)=_;rw [kK,LL]
 have h2:∀ a b:Nat,Nat.ble a b=decide (a<=b):=fun a b=>by
  by_cases h:a<=b
  ·rw [Nat.ble_eq_true_of_le h];simp [h]
  ·have:Nat.ble a b=false:=by rw [Bool.eq_false_iff];intro hb;exact h (Nat.le_of_ble_eq_true hb)
   rw [this];simp [h]
 rw [h1];simp only [kK,LL,h2,cr,Nat.succ_le_iff,Bool.and_assoc]
theorem GU{f:Nat->Nat}{b:Blk}(h:∀ r∈cU b,f r=r):gK f b=b:=by
 cases b with
 | cells g pl cs=>
  cases pl with
  | true=>rfl
  | false=>simp only [gK];rw [map_id' fun a ha=>rR fun r hr=>h r (List.mem_flatMap.2 ⟨a,ha,hr⟩)]
 | map es=>
  simp only [gK];congr 1;refine map_id' fun p hp=>?_;rw [C0 fun r hr=>h r (List.mem_flatMap.2 ⟨p,hp,hr⟩)]
 | void=>rfl
theorem BK{f:Nat->Nat} : ∀ (l:List Nat) (h:List Blk),(∀ t∈l,∀ b,h[t]?=some b->gK f b=b)->dV f l h=h
 | [],h,_=>rfl
 | t::l,h,hh=>by
  have e:h.modify t (gK f)=h:=by
   refine List.ext_getElem? fun i=>?_;rw [List.getElem?_modify];cases hb:h[i]? with
   | none=>rfl
   | some b=>
    show some (if t=i then gK f b else b)=some b;split
    ·rename_i e;subst e;rw [hh t (by simp) b hb]
    ·rfl
  rw [dV,e];exact BK l h fun t ht=>hh t (by simp [ht])
theorem Tc{base:Nat}{vs:List Value}{σ:St}{keep:List Nat}(hs:GS keep base=true)(hc:chk base vs σ (σ.af.filter (· < base)) keep=true)(hb:base<=σ.heap.length) :
  lZ base vs σ keep=some (vs,⟨σ.heap.take (base+keep.length),σ.lock,σ.hid,σ.af.filter (· < base)⟩):=by
 have hk:=zk _ _ hs;unfold chk at hc;rw [GR] at hc;unfold lZ;simp only [];rw [if_pos hc];simp only [Bool.and_eq_true,List.all_eq_true,Bool.or_eq_true,decide_eq_true_eq] at hc;obtain ⟨⟨⟨⟨_,_⟩,h1⟩,h2⟩,h3⟩:=hc;have hf:∀ r,(r < base\/keep.contains r=true)->(if r < base then r else base+keep.idxOf r)=r:=fun r hr=>by
  by_cases c:r < base
  ·rw [if_pos c]
  ·rw [if_neg c];have hm:r∈keep:=by
    rcases hr with hr | hr
    ·exact absurd hr c
    ·simpa using hr
   rw [hk,List.mem_range'_1] at hm;have hi:keep[r - base]?=some r:=by
    rw [hk,List.getElem?_range']
    ·congr 1;omega
    ·omega
   have hlt:r - base < keep.length:=(List.getElem?_eq_some_iff.1 hi).1;have hnd:keep.Nodup:=by rw [hk];exact List.nodup_range'
   have:keep.idxOf r=r - base:=by have e:=(List.getElem?_eq_some_iff.1 hi).2;have:=hnd.idxOf_getElem (r - base) hlt;rw [e] at this;exact this
   omega
 congr 1;refine Prod.ext ?_ ?_
 ·exact map_id' fun v hv=>R1 fun r hr=>hf r (h1 v hv r hr)
 ·simp only [St.mk.injEq,and_true];rw [BK]
  ·have e:keep.map (fun r=>gK (fun id=>if id < base then id else base+keep.idxOf id) (σ.heap.getD r default))=keep.map fun r=>σ.heap.getD r default:=by refine List.map_congr_left fun r hr=>?_;have h4:=h3 r hr;have hlt:r < σ.heap.length:=h4.1.2;refine GU fun q hq=>hf q (h4.2 q ?_);unfold aP;rw [List.getElem?_eq_getElem hlt];rwa [List.getD_eq_getElem?_getD,List.getElem?_eq_getElem hlt] at hq
   rw [e];have hlen:base+keep.length<=σ.heap.length:=by
    by_cases h0:keep.length=0
    ·omega
    ·have hl:base+(keep.length - 1)∈keep:=by
      have:base+(keep.length - 1)∈List.range' base keep.length:=by rw [List.mem_range'_1];omega
      rwa [<- hk] at this
     have:=(h3 _ hl).1.2;omega
   refine List.ext_getElem? fun i=>?_;by_cases c:i < base
   ·rw [List.getElem?_append_left (by simp;omega),List.getElem?_take_of_lt c,List.getElem?_take_of_lt (by omega)]
   ·rw [List.getElem?_append_right (by simp;omega)];have hl:(List.take base σ.heap).length=base:=by simp;omega
    rw [hl,List.getElem?_map];by_cases c2:i < base+keep.length
    ·have hi:keep[i - base]?=some i:=by
      rw [hk,List.getElem?_range']
      ·congr 1;omega
      ·omega
     rw [hi,List.getElem?_take_of_lt c2,Option.map_some,List.getD_eq_getElem?_getD,List.getElem?_eq_getElem (by omega)];rfl
    ·rw [List.getElem?_eq_none (l:=keep) (by omega),List.getElem?_eq_none (by simp;omega)];rfl
  ·intro t ht b hb';have htl:t < base:=by simpa using (List.mem_filter.1 ht).2
   rw [List.getElem?_take_of_lt htl] at hb';refine GU fun q hq=>hf q (h2 t ht q ?_);unfold aP;rw [hb'];exact hq
def YS(hp:List Blk):List Nat->List Nat:=@List.rec Nat (fun _=>List Nat) [] (fun t _ ih=>kO hp t++ih)
theorem LM(hp:List Blk):∀ l:List Nat,YS hp l=l.flatMap (aP hp)
 | []=>rfl
 | t::l=>by show kO hp t++YS hp l=_;rw [LM hp l,qK];rfl
def gcN(base:Nat)(vs:List Value)(σ:St)(ks:St->Option ρ)(kn:List Value->St->Option ρ):Option ρ:=
 aF (za σ.heap base) (ks σ)
 (stE σ fun hp L H d=>
  (fun olds=>(fun roots=>@List.rec Nat (fun _=>Option ρ) (zc hp base fun hp'=>ks (St.mk hp' L H olds))
   (fun _ _ _=>(fun keep=>aF (and (GS keep base) (YR base vs hp olds keep)) (zc hp (base+dN keep) fun hp'=>ks (St.mk hp' L H olds)) (ob (gc base vs σ) fun r=>kn r.1 r.2)) (DE hp base 4096 roots [])) roots)
   (DC base (pG base (YS hp olds) []) vs)) (wC base d))
theorem JT(base:Nat)(vs:List Value)(σ:St)(ks:St->Option ρ)(kn:List Value->St->Option ρ)(hk:∀ τ,ks τ=kn vs τ):gcN base vs σ ks kn=(gc base vs σ).bind fun r=>kn r.1 r.2:=by
 unfold gcN aF;rw [tV,ef];by_cases h:σ.heap.length<=base
 ·rw [decide_eq_true h];simp only [gc,if_pos h,Option.bind_some,hk]
 ·rw [decide_eq_false h];simp only [zj,BI,qJ,LM,VG,List.append_nil,<- List.filter_append];have hg:gc base vs σ=match (vs.flatMap refs++(σ.af.filter (· < base)).flatMap (aP σ.heap)).filter (base<=·) with
   | []=>some (vs,{ σ with heap:=σ.heap.take base,af:=σ.af.filter (· < base) })
   | r::rs=>lZ base vs σ (reach σ.heap base 4096 (r::rs) []):=by unfold gc;rw [if_neg h];rfl
  cases hr:(vs.flatMap refs++(σ.af.filter (· < base)).flatMap (aP σ.heap)).filter (base<=·) with
  | nil=>
   rw [hg,hr];simp only [oG,Option.bind_some];rw [if_pos (by omega),hk]
  | cons r rs=>
   simp only [tX];cases hc:and (GS (reach σ.heap base 4096 (r::rs) []) base) (chk base vs σ (σ.af.filter (· < base)) (reach σ.heap base 4096 (r::rs) [])) with
   | false=>exact jZ _ _
   | true=>
    rw [Bool.and_eq_true] at hc;have hs:=Tc hc.1 hc.2 (by omega);rw [hg,hr];simp only [hs,Option.bind_some,oG,cr];have hlen:base+(reach σ.heap base 4096 (r::rs) []).length<=σ.heap.length:=by
     have hcc:=hc.2;unfold chk at hcc;simp only [Bool.and_eq_true,List.all_eq_true,Bool.or_eq_true,decide_eq_true_eq] at hcc;have hk':=zk _ _ hc.1;by_cases h0:(reach σ.heap base 4096 (r::rs) []).length=0
     ·omega
     ·have hl:base+((reach σ.heap base 4096 (r::rs) []).length - 1)∈reach σ.heap base 4096 (r::rs) []:=by
       have:base+((reach σ.heap base 4096 (r::rs) []).length - 1)∈List.range' base (reach σ.heap base 4096 (r::rs) []).length:=by rw [List.mem_range'_1];omega
       rwa [<- hk'] at this
      have:=(hcc.2 _ hl).1.2;omega
    rw [if_pos hlen,hk]
def gcK(base:Nat)(u:Value)(σ:St)(k:List Value->St->Option ρ):Option ρ:=gcN base [u] σ (fun τ=>k [u] τ) k
theorem YT(base:Nat)(u:Value)(σ:St)(k:List Value->St->Option ρ):gcK base u σ k=(gc base [u] σ).bind fun r=>k r.1 r.2:=JT base [u] σ _ k fun _=>rfl
def jk:List Nat->List Nat->(List Nat->Option ρ)->Option ρ:=@List.rec Nat (fun _=>List Nat->(List Nat->Option ρ)->Option ρ) (fun a k=>k a) (fun d _ ih a k=>aF (vq d a) (ih a k) (ih (d::a) k))
theorem sB:∀ (l a:List Nat) (k:List Nat->Option ρ),jk l a k=k (aO a l)
 | [],a,k=>rfl
 | d::l,a,k=>by show aF (vq d a) (jk l a k) (jk l (d::a) k)=_;unfold aF;rw [gX];simp only [aO,sB l];cases a.contains d<;>rfl
abbrev abL(ρ:Type):=au->Nat->(Fr->St->Option ρ)->(Ex->Fr->St->Option ρ)->Fr->St->Option ρ
abbrev kP:=∀ ρ:Type,abL ρ
def oN(e:Ex)(f:Nat->Option ρ)(o:Option ρ):Option ρ:=@Ex.rec (fun _=>Option ρ) o f o e
def JU(e:Ex)(x y:Option ρ):Option ρ:=@Ex.rec (fun _=>Option ρ) x (fun _=>y) y e
def acS(ia ib:kP):kP:=fun ρ cf n kn kx fr σ=>ia ρ cf n (fun fr σ=>ib ρ cf n kn kx fr σ) kx fr σ
def abM(c:Operand)(ia ib:kP):kP:=fun ρ cf n kn kx fr σ=>evK c fr fun v=>nF v (fun b=>@Bool.rec (fun _=>Option ρ) (ib ρ cf n kn kx fr σ) (ia ρ cf n kn kx fr σ) b) none
def YU(id:Nat)(ib:kP):kP:=fun ρ cf n kn kx fr σ=>ib ρ cf n kn (fun e fr σ=>oN e (fun i=>aF (Nat.beq i id) (kn fr σ) (kx e fr σ)) (kx e fr σ)) fr σ
def vh(step:(Fr->St->Option ρ)->Fr->St->Option ρ):Nat->Fr->St->Option ρ:=@Nat.rec (fun _=>Fr->St->Option ρ) (fun _ _=>none) (fun _ ih=>step ih)
theorem zl(step:(Fr->St->Option ρ)->Fr->St->Option ρ)(m:Nat):vh step (m+1)=step (vh step m):=rfl
def abN(live:List Nat)(ib:kP):kP:=fun ρ cf n kn kx fr σ=>stE σ fun hp L H d=>frc (dN hp) fun base=>nH live fr fun fr=>
 vh (fun ih fr σ=>ib ρ cf n (fun fr' σ'=>nH live fr' fun fr'=>oM base fr' σ' ih) (fun e fr' σ'=>stE σ' fun hp' L' H' d'=>jk d' d fun d''=>kx e fr' (St.mk hp' L' H' d'')) fr σ) n fr (St.mk hp L H [])
def abO(c:az):kP:=fun ρ cf n kn kx fr σ=>ob (exec cf n c fr σ) fun r=>JU r.1 (kn r.2.1 r.2.2) (kx r.1 r.2.1 r.2.2)
abbrev Xa:=au->Nat->Fr->St->Option (Ex×Fr×St)
def GV(f:kP):Xa:=fun cf n fr σ=>f (Ex×Fr×St) cf n (fun fr σ=>some (.normal,fr,σ)) (fun e fr σ=>some (e,fr,σ)) fr σ
def Td(gx ax bx:Xa)(x:Operand)(g:Nat)(ps:List Nat):kP:=fun ρ cf n kn kx fr σ=>ob (match ev fr x with
  | some (.func (.func h) fi ca)=>
   if h==g&&fi.isEmpty then
    (gx (c8 cf (dX (ax cf n) (bx cf n) ps fr)) n (bX 0 (l8::ca.toList)) { σ with af:=[] }).bind (iI fr σ)
   else none
  | _=>none) fun r=>JU r.1 (kn r.2.1 r.2.2) (kx r.1 r.2.1 r.2.2)
def ez:az->kP:=@az.rec (fun _=>kP)
 (fun _ _ _ kn _ fr σ=>kn fr σ) (fun _ _ _ _ kx fr σ=>kx .ret fr σ)
 (fun ops _ cf _ kn _ fr σ=>Dz ops cf fr σ kn)
 (fun ops _ cf _ kn _ fr σ=>vg ops (bD cf) [] 0 fr σ kn)
 (fun xs m ops _ cf _ kn _ fr σ=>ob (boxes fr xs) fun B=>oJ m B ops (bD cf) [] fr σ kn)
 (fun ops=>abO (.lits ops))
 (fun _ _ ia ib=>acS ia ib) (fun c _ _ ia ib=>abM c ia ib) (fun id _ ib=>YU id ib) (fun live _ ib=>abN live ib)
 (fun id _ _ _ _ kx fr σ=>kx (.exit id) fr σ)
 (fun x g _ ps _ _ ig ia ib=>Td (GV ig) (GV ia) (GV ib) x g ps)
def fZ(r:Option (Ex×Fr×St))(kn:Fr->St->Option ρ)(kx:Ex->Fr->St->Option ρ):Option ρ:=r.bind fun r=>match r.1 with
 | .normal=>kn r.2.1 r.2.2
 | e=>kx e r.2.1 r.2.2
theorem BL(r:Option (Ex×Fr×St))(kn:Fr->St->Option ρ)(kx:Ex->Fr->St->Option ρ):(ob r fun r=>JU r.1 (kn r.2.1 r.2.2) (kx r.1 r.2.1 r.2.2))=fZ r kn kx:=by
 cases r with
 | none=>rfl
 | some r=>
  obtain ⟨e,fr,σ⟩:=r;cases e<;>rfl
def Xb(c:az):Prop:=∀ (ρ:Type) (cf:au) (n:Nat) (kn:Fr->St->Option ρ) (kx:Ex->Fr->St->Option ρ) (fr:Fr) (σ:St),ez c ρ cf n kn kx fr σ=fZ (exec cf n c fr σ) kn kx
theorem DF{c:az}(h:Xb c):GV (ez c)=fun cf n=>exec cf n c:=by
 funext cf n fr σ;unfold GV;rw [h];unfold fZ;cases exec cf n c fr σ with
 | none=>rfl
 | some r=>
  obtain ⟨e,fr,σ⟩:=r;cases e<;>rfl
theorem kQ:∀ c:az,Xb c
 | .skip=>fun ρ cf n kn kx fr σ=>rfl
 | .ret=>fun ρ cf n kn kx fr σ=>rfl
 | .region ops=>fun ρ cf n kn kx fr σ=>by
  show Dz ops cf fr σ kn=_;rw [DA];simp only [exec,fZ];cases fO cf ops fr σ<;>rfl
 | .drawn ops=>fun ρ cf n kn kx fr σ=>by
  show vg ops (bD cf) [] 0 fr σ kn=_;rw [zi];simp only [exec,fZ];cases fQ (bD cf) [] 0 ops fr σ<;>rfl
 | .nO xs m ops=>fun ρ cf n kn kx fr σ=>by
  show (ob (boxes fr xs) fun B=>oJ m B ops (bD cf) [] fr σ kn)=_;rw [jZ];simp only [exec,fZ,sr];cases boxes fr xs with
  | none=>rfl
  | some B=>
   simp only [Option.bind_some];cases eB (bD cf) m B [] ops fr σ<;>rfl
 | .lits ops=>fun ρ cf n kn kx fr σ=>BL _ kn kx
 | .seq a b=>fun ρ cf n kn kx fr σ=>by
  show ez a ρ cf n (fun fr σ=>ez b ρ cf n kn kx fr σ) kx fr σ=_;rw [kQ a];simp only [exec,fZ];cases exec cf n a fr σ with
  | none=>rfl
  | some r=>
   obtain ⟨e,fr',σ'⟩:=r;cases e with
   | normal=>simp only [Option.bind_some];rw [kQ b];rfl
   | _=>rfl
 | .cond c a b=>fun ρ cf n kn kx fr σ=>by
  show (evK c fr fun v=>nF v (fun q=>@Bool.rec (fun _=>Option ρ) (ez b ρ cf n kn kx fr σ) (ez a ρ cf n kn kx fr σ) q) none)=_;rw [cO];simp only [exec,GN];cases ev fr c with
  | none=>rfl
  | some v=>
   cases v<;>try rfl
   rename_i q;cases q
   ·exact kQ b ρ cf n kn kx fr σ
   ·exact kQ a ρ cf n kn kx fr σ
 | .block id b=>fun ρ cf n kn kx fr σ=>by
  show ez b ρ cf n kn (fun e fr σ=>oN e (fun i=>aF (Nat.beq i id) (kn fr σ) (kx e fr σ)) (kx e fr σ)) fr σ=_;rw [kQ b];simp only [exec,fZ];cases exec cf n b fr σ with
  | none=>rfl
  | some r=>
   obtain ⟨e,fr',σ'⟩:=r;cases e with
   | exit i=>
    simp only [Option.bind_some,Option.map_some];show aF (Nat.beq i id) (kn fr' σ') (kx (.exit i) fr' σ')=_;unfold aF;by_cases h:i=id
    ·subst h;rw [Nat.beq_refl,if_pos rfl]
    ·have hb:Nat.beq i id=false:=by rw [Bool.eq_false_iff];intro hq;exact h (Nat.eq_of_beq_eq_true hq)
     rw [hb,if_neg h]
   | _=>rfl
 | .loop live b=>fun ρ cf n kn kx fr σ=>by
  show (stE σ fun hp L H d=>frc (dN hp) fun base=>nH live fr fun fr=>
   vh (fun ih fr σ=>ez b ρ cf n (fun fr' σ'=>nH live fr' fun fr'=>oM base fr' σ' ih) (fun e fr' σ'=>stE σ' fun hp' L' H' d'=>jk d' d fun d''=>kx e fr' (St.mk hp' L' H' d'')) fr σ) n fr (St.mk hp L H []))=_
  have hb:∀ (ρ:Type) (cf:au) (n:Nat) (kn:Fr->St->Option ρ) (kx:Ex->Fr->St->Option ρ) (fr:Fr) (σ:St),ez b ρ cf n kn kx fr σ=fZ (exec cf n b fr σ) kn kx:=kQ b;simp only [ef,cP,cr,oK,exec,hb];generalize fr.keep live=fr1;generalize hσ:({ heap:=σ.heap,lock:=σ.lock,hid:=σ.hid,af:=[] } : St)=σ1;have key:∀ (m:Nat) (fr1:Fr) (σ1:St),vh (fun ih fr' σ'=>fZ (exec cf n b fr' σ') (fun fr' σ'=>oM σ.heap.length (fr'.keep live) σ' ih) (fun e fr' σ'=>jk σ'.af σ.af fun d''=>kx e fr' ⟨σ'.heap,σ'.lock,σ'.hid,d''⟩)) m fr1 σ1 =
    fZ ((iter (exec cf n b) live σ.heap.length m fr1 σ1).map fun r=>(r.1,r.2.1,{ r.2.2 with af:=aO σ.af r.2.2.af })) kn kx:=by
   intro m;induction m with
   | zero=>intro fr1 σ1;rfl
   | succ m ih=>
    intro fr1 σ1;generalize hX:vh (fun ih fr' σ'=>fZ (exec cf n b fr' σ') (fun fr' σ'=>oM σ.heap.length (fr'.keep live) σ' ih) (fun e fr' σ'=>jk σ'.af σ.af fun d''=>kx e fr' ⟨σ'.heap,σ'.lock,σ'.hid,d''⟩)) m=X at ih;rw [zl,hX];simp only [iter,su,sB];cases exec cf n b fr1 σ1 with
    | none=>rfl
    | some r=>
     obtain ⟨e,fr',σ'⟩:=r;cases e with
     | normal=>
      simp only [fZ,Option.bind_some];cases jo σ.heap.length (fr'.keep live) σ' with
      | none=>rfl
      | some q=>
       simp only [Option.bind_some];exact ih q.1 q.2
     | _=>rfl
  exact key n fr1 σ1
 | .exit id=>fun ρ cf n kn kx fr σ=>rfl
 | .each x g gc ps ba b=>fun ρ cf n kn kx fr σ=>by show Td (GV (ez gc)) (GV (ez ba)) (GV (ez b)) x g ps ρ cf n kn kx fr σ=_;unfold Td;rw [BL,DF (kQ gc),DF (kQ ba),DF (kQ b)];rfl
def Te(fr:Fr)(hp:List Blk)(H:List Nat):ij->(Value->Option ρ)->Option ρ:=@ij.rec (fun _=>(Value->Option ρ)->Option ρ) (fun t k=>Dn t fr k)
 (fun a n k=>Dn a fr fun v=>tT v (fun a=>z8 hp H a fun _ _ cs=>rdK cs a.off n k) none)
theorem VH(fr:Fr)(σ:St)(r:ij)(k:Value->Option ρ):Te fr σ.heap σ.hid r k=(sI fr σ r).bind k:=by
 cases r with
 | tmp t=>exact r8 t k fr
 | cell a n=>
  show (Dn a fr fun v=>tT v (fun a=>z8 σ.heap σ.hid a fun _ _ cs=>rdK cs a.off n k) none)=_;rw [r8];simp only [jA,sI];cases fr.get a with
  | none=>rfl
  | some v=>
   cases v<;>try rfl
   rename_i a;cases a with
   | none=>rfl
   | some a=>
    simp only [Option.bind_some];rw [LG σ a (fun _ cs=>rdK cs a.off n k)];cases σ.blk a with
    | none=>rfl
    | some r=>simp only [Option.bind_some,Du]
def GW(fr:Fr)(hp:List Blk)(H:List Nat):List ij->(List Value->Option ρ)->Option ρ:=@List.rec ij (fun _=>(List Value->Option ρ)->Option ρ) (fun k=>k []) (fun r _ ih k=>Te fr hp H r fun v=>ih fun l=>k (v::l))
theorem GX(fr:Fr)(σ:St):∀ (l:List ij) (k:List Value->Option ρ),GW fr σ.heap σ.hid l k=(eH fr σ l).bind k
 | [],k=>rfl
 | r::l,k=>by
  show (Te fr σ.heap σ.hid r fun v=>GW fr σ.heap σ.hid l fun l=>k (v::l))=_;rw [VH];simp only [eH];cases sI fr σ r with
  | none=>rfl
  | some v=>
   simp only [Option.bind_some,GX fr σ l];cases eH fr σ l<;>rfl
def JV(vs:List Value)(k:Value->Option ρ):Option ρ:=@List.rec Value (fun _=>Option ρ) (ob (fR []) k) (fun v l _=>@List.rec Value (fun _=>Option ρ) (k v) (fun w m _=>ob (fR (v::w::m)) k) l) vs
theorem OI(vs:List Value)(k:Value->Option ρ):JV vs k=(fR vs).bind k:=by
 cases vs with
 | nil=>show ob (fR []) k=_;exact jZ _ _
 | cons v l=>cases l with
  | nil=>rfl
  | cons w m=>show ob (fR (v::w::m)) k=_;exact jZ _ _
def abP(vs:List Value)(k:Value->Option ρ):Option ρ:=@List.rec Value (fun _=>Option ρ) none (fun v l _=>@List.rec Value (fun _=>Option ρ) (k v) (fun _ _ _=>none) l) vs
def Aa(rs:List ij)(base:Nat)(d:List Nat)(fr:Fr)(τ:St):Option (Value×St):=
 stE τ fun hp L H d'=>GW fr hp H rs fun vs=>JV vs fun u=>gcK base u (St.mk hp L H d') fun vs τ'=>abP vs fun v=>stE τ' fun hp' L' H' d'=>jk d' d fun d''=>some (v,St.mk hp' L' H' d'')
def GY(cf:au)(n:Nat)(fn:AFn)(args:List Value)(σ:St):Option (Value×St):=
 @AFn.rec (fun _=>Option (Value×St)) (fun code rs=>stE σ fun hp L H d=>frc (dN hp) fun base=>
  ez code (Value×St) cf n (fun fr τ=>Aa rs base d fr τ) (fun e fr τ=>oN e (fun _=>none) (Aa rs base d fr τ)) (bX 0 args) (St.mk hp L H [])) fn
theorem GZ:GY=body:=by
 funext cf n fn args σ;obtain ⟨code,rs⟩:=fn;show (stE σ fun hp L H d=>frc (dN hp) fun base=>
  ez code (Value×St) cf n (fun fr τ=>Aa rs base d fr τ) (fun e fr τ=>oN e (fun _=>none) (Aa rs base d fr τ)) (bX 0 args) (St.mk hp L H []))=_
 have hb:∀ (ρ:Type) (cf:au) (n:Nat) (kn:Fr->St->Option ρ) (kx:Ex->Fr->St->Option ρ) (fr:Fr) (σ:St),ez code ρ cf n kn kx fr σ=fZ (exec cf n code fr σ) kn kx:=kQ code;simp only [ef,cP,cr,hb,body];have hend:∀ (fr:Fr) (τ:St),Aa rs σ.heap.length σ.af fr τ=(eH fr τ rs).bind fun vs=>(fR vs).bind fun u=>(gc σ.heap.length [u] τ).bind fun q=>match q.1 with
   | [v]=>some (v,{ q.2 with af:=aO σ.af q.2.af })
   | _=>none:=fun fr τ=>by
  unfold Aa;simp only [ef,GX,OI,YT,sB];cases eH fr τ rs with
  | none=>rfl
  | some vs=>
   simp only [Option.bind_some];cases fR vs with
   | none=>rfl
   | some u=>
    simp only [Option.bind_some];cases gc σ.heap.length [u] ⟨τ.heap,τ.lock,τ.hid,τ.af⟩ with
    | none=>rfl
    | some q=>
     obtain ⟨l,τ'⟩:=q;simp only [Option.bind_some];cases l with
     | nil=>rfl
     | cons v l=>cases l<;>rfl
 simp only [hend];cases exec cf n code (bX 0 args) ⟨σ.heap,σ.lock,σ.hid,[]⟩ with
 | none=>rfl
 | some r=>
  obtain ⟨e,fr,τ⟩:=r;cases e<;>rfl
def qa(f:Nat)(l:List (Nat×AFn))(k:AFn->Option ρ):Option ρ:=@List.rec (Nat×AFn) (fun _=>Option ρ) none (fun p _ ih=>@Bool.rec (fun _=>Option ρ) ih (k p.2) (Nat.beq p.1 f)) l
theorem zm(f:Nat)(k:AFn->Option ρ):∀ l:List (Nat×AFn),qa f l k=(cx l f).bind k
 | []=>rfl
 | (a,v)::l=>by
  show @Bool.rec (fun _=>Option ρ) (qa f l k) (k v) (Nat.beq a f)=_;simp only [cx];by_cases h:a=f
  ·subst h;simp [Nat.beq_refl]
  ·have:Nat.beq a f=false:=by rw [Bool.eq_false_iff];intro hb;exact h (Nat.eq_of_beq_eq_true hb)
   rw [if_neg h,this];exact zm f k l
def runK(l:List (Nat×AFn)):Nat->au:=@Nat.rec (fun _=>au) (fun _ _ _=>none)
 (fun m ih g=>@Fn.rec (fun _=>List Value->St->Option (Value×St)) (fun f args σ=>qa f l fun fn=>GY ih m fn args σ) (fun _ _ _=>none) (fun _ _ _ _=>none) (fun _ _ _ _ _ _=>none) (fun _ _ _=>none) g)
theorem LN(l:List (Nat×AFn)):∀ n,runK l n=jd l n
 | 0=>by funext g args σ;rfl
 | n+1=>by
  funext g args σ;cases g with
  | func f=>
   show (qa f l fun fn=>GY (runK l n) n fn args σ)=_;rw [zm,GZ,LN l n];rfl
  | _=>rfl
theorem Tg{l:List (Nat×AFn)}{n:Nat}{g:Fn}{args:List Value}{σ:St}{r:Option (Value×St)}(h:runK l n g args σ=r):run (.base l) n g args σ=r:=by rw [<- h,LN];rfl
end
end AM
namespace AM
open Go
noncomputable section
variable{ρ:Type}
def YV{α:Type}(vs:List α):List α->(List α->Option ρ)->Option ρ:=@List.rec α (fun _=>(List α->Option ρ)->Option ρ) (fun k=>k vs) (fun a _ ih k=>ih fun l=>k (a::l))
theorem LO{α:Type}(vs:List α):∀ (l:List α) (k:List α->Option ρ),YV vs l k=k (l++vs)
 | [],k=>rfl
 | a::l,k=>by show YV vs l (fun l=>k (a::l))=_;rw [LO vs l];rfl
def Th(hp:List Blk)(H:List Nat)(a:Addr)(k:Nat->Bool->List Value->Option ρ)(e:Option ρ):Option ρ:=
 @Bool.rec (fun _=>Option ρ) (@Option.rec Blk (fun _=>Option ρ) e (fun b=>@Blk.rec (fun _=>Option ρ) (fun g pl cs=>@Bool.rec (fun _=>Option ρ) e (k g pl cs) (GQ a.spot g)) (fun _=>e) e b) (nthO hp a.block)) e (vq a.block H)
where nthO (hp:List Blk) (i:Nat):Option Blk:=sj hp i some
theorem LP(σ:St)(a:Addr)(k:Nat->Bool->List Value->Option ρ)(e:Option ρ)(h:∀ g pl cs,σ.heap[a.block]?=some (.cells g pl cs)->σ.blk a=some (pl,cs)->k g pl cs=e):Th σ.heap σ.hid a k e=e:=by
 unfold Th Th.nthO;rw [gX,jz];cases hh:σ.hid.contains a.block with
 | true=>rfl
 | false=>
  cases hb:σ.heap[a.block]? with
  | none=>rfl
  | some b=>
   cases b with
   | cells g pl cs=>
    show @Bool.rec (fun _=>Option ρ) e (k g pl cs) (GQ a.spot g)=e;rw [sq];by_cases hs:a.spot=some g
    ·simp only [hs,decide_true];refine h g pl cs hb ?_;unfold St.blk;rw [hh,hb];simp [hs]
    ·simp [hs]
   | _=>rfl
def slO(v:Value)(k:Option Addr->Nat->Nat->Option ρ)(e:Option ρ):Option ρ:=
 @Value.rec (fun _=>(Option Addr->Nat->Nat->Option ρ)->Option ρ->Option ρ) (fun _=>PUnit) (fun _=>PUnit)
  (fun _ _ e=>e) (fun _ _ _ e=>e) (fun _ _ _ e=>e) (fun _ _ _ _ e=>e) (fun _ _ e=>e) (fun _ _ e=>e) (fun a l c f _=>f a l c) (fun _ _ e=>e) (fun _ _ e=>e) (fun _ _ _ _ _ _ e=>e) (fun _ e=>e) (fun _ _ _ _ e=>e) (fun _ e=>e) (fun _ _ _ e=>e) (fun _ _ _ e=>e) (fun _ _=>⟨⟩) ⟨⟩ (fun _ _ _ _=>⟨⟩) v k e
theorem JW(v:Value)(k:Option Addr->Nat->Nat->Option ρ)(e:Option ρ)(h:∀ a n c,v=.slice a n c->k a n c=e):slO v k e=e:=by
 cases v<;>first
  | rfl
  | exact h _ _ _ rfl
def DG(n:Nat):Bool:=Nat.ble n 1048576
theorem BM(n:Nat):DG n=small n:=by
 unfold DG small;by_cases h:n<=1048576
 ·rw [Nat.ble_eq_true_of_le h];simp [h]
 ·have:Nat.ble n 1048576=false:=by rw [Bool.eq_false_iff];intro hb;exact h (Nat.le_of_ble_eq_true hb)
  rw [this];simp [h]
theorem YW{a b:Nat} : Nat.beq a b=decide (a=b):=by
 by_cases h:a=b
 ·subst h;simp [Nat.beq_refl]
 ·have:Nat.beq a b=false:=by rw [Bool.eq_false_iff];intro hb;exact h (Nat.eq_of_beq_eq_true hb)
  rw [this];simp [h]
theorem YX{a b:Nat} : Nat.ble a b=decide (a<=b):=by
 by_cases h:a<=b
 ·rw [Nat.ble_eq_true_of_le h];simp [h]
 ·have:Nat.ble a b=false:=by rw [Bool.eq_false_iff];intro hb;exact h (Nat.le_of_ble_eq_true hb)
  rw [this];simp [h]
def Xc(s:Option Nat):Nat:=@Option.rec Nat (fun _=>Nat) 0 (fun g=>g) s
theorem Ti(s:Option Nat):Xc s=s.getD 0:=by cases s<;>rfl
def YY(pl:Bool)(esz:Nat)(x:Value)(m:Nat)(vs:List Value)(σ:St)(k:Value->St->Option ρ)(iG:Option ρ):Option ρ:=
 stE σ fun hp L H d=>slO x (fun oa n e=>@Option.rec Addr (fun _=>Option ρ)
  (aF (and (Nat.beq n 0) (and (Nat.beq e 0) (and (not (Nat.beq m 0)) (and (DG (Nat.mul m esz)) (and (lW qI vs) (or (not pl) (lW scB vs)))))))
   (frc (dN hp) fun b=>frc (Nat.mul m esz) fun g=>LF (.cells g pl vs) hp fun hp'=>k (.slice (some (Addr.mk b 0 (some g))) m esz) (St.mk hp' L H d)) iG)
  (fun a=>aF (and (not (Nat.beq m 0)) (and (Nat.ble L a.block) (and (Nat.beq e esz) (Nat.beq a.off 0))))
   (Th hp H a (fun g pl' cs=>aF (and (lW qI vs) (and (or (not pl') (lW scB vs)) (and (Nat.beq (Nat.mul n esz) (dN cs)) (and (DG (Nat.mul (Nat.add n m) esz)) (Nat.ble (Xc a.spot) (dN cs))))))
    (frc (Nat.add n m) fun nm=>frc (Nat.mul nm esz) fun g'=>YV vs cs fun cs'=>JK (.cells g' pl' cs') hp a.block (fun hp'=>k (.slice (some (Addr.mk a.block 0 (some g'))) nm esz) (St.mk hp' L H (aF (or (lW scB vs) (vq a.block d)) d (a.block::d)))) iG) iG) iG) iG) oa) iG
theorem VI(pl:Bool)(esz:Nat)(x:Value)(m:Nat)(vs:List Value)(σ:St)(k:Value->St->Option ρ):YY pl esz x m vs σ k ((σ.append pl esz x m vs).bind fun r=>k r.1 r.2)=(σ.append pl esz x m vs).bind fun r=>k r.1 r.2:=by
 unfold YY;rw [ef];refine JW _ _ _ fun oa n e hx=>?_;subst hx;cases oa with
 | none=>
  simp only [ni,wB,kK,BM,YW];show aF _ _ _=_;unfold aF;cases hc:(decide (n=0)&&(decide (e=0)&&(!decide (m=0)&&(small (m.mul esz)&&(vs.all aW&&(!pl||vs.all sc)))))) with
  | false=>rfl
  | true=>
   simp only [Bool.and_eq_true,decide_eq_true_eq,Bool.not_eq_true',decide_eq_false_iff_not] at hc;obtain ⟨rfl,rfl,hm,hs,hv,hp⟩:=hc;simp only [cP,cr,ze];unfold St.append;have hs':small (m*esz)=true:=hs;simp only [if_neg hm,hs',hv,hp,Bool.and_self,if_true,Option.bind_some];rfl
 | some a=>
  simp only [YW,YX];show aF _ _ _=_;unfold aF;cases hc:(!decide (m=0)&&(decide (σ.lock<=a.block)&&(decide (e=esz)&&decide (a.off=0)))) with
  | false=>rfl
  | true=>
   simp only [Bool.and_eq_true,decide_eq_true_eq,Bool.not_eq_true',decide_eq_false_iff_not] at hc;obtain ⟨hm,hL,rfl,ho⟩:=hc;refine LP σ a _ _ fun g pl' cs hb hblk=>?_;simp only [ni,wB,kK,BM,cr,Ti];cases hd:(vs.all aW&&((!pl'||vs.all sc)&&(decide (n.mul e=cs.length)&&(small ((n.add m).mul e)&&decide (a.spot.getD 0<=cs.length))))) with
   | false=>rfl
   | true=>
    simp only [Bool.and_eq_true,decide_eq_true_eq] at hd;obtain ⟨hv,hp,hl,hs,hsp⟩:=hd;have hlt:a.block < σ.heap.length:=(List.getElem?_eq_some_iff.1 hb).1;simp only [cP,LO,sk,if_pos hlt,gX];unfold St.append;have hs':small ((n+m)*e)=true:=hs;have hl':n*e=cs.length:=hl;have pT:(decide (a.block < σ.lock)||decide (e≠e))=false:=by simp;omega
    simp only [if_neg hm,pT,Bool.false_eq_true,if_false,hblk,Option.bind_some,hv,hp,Bool.and_self,if_true,ho,Nat.zero_add,hl',hs',decide_true,decide_eq_true hsp,bu,Bool.true_and];obtain ⟨ab,ao,asp⟩:=a;simp only at ho;subst ho;show k _ _=k _ _;congr 2;cases (vs.all sc||σ.af.contains ab)<;>rfl
def VJ(pl:Bool)(esz:Nat)(x y:Value)(σ:St)(k:Value->St->Option ρ)(iG:Option ρ):Option ρ:=
 slO y (fun ob' m _=>@Option.rec Addr (fun _=>Option ρ) iG (fun b=>stE σ fun hp _ H _=>Th hp H b (fun _ _ cs=>aF (Nat.ble (Nat.add b.off (Nat.mul m esz)) (dN cs)) (GP cs b.off fun r=>zc r (Nat.mul m esz) fun vs=>YY pl esz x m vs σ k iG) iG) iG) ob') iG
theorem VK(pl:Bool)(esz:Nat)(x y:Value)(σ:St)(k:Value->St->Option ρ):VJ pl esz x y σ k (((σ.news esz y).bind fun (m,vs)=>σ.append pl esz x m vs).bind fun r=>k r.1 r.2)=((σ.news esz y).bind fun (m,vs)=>σ.append pl esz x m vs).bind fun r=>k r.1 r.2:=by
 unfold VJ;refine JW _ _ _ fun oa m c hy=>?_;subst hy;cases oa with
 | none=>rfl
 | some b=>
  simp only [ef];refine LP σ b _ _ fun g pl' cs hb hblk=>?_;simp only [YX,cr,aF];cases hc:decide (b.off.add (m.mul esz)<=cs.length) with
  | false=>rfl
  | true=>
   have hc':b.off+m*esz<=cs.length:=of_decide_eq_true hc;simp only [zb,oG,List.length_drop];rw [if_pos (by omega),if_pos (by show m*esz<=_;omega)];have hn:σ.news esz (.slice (some b) m c)=some (m,(cs.drop b.off).take (m*esz)):=by simp only [St.news,hblk,Option.bind_some,if_pos hc']
   rw [hn];exact VI pl esz x m _ σ k
def JX(y:Nat)(v:Option Value)(d:Nat)(k:Nat->Option ρ):Option ρ:=@Option.rec Value (fun _=>Option ρ) (k d) (fun v=>nN v (fun _ i=>fY (fun m=>aF (Nat.ble m y) (frc m k) none) (fun _=>none) i) none) v
theorem OJ(y:Nat)(v:Option Value)(d:Nat)(k:Nat->Option ρ):JX y v d k=(cN y v d).bind k:=by
 cases v with
 | none=>rfl
 | some v=>
  cases v<;>try rfl
  rename_i q i;show fY (fun m=>aF (Nat.ble m y) (frc m k) none) (fun _=>none) i=_;simp only [cN];cases i with
  | ofNat m=>
   simp only [fY,cP,YX,aF];by_cases h:m<=y
   ·rw [if_pos ⟨by simp only [Int.ofNat_eq_natCast];omega,by simp only [Int.ofNat_eq_natCast];omega⟩];simp [h]
   ·rw [if_neg (by simp only [Int.ofNat_eq_natCast];omega)];simp [h]
  | negSucc m=>rw [if_neg (by omega)];rfl
def DH(esz:Nat)(v:Value)(lo hi:Option Value)(k:Value->Option ρ)(iG:Option ρ):Option ρ:=
 slO v (fun oa n e=>@Option.rec Addr (fun _=>Option ρ) iG (fun a=>aF (or (Nat.beq e 0) (Nat.beq e esz))
  (JX n hi n fun h=>JX h lo 0 fun l=>adE a fun b o s=>frc (Nat.add o (Nat.mul l esz)) fun o'=>frc (Nat.sub h l) fun len=>k (.slice (some (Addr.mk b o' s)) len e)) iG) oa) iG
theorem OK(esz:Nat)(v:Value)(lo hi:Option Value)(k:Value->Option ρ):DH esz v lo hi k ((eS esz v lo hi none).bind k)=(eS esz v lo hi none).bind k:=by
 unfold DH;refine JW _ _ _ fun oa n e hv=>?_;subst hv;cases oa with
 | none=>rfl
 | some a=>
  simp only [YW];show aF _ _ _=_;unfold aF;cases hc:(decide (e=0)||decide (e=esz)) with
  | false=>rfl
  | true=>
   have hc':e=0\/e=esz:=by simpa using hc
   simp only [OJ,cP];have hs:eS esz (.slice (some a) n e) lo hi none=(jm n lo hi none).map fun (l,h,m)=>.slice (some { a with off:=a.off+l*esz }) (h - l) (if m.isSome then 0 else e):=by simp only [eS,if_pos hc']
   rw [hs];simp only [jm];cases cN n hi n with
   | none=>rfl
   | some h=>
    simp only [Option.bind_some];cases cN h lo 0 with
    | none=>rfl
    | some l=>cases a;rfl
def abQ(o:Option Operand)(fr:Fr)(k:Option Value->Option ρ):Option ρ:=@Option.rec Operand (fun _=>Option ρ) (k none) (fun x=>evK x fr fun v=>k (some v)) o
theorem VL(o:Option Operand)(fr:Fr)(k:Option Value->Option ρ):abQ o fr k=(evo fr o).bind k:=by
 cases o with
 | none=>rfl
 | some x=>
  show evK x fr (fun v=>k (some v))=_;rw [cO];simp only [evo];cases ev fr x<;>rfl
def LQ(fi ca:List Value)(vs:List Value):List Value:=@List.rec Value (fun _=>List Value) (@List.rec Value (fun _=>List Value) (@List.rec Value (fun _=>List Value) [] (fun a _ ih=>a::ih) ca) (fun a _ ih=>a::ih) vs) (fun a _ ih=>a::ih) fi
theorem Tj(fi ca vs:List Value):LQ fi ca vs=fi++vs++ca:=by
 have h:∀ (l m:List Value),@List.rec Value (fun _=>List Value) m (fun a _ ih=>a::ih) l=l++m:=fun l m=>by
  induction l with
  | nil=>rfl
  | cons a l ih=>exact congrArg (a::·) ih
 unfold LQ;rw [h,h,h];simp
def fnO(v:Value)(k:Nat->Array Value->Array Value->Option ρ)(e:Option ρ):Option ρ:=
 @Value.rec (fun _=>(Nat->Array Value->Array Value->Option ρ)->Option ρ->Option ρ) (fun _=>PUnit) (fun _=>PUnit)
  (fun _ _ e=>e) (fun _ _ _ e=>e) (fun _ _ _ e=>e) (fun _ _ _ _ e=>e) (fun _ _ e=>e) (fun _ _ e=>e) (fun _ _ _ _ e=>e) (fun _ _ e=>e) (fun _ _ e=>e) (fun fn fi ca _ _ f e=>@Fn.rec (fun _=>Option ρ) (fun h=>f h fi ca) (fun _=>e) (fun _ _=>e) (fun _ _ _ _=>e) (fun _=>e) fn) (fun _ e=>e) (fun _ _ _ _ e=>e) (fun _ e=>e) (fun _ _ _ e=>e) (fun _ _ _ e=>e) (fun _ _=>⟨⟩) ⟨⟩ (fun _ _ _ _=>⟨⟩) v k e
theorem YZ(v:Value)(k:Nat->Array Value->Array Value->Option ρ)(e:Option ρ)(h:∀ g fi ca,v=.func (.func g) fi ca->k g fi ca=e):fnO v k e=e:=by
 cases v<;>try rfl
 rename_i fn fi ca;cases fn<;>first
  | rfl
  | exact h _ _ _ rfl
end
end AM
namespace AM
open Go
noncomputable section
structure W(α:Type 1):Type 1 where
 run:α
inductive FrL where
 | nil
 | cons (t:Nat) (v:Value) (l:FrL)
def ofL:FrL->Fr:=@FrL.rec (fun _=>Fr) [] (fun t v _ ih=>(t,v)::ih)
def toL:Fr->FrL:=@List.rec (Nat×Value) (fun _=>FrL) .nil (fun p _ ih=>.cons p.1 p.2 ih)
theorem iH:∀ fr:Fr,ofL (toL fr)=fr
 | []=>rfl
 | (t,v)::l=>by show (t,v)::ofL (toL l)=_;rw [iH l]
theorem nk:∀ fr:FrL,toL (ofL fr)=fr
 | .nil=>rfl
 | .cons t v l=>by show FrL.cons t v (toL (ofL l))=_;rw [nk l]
section
variable{ρ:Type}
def G5(t:Nat)(fr:FrL)(k:Value->Option ρ):Option ρ:=@FrL.rec (fun _=>Option ρ) none (fun a v _ ih=>@Bool.rec (fun _=>Option ρ) ih (k v) (Nat.beq a t)) fr
theorem sC(t:Nat)(k:Value->Option ρ):∀ fr:FrL,G5 t fr k=Dn t (ofL fr) k
 | .nil=>rfl
 | .cons a v l=>by show @Bool.rec (fun _=>Option ρ) (G5 t l k) (k v) (Nat.beq a t)=@Bool.rec (fun _=>Option ρ) (Dn t (ofL l) k) (k v) (Nat.beq a t);rw [sC t k l]
def getLE(t:Nat)(fr:FrL)(k:Value->Option ρ)(e:Option ρ):Option ρ:=@FrL.rec (fun _=>Option ρ) e (fun a v _ ih=>@Bool.rec (fun _=>Option ρ) ih (k v) (Nat.beq a t)) fr
theorem getLE_eq(t:Nat)(k:Value->Option ρ)(e:Option ρ):∀ fr:FrL,getLE t fr k e=JR t (ofL fr) k e
 | .nil=>rfl
 | .cons a v l=>by show @Bool.rec (fun _=>Option ρ) (getLE t l k e) (k v) (Nat.beq a t)=@Bool.rec (fun _=>Option ρ) (JR t (ofL l) k e) (k v) (Nat.beq a t);rw [getLE_eq t k e l]
end
abbrev EvL:=∀ ρ:Type,FrL->(Value->Option ρ)->Option ρ
def evL:Operand->W EvL:=@Operand.rec (fun _=>W EvL) (fun t=>⟨fun _ fr k=>G5 t fr k⟩) (fun v=>⟨fun _ _ k=>k v⟩) (fun _=>⟨fun _ _ _=>none⟩) (fun f=>⟨fun _ _ k=>k (.func (.func f) #[] #[])⟩)
theorem j5(x:Operand)(ρ:Type)(fr:FrL)(k:Value->Option ρ):(evL x).run ρ fr k=evK x (ofL fr) k:=by
 cases x<;>first
  | rfl
  | exact sC _ _ _
abbrev abR:=∀ ρ:Type,FrL->(List Value->Option ρ)->Option ρ
def OL:List Operand->W abR:=@List.rec Operand (fun _=>W abR) ⟨fun _ _ k=>k []⟩ (fun x _ ih=>⟨fun ρ fr k=>(evL x).run ρ fr fun v=>ih.run ρ fr fun l=>k (v::l)⟩)
theorem DI:∀ (xs:List Operand) (ρ:Type) (fr:FrL) (k:List Value->Option ρ),(OL xs).run ρ fr k=SU xs (ofL fr) k
 | [],ρ,fr,k=>rfl
 | x::l,ρ,fr,k=>by show (evL x).run ρ fr (fun v=>(OL l).run ρ fr fun l=>k (v::l))=evK x (ofL fr) (fun v=>SU l (ofL fr) fun l=>k (v::l));rw [j5];congr 1;funext v;exact DI l ρ fr _
abbrev OpL:=∀ ρ:Type,au->FrL->St->(Value->St->Option ρ)->Option ρ
def un1(x:Operand)(b:∀ ρ:Type,Value->St->(Value->St->Option ρ)->Option ρ):W OpL:=⟨fun ρ _ fr σ k=>(evL x).run ρ fr fun v=>b ρ v σ k⟩
def un2(x y:Operand)(b:∀ ρ:Type,Value->Value->St->(Value->St->Option ρ)->Option ρ):W OpL:=⟨fun ρ _ fr σ k=>(evL x).run ρ fr fun v=>(evL y).run ρ fr fun w=>b ρ v w σ k⟩
def eV(o:AOp):W OpL:=⟨fun ρ cf fr σ k=>ob (aop cf o (ofL fr) σ) fun r=>k r.1 r.2⟩
def Tk:Option Operand->W (∀ ρ:Type,FrL->(Option Value->Option ρ)->Option ρ):=@Option.rec Operand (fun _=>W (∀ ρ:Type,FrL->(Option Value->Option ρ)->Option ρ)) ⟨fun _ _ k=>k none⟩ (fun x=>⟨fun ρ fr k=>(evL x).run ρ fr fun v=>k (some v)⟩)
theorem VM(o:Option Operand)(ρ:Type)(fr:FrL)(k:Option Value->Option ρ):(Tk o).run ρ fr k=abQ o (ofL fr) k:=by
 cases o with
 | none=>rfl
 | some x=>exact j5 x ρ fr _
def Y1(esz:Nat)(x:Operand)(lo hi mx:Option Operand):W OpL:=@Option.rec Operand (fun _=>W OpL)
 ⟨fun ρ cf fr σ k=>(evL x).run ρ fr fun v=>(Tk lo).run ρ fr fun lo=>(Tk hi).run ρ fr fun hi=>DH esz v lo hi (fun u=>k u σ) (ob (eS esz v lo hi none) fun u=>k u σ)⟩
 (fun m=>eV (.slice esz x lo hi (some m))) mx
def VN(pl:Bool)(esz:Nat)(x y:Operand):W OpL:=⟨fun ρ cf fr σ k=>(evL x).run ρ fr fun x=>(evL y).run ρ fr fun y=>VJ pl esz x y σ k (ob ((σ.news esz y).bind fun (m,vs)=>σ.append pl esz x m vs) fun r=>k r.1 r.2)⟩
def Y2(x:Operand)(args:List Operand):W OpL:=⟨fun ρ cf fr σ k=>(evL x).run ρ fr fun v=>fnO v (fun g fi ca=>(OL args).run ρ fr fun vs=>ob (cf (.func g) (LQ fi.toList ca.toList vs) σ) fun r=>@Prod.rec Value St (fun _=>Option ρ) k r) (ob (aop cf (.dw x args) (ofL fr) σ) fun r=>k r.1 r.2)⟩
abbrev Xd:=∀ ρ:Type,lV ρ
def Tl:BinOp->W Xd:=@BinOp.rec (fun _=>W Xd) ⟨fun _=>abE⟩ ⟨fun _=>abF⟩ ⟨fun _=>abG⟩ ⟨fun _=>abH⟩ ⟨fun _=>abI⟩ ⟨fun _=>JJ Nat.land⟩ ⟨fun _=>JJ Nat.lor⟩ ⟨fun _=>JJ Nat.xor⟩ ⟨fun _=>abJ⟩ ⟨fun _=>abK⟩ ⟨fun _=>W9⟩ ⟨fun _=>vp eqB⟩ ⟨fun _=>vp fun a b=>!(eqB a b)⟩ ⟨fun _=>vp ltB⟩ ⟨fun _=>vp leB⟩ ⟨fun _=>vp fun a b=>ltB b a⟩ ⟨fun _=>vp fun a b=>leB b a⟩
theorem Tm(op:BinOp)(ρ:Type):(Tl op).run ρ=YM op:=by cases op<;>rfl
def Y3(op:BinOp):∀ ρ:Type,Value->Value->St->(Value->St->Option ρ)->Option ρ:=fun ρ v w σ k=>
 nN v (fun d a=>nN w (fun d' b=>@Bool.rec (fun _=>Option ρ) (@Bool.rec (fun _=>Option ρ) (ob (bV op v w) fun u=>k u σ) ((Tl op).run ρ d a b (fun u=>k u σ) (ob (bV op v w) fun u=>k u σ)) (Dq op)) ((Tl op).run ρ d a b (fun u=>k u σ) (ob (bV op v w) fun u=>k u σ)) (Nat.beq (j3 d) (j3 d'))) (ob (bV op v w) fun u=>k u σ)) (ob (bV op v w) fun u=>k u σ)
theorem VO(op:BinOp)(ρ:Type)(v w:Value)(σ:St)(k:Value->St->Option ρ):Y3 op ρ v w σ k=SX op v w fun u=>k u σ:=by unfold Y3 SX;congr 1;funext d a;congr 1;funext d' b;rw [Tm];cases Nat.beq (j3 d) (j3 d')<;>rfl
def opL:AOp->W OpL:=@AOp.rec (fun _=>W OpL)
 (fun x=>un1 x fun _ v σ k=>k v σ) (fun c a b=>⟨fun ρ _ fr σ k=>(evL c).run ρ fr fun v=>nF v (fun q=>@Bool.rec (fun _=>Option ρ) ((evL b).run ρ fr fun u=>k u σ) ((evL a).run ρ fr fun u=>k u σ) q) none⟩)
 (fun pl zs=>eV (.alloc pl zs)) (fun pl x=>un1 x fun _ v σ k=>VE pl v σ k) (fun zs ps=>eV (.build zs ps)) (fun pl e n zs ps=>eV (.dO pl e n zs ps))
 (fun n x=>un1 x fun _ v σ k=>LH n v σ k) (fun n x y=>un2 y x fun _ v p σ k=>tW n p v σ k) (fun x=>un1 x fun _ v σ k=>ob (x8 v) fun u=>k u σ) (fun op x y=>un2 x y (Y3 op))
 (fun g s x y=>un2 x y fun _ v w σ k=>ob (eqF g s v w) fun u=>k u σ) (fun op x=>un1 x fun _ v σ k=>ob (aun op v) fun u=>k u σ) (fun d x=>un1 x fun _ v σ k=>nN v (fun _ n=>kJ d n fun i=>k (.int d i) σ) none)
 (fun x=>eV (.zI x)) (fun x=>eV (.qg x)) (fun x=>eV (.mark x)) (fun f a b=>eV (.zJ f a b)) (fun p e z l c=>eV (.eA p e z l c))
 Y1 (fun e n x l h m=>eV (.lY e n x l h m)) (fun x l h=>eV (.kT x l h))
 (fun off x=>un1 x fun _ v σ k=>tT v (fun a=>adE a fun b o s=>frc (Nat.add o off) fun o'=>k (.pointer (some (Addr.mk b o' s))) σ) none)
 (fun off n x=>un1 x fun _ v σ k=>zf v fun cs=>rdK cs.toList off n fun u=>k u σ)
 (fun esz x i=>un2 x i fun ρ v w σ k=>slE v fun a n _=>@Option.rec Addr (fun _=>Option ρ) none (fun a=>z9 n w fun j=>adE a fun b o s=>frc (Nat.add o (Nat.mul j esz)) fun o'=>k (.pointer (some (Addr.mk b o' s))) σ) a)
 (fun esz n x i=>un2 x i fun _ v w σ k=>tT v (fun a=>z9 n w fun j=>adE a fun b o s=>frc (Nat.add o (Nat.mul j esz)) fun o'=>k (.pointer (some (Addr.mk b o' s))) σ) none)
 (fun esz n m x i=>un2 x i fun _ v w σ k=>zf v fun cs=>z9 n w fun j=>rdK cs.toList (Nat.mul j esz) m fun u=>k u σ)
 (fun x i=>un2 x i fun _ v w σ k=>ob (E9 v w) fun u=>k u σ)
 (fun x i=>un1 x fun _ v σ k=>OG v fun vs=>sj vs.toList i fun u=>k u σ)
 (fun f args=>⟨fun ρ cf fr σ k=>(OL args).run ρ fr fun vs=>ob (cf (.func f) vs σ) fun r=>@Prod.rec Value St (fun _=>Option ρ) k r⟩)
 Y2 VN
 (fun x=>un1 x fun _ v σ k=>slE v fun _ n _=>k (.int .i64 (Int.ofNat n)) σ) (fun x=>un1 x fun _ v σ k=>ob (KA v) fun u=>k u σ) (fun n=>⟨fun _ _ _ σ k=>k (.int .i64 n) σ⟩) (fun x=>eV (.cap x)) (fun e x y=>eV (.copy e x y)) (fun e z x=>eV (.clear e z x)) (fun b xs=>eV (.mm b xs)) (fun f=>⟨fun _ _ fr σ k=>ob (f (ofL fr) σ) fun u=>k u σ⟩) (fun x y=>eV (.jl x y)) (eV .iP) (fun a s m k x=>eV (.jc a s m k x)) (fun a s z o m k=>eV (.wG a s z o m k)) (fun m=>eV (.wH m)) (fun t x=>eV (.Ht t x)) (fun t x a=>eV (.zK t x a)) (fun x c=>eV (.DT x c)) (fun n=>eV (.DU n))
section
variable{ρ:Type}
theorem Y4{x:Operand}{b:∀ ρ:Type,Value->St->(Value->St->Option ρ)->Option ρ}{cf:au}{fr:FrL}{σ:St}{k:Value->St->Option ρ}{r:Option ρ}(h:evK x (ofL fr) (fun v=>b ρ v σ k)=r):(un1 x b).run ρ cf fr σ k=r:=by rw [<- h];exact j5 _ _ _ _
theorem Tn{x y:Operand}{b:∀ ρ:Type,Value->Value->St->(Value->St->Option ρ)->Option ρ}{cf:au}{fr:FrL}{σ:St}{k:Value->St->Option ρ}{r:Option ρ}(h:evK x (ofL fr) (fun v=>evK y (ofL fr) fun w=>b ρ v w σ k)=r):(un2 x y b).run ρ cf fr σ k=r:=by rw [<- h];show (evL x).run ρ fr _=_;rw [j5];congr 1;funext v;exact j5 _ _ _ _
theorem DJ(o:AOp)(cf:au)(fr:FrL)(σ:St)(k:Value->St->Option ρ):(opL o).run ρ cf fr σ k=opK o cf (ofL fr) σ k:=by
 cases o<;>first
  | rfl
  | exact Y4 rfl
  | exact Tn rfl
  | skip
 case native f=>
  show (ob (f (ofL fr) σ) fun u=>k u σ)=cZ (.native f) cf (ofL fr) σ k;rw [oH,jZ];simp only [aop];cases f (ofL fr) σ<;>rfl
 case pick c a b=>
  show (evL c).run ρ fr (fun v=>nF v (fun q=>@Bool.rec (fun _=>Option ρ) ((evL b).run ρ fr fun u=>k u σ) ((evL a).run ρ fr fun u=>k u σ) q) none)=_;simp only [j5];rfl
 case bin op x y=>
  refine Tn ?_;simp only [VO];rfl
 case call f args=>
  show (OL args).run ρ fr _=_;rw [DI];rfl
 case slice esz x lo hi mx=>
  cases mx with
  | some m=>rfl
  | none=>
   show (evL x).run ρ fr (fun v=>(Tk lo).run ρ fr fun lo=>(Tk hi).run ρ fr fun hi=>DH esz v lo hi (fun u=>k u σ) (ob (eS esz v lo hi none) fun u=>k u σ))=cZ (.slice esz x lo hi none) cf (ofL fr) σ k;rw [oH,AL,j5,cO];simp only [VM,VL,jZ,OK];cases ev (ofL fr) x with
   | none=>rfl
   | some v=>cases evo (ofL fr) lo with
    | none=>rfl
    | some l=>cases evo (ofL fr) hi with
     | none=>rfl
     | some h=>
      simp only [Option.bind_some];show _=(gS σ (eS esz v l h none)).bind _;cases eS esz v l h none<;>rfl
 case append pl esz x y=>
  show (evL x).run ρ fr (fun x=>(evL y).run ρ fr fun y=>VJ pl esz x y σ k (ob ((σ.news esz y).bind fun (m,vs)=>σ.append pl esz x m vs) fun r=>k r.1 r.2))=cZ (.append pl esz x y) cf (ofL fr) σ k;rw [oH];simp only [j5,cO,jZ,VK,aop];cases ev (ofL fr) x with
  | none=>rfl
  | some v=>cases ev (ofL fr) y with
   | none=>rfl
   | some w=>rfl
 case dw x args=>
  show (evL x).run ρ fr (fun v=>fnO v (fun g fi ca=>(OL args).run ρ fr fun vs=>ob (cf (.func g) (LQ fi.toList ca.toList vs) σ) fun r=>@Prod.rec Value St (fun _=>Option ρ) k r) (ob (aop cf (.dw x args) (ofL fr) σ) fun r=>k r.1 r.2))=cZ (.dw x args) cf (ofL fr) σ k;rw [oH,j5,cO];cases hv:ev (ofL fr) x with
  | none=>simp only [aop,hv];rfl
  | some v=>
   simp only [Option.bind_some,jZ];refine YZ v _ _ fun g fi ca e=>?_;subst e;rw [DI,Dp];simp only [aop,hv,Option.bind_some,B5,Bool.false_and,Bool.false_eq_true,if_false,Tj];cases evs (ofL fr) args with
   | none=>rfl
   | some vs=>rfl
end
abbrev zn:=∀ ρ:Type,au->FrL->St->(FrL->St->Option ρ)->Option ρ
def qL(op:W OpL)(ih:W zn):Option Nat->W zn:=@Option.rec Nat (fun _=>W zn) ⟨fun ρ cf fr σ k=>op.run ρ cf fr σ fun _ σ'=>ih.run ρ cf fr σ' k⟩ (fun d=>⟨fun ρ cf fr σ k=>op.run ρ cf fr σ fun v σ'=>ih.run ρ cf (FrL.cons d v fr) σ' k⟩)
def j7(d:Option Nat)(v:Value)(fr:FrL):FrL:=@Option.rec Nat (fun _=>FrL) fr (fun d=>FrL.cons d v fr) d
def Xe(dst:Option Nat)(g:Option (Nat×Bool))(op:W OpL)(ih:W zn):W zn:=@Option.rec (Nat×Bool) (fun _=>W zn) (qL op ih dst)
 (fun q=>@Prod.rec Nat Bool (fun _=>W zn) (fun t b=>⟨fun ρ cf fr σ k=>G5 t fr fun v=>nF v (fun c=>@Bool.rec (fun _=>Option ρ) (aF b (ih.run ρ cf (j7 dst bA fr) σ k) ((qL op ih dst).run ρ cf fr σ k)) (aF b ((qL op ih dst).run ρ cf fr σ k) (ih.run ρ cf (j7 dst bA fr) σ k)) c) (OG v fun _=>ih.run ρ cf (j7 dst bA fr) σ k)⟩) q) g
def opsL:List aj->W zn:=@List.rec aj (fun _=>W zn) ⟨fun _ _ fr σ k=>k fr σ⟩ (fun o _ ih=>@aj.rec (fun _=>W zn) (fun dst g _ _ op=>Xe dst g (opL op) ih) o)
section
variable{ρ:Type}
theorem sD(d:Option Nat)(v:Value)(fr:FrL):ofL (j7 d v fr)=jB d v (ofL fr):=by cases d<;>rfl
theorem OM(op:W OpL)(ih:W zn)(d:Option Nat)(cf:au)(fr:FrL)(σ:St)(k:FrL->St->Option ρ):(qL op ih d).run ρ cf fr σ k=op.run ρ cf fr σ fun v σ'=>ih.run ρ cf (j7 d v fr) σ' k:=by cases d<;>rfl
theorem opsL_eq:∀ (l:List aj) (cf:au) (fr:FrL) (σ:St) (k:FrL->St->Option ρ),(opsL l).run ρ cf fr σ k=Dz l cf (ofL fr) σ fun fr σ=>k (toL fr) σ
 | [],cf,fr,σ,k=>by
  show k fr σ=k (toL (ofL fr)) σ;rw [nk]
 | o::l,cf,fr,σ,k=>by
  obtain ⟨dst,g,bef,wr,op⟩:=o;have hp:∀ fr:FrL,(qL (opL op) (opsL l) dst).run ρ cf fr σ k=opK op cf (ofL fr) σ fun v σ'=>Dz l cf (jB dst v (ofL fr)) σ' fun fr σ=>k (toL fr) σ:=fun fr=>by rw [OM,DJ];congr 1;funext v σ';rw [opsL_eq l,sD]
  show (Xe dst g (opL op) (opsL l)).run ρ cf fr σ k=nG g (ofL fr) (opK op cf (ofL fr) σ fun v σ'=>Dz l cf (jB dst v (ofL fr)) σ' fun fr σ=>k (toL fr) σ) (Dz l cf (jB dst bA (ofL fr)) σ fun fr σ=>k (toL fr) σ);cases g with
  | none=>exact hp fr
  | some q=>
   obtain ⟨t,b⟩:=q;show G5 t fr (fun v=>nF v (fun c=>@Bool.rec (fun _=>Option ρ) (aF b ((opsL l).run ρ cf (j7 dst bA fr) σ k) ((qL (opL op) (opsL l) dst).run ρ cf fr σ k)) (aF b ((qL (opL op) (opsL l) dst).run ρ cf fr σ k) ((opsL l).run ρ cf (j7 dst bA fr) σ k)) c) (OG v fun _=>(opsL l).run ρ cf (j7 dst bA fr) σ k))=_;rw [sC,hp,opsL_eq l,sD];rfl
end
abbrev G7:=∀ ρ:Type,au->List (Nat×Nat×Nat)->Nat->FrL->St->(FrL->St->Option ρ)->Option ρ
def nq{ρ:Type}(g:Option (Nat×Bool))(fr:FrL)(y n:Option ρ):Option ρ:=
 @Option.rec (Nat×Bool) (fun _=>Option ρ) y (fun q=>@Prod.rec Nat Bool (fun _=>Option ρ) (fun t b=>G5 t fr fun v=>nF v (fun c=>@Bool.rec (fun _=>Option ρ) (aF b n y) (aF b y n) c) (OG v fun _=>n)) q) g
theorem tY{ρ:Type}(g:Option (Nat×Bool))(fr:FrL)(y n:Option ρ):nq g fr y n=nG g (ofL fr) y n:=by
 cases g with
 | none=>rfl
 | some q=>obtain ⟨t,b⟩:=q;exact sC _ _ _
def Y5{ρ:Type}(bef:Nat)(born:List (Nat×Nat×Nat))(H:List Nat)(k:List Nat->Option ρ):Option ρ:=@List.rec (Nat×Nat×Nat) (fun _=>Option ρ) (k H) (fun _ _ _=>k (aU bef born++H)) born
theorem VP{ρ:Type}(bef:Nat)(born:List (Nat×Nat×Nat))(H:List Nat)(k:List Nat->Option ρ):Y5 bef born H k=k (aU bef born++H):=by cases born<;>rfl
def LR:AOp->Bool:=@AOp.rec (fun _=>Bool) (fun _=>true) (fun _ _ _=>true) (fun _ _=>false) (fun _ _=>false) (fun _ _=>true) (fun _ _ _ _ _=>false) (fun _ _=>false) (fun _ _ _=>false) (fun _=>true) (fun _ _ _=>true) (fun _ _ _ _=>true) (fun _ _=>true) (fun _ _=>true) (fun _=>false) (fun _=>false) (fun _=>false) (fun _ _ _=>true) (fun _ _ _ _ _=>false) (fun _ _ _ _ _=>true) (fun _ _ _ _ _ _=>true) (fun _ _ _=>true) (fun _ _=>true) (fun _ _ _=>true) (fun _ _ _=>true) (fun _ _ _ _=>true) (fun _ _ _ _ _=>true) (fun _ _=>true) (fun _ _=>true) (fun _ _=>false) (fun _ _=>false) (fun _ _ _ _=>false) (fun _=>true) (fun _=>true) (fun _=>true) (fun _=>true) (fun _ _ _=>false) (fun _ _ _=>false) (fun _ _=>true) (fun _=>false) (fun _ _=>false) false (fun _ _ _ _ _=>false) (fun _ _ _ _ _ _=>false) (fun _=>false) (fun _ _=>false) (fun _ _ _=>false) (fun _ _=>false) (fun _=>false)
theorem To{o:AOp}(h:LR o=true)(cf:au)(fr:Fr)(σ:St):aop cf o fr σ=(bC o fr).map fun v=>(v,σ):=by
 cases o<;>first
  | rfl
  | (exact absurd h (by decide))
  | (cases h;done)
def BN:List aj->W G7:=@List.rec aj (fun _=>W G7) ⟨fun _ _ _ _ fr σ k=>k fr σ⟩
 (fun o _ ih=>@aj.rec (fun _=>W G7) (fun dst g bef wr op=>@Bool.rec (fun _=>W G7)
  ⟨fun ρ cf born j fr σ k=>nq g fr
  (stE σ fun hp L H d=>frc (dN hp) fun n=>Y5 bef born H fun H'=>(opL op).run ρ cf fr (St.mk hp (@Bool.rec (fun _=>Nat) n (eo wr (bef.testBit 255) born L n) wr) H' d) fun v σ'=>
   stE σ' fun hp' _ _ d'=>frc (dN hp') fun n'=>ih.run ρ cf (aF (Nat.ble n' n) born ((j,n,n')::born)) (Nat.succ j) (j7 dst v fr) (St.mk hp' L H d') k)
  (ih.run ρ cf born (Nat.succ j) (j7 dst bA fr) σ k)⟩
  ⟨fun ρ cf born j fr σ k=>nq g fr ((opL op).run ρ cf fr σ fun v _=>ih.run ρ cf born (Nat.succ j) (j7 dst v fr) σ k) (ih.run ρ cf born (Nat.succ j) (j7 dst bA fr) σ k)⟩ (LR op)) o)
abbrev Tp:=∀ ρ:Type,au->List (Bool×Nat)->FrL->St->(FrL->St->Option ρ)->Option ρ
def BO(m:Bool):List aj->List Nat->W Tp:=@List.rec aj (fun _=>List Nat->W Tp) (fun _=>⟨fun _ _ _ fr σ k=>k fr σ⟩)
 (fun o _ ih B=>@aj.rec (fun _=>W Tp) (fun dst g bef wr op=>⟨fun ρ cf seen fr σ k=>nq g fr
  (aF wr
   (aF m (stE σ fun hp L H d=>(opL op).run ρ cf fr (St.mk hp L (B++H) d) fun v σ'=>stE σ' fun hp' L' _ d'=>(ih B).run ρ cf seen (j7 dst v fr) (St.mk hp' L' H d') k) none)
   (ob (tgt (ofL fr) op) fun tg=>aF (apart tg seen&&(!m||tg.all fun p=>B.contains p.2)) ((opL op).run ρ cH fr σ fun v σ'=>(ih B).run ρ cf (tg++seen) (j7 dst v fr) σ' k) none))
  ((ih B).run ρ cf seen (j7 dst bA fr) σ k)⟩) o)
section
variable{ρ:Type}
theorem zo:∀ (l:List aj) (cf:au) (born:List (Nat×Nat×Nat)) (j:Nat) (fr:FrL) (σ:St) (k:FrL->St->Option ρ),(BN l).run ρ cf born j fr σ k=vg l cf born j (ofL fr) σ fun fr σ=>k (toL fr) σ
 | [],cf,born,j,fr,σ,k=>by
  show k fr σ=k (toL (ofL fr)) σ;rw [nk]
 | o::l,cf,born,j,fr,σ,k=>by
  obtain ⟨dst,g,bef,wr,op⟩:=o;show W.run (@Bool.rec (fun _=>W G7)
   ⟨fun ρ cf born j fr σ k=>nq g fr
   (stE σ fun hp L H d=>frc (dN hp) fun n=>Y5 bef born H fun H'=>(opL op).run ρ cf fr (St.mk hp (@Bool.rec (fun _=>Nat) n (eo wr (bef.testBit 255) born L n) wr) H' d) fun v σ'=>
    stE σ' fun hp' _ _ d'=>frc (dN hp') fun n'=>(BN l).run ρ cf (aF (Nat.ble n' n) born ((j,n,n')::born)) (Nat.succ j) (j7 dst v fr) (St.mk hp' L H d') k)
   ((BN l).run ρ cf born (Nat.succ j) (j7 dst bA fr) σ k)⟩
   ⟨fun ρ cf born j fr σ k=>nq g fr ((opL op).run ρ cf fr σ fun v _=>(BN l).run ρ cf born (Nat.succ j) (j7 dst v fr) σ k) ((BN l).run ρ cf born (Nat.succ j) (j7 dst bA fr) σ k)⟩ (LR op)) ρ cf born j fr σ k =
   nG g (ofL fr)
   (stE σ fun hp L H d=>frc (dN hp) fun n=>opK op cf (ofL fr) (St.mk hp (eo wr (bef.testBit 255) born L n) (aU bef born++H) d) fun v σ'=>
    stE σ' fun hp' _ _ d'=>frc (dN hp') fun n'=>vg l cf (aF (Nat.ble n' n) born ((j,n,n')::born)) (Nat.succ j) (jB dst v (ofL fr)) (St.mk hp' L H d') fun fr σ=>k (toL fr) σ)
   (vg l cf born (Nat.succ j) (jB dst bA (ofL fr)) σ fun fr σ=>k (toL fr) σ)
  cases hf:LR op with
  | false=>
   show nq g fr _ _=_;rw [tY];have hl:∀ (L n:Nat),(@Bool.rec (fun _=>Nat) n (eo wr (bef.testBit 255) born L n) wr)=eo wr (bef.testBit 255) born L n:=fun L n=>by cases wr<;>rfl
   simp only [DJ,zo l,sD,VP,hl]
  | true=>
   show nq g fr _ _=_;rw [tY];simp only [DJ,zo l,sD,zg,To hf,ef,cP,cr];cases bC op (ofL fr) with
   | none=>rfl
   | some v=>
    simp only [Option.map_some,Option.bind_some];have:aF (Nat.ble σ.heap.length σ.heap.length) born ((j,σ.heap.length,σ.heap.length)::born)=born:=by rw [Nat.ble_eq_true_of_le (Nat.le_refl _)];rfl
    simp only [this]
theorem G8(m:Bool)(B:List Nat):∀ (l:List aj) (cf:au) (seen:List (Bool×Nat)) (fr:FrL) (σ:St) (k:FrL->St->Option ρ),(BO m l B).run ρ cf seen fr σ k=oJ m B l cf seen (ofL fr) σ fun fr σ=>k (toL fr) σ
 | [],cf,seen,fr,σ,k=>by
  show k fr σ=k (toL (ofL fr)) σ;rw [nk]
 | o::l,cf,seen,fr,σ,k=>by
  obtain ⟨dst,g,bef,wr,op⟩:=o;show nq g fr
   (aF wr
    (aF m (stE σ fun hp L H d=>(opL op).run ρ cf fr (St.mk hp L (B++H) d) fun v σ'=>stE σ' fun hp' L' _ d'=>(BO m l B).run ρ cf seen (j7 dst v fr) (St.mk hp' L' H d') k) none)
    (ob (tgt (ofL fr) op) fun tg=>aF (apart tg seen&&(!m||tg.all fun p=>B.contains p.2)) ((opL op).run ρ cH fr σ fun v σ'=>(BO m l B).run ρ cf (tg++seen) (j7 dst v fr) σ' k) none))
   ((BO m l B).run ρ cf seen (j7 dst bA fr) σ k) =
   nG g (ofL fr)
   (aF wr
    (aF m (stE σ fun hp L H d=>opK op cf (ofL fr) (St.mk hp L (B++H) d) fun v σ'=>stE σ' fun hp' L' _ d'=>oJ m B l cf seen (jB dst v (ofL fr)) (St.mk hp' L' H d') fun fr σ=>k (toL fr) σ) none)
    (ob (tgt (ofL fr) op) fun tg=>aF (apart tg seen&&(!m||tg.all fun p=>B.contains p.2)) (opK op cH (ofL fr) σ fun v σ'=>oJ m B l cf (tg++seen) (jB dst v (ofL fr)) σ' fun fr σ=>k (toL fr) σ) none))
   (oJ m B l cf seen (jB dst bA (ofL fr)) σ fun fr σ=>k (toL fr) σ)
  rw [tY];simp only [DJ,G8 m B l,sD]
end
abbrev kR:=∀ ρ:Type,au->Nat->(FrL->St->Option ρ)->(Ex->FrL->St->Option ρ)->FrL->St->Option ρ
def oO:List Nat->W (∀ ρ:Type,FrL->(FrL->Option ρ)->Option ρ):=@List.rec Nat (fun _=>W (∀ ρ:Type,FrL->(FrL->Option ρ)->Option ρ)) ⟨fun _ _ k=>k .nil⟩ (fun t _ ih=>⟨fun ρ fr k=>getLE t fr (fun v=>ih.run ρ fr fun l=>k (.cons t v l)) (ih.run ρ fr k)⟩)
section
variable{ρ:Type}
theorem oP:∀ (l:List Nat) (fr:FrL) (k:FrL->Option ρ),(oO l).run ρ fr k=nH l (ofL fr) fun fr=>k (toL fr)
 | [],fr,k=>rfl
 | t::l,fr,k=>by show getLE t fr (fun v=>(oO l).run ρ fr fun l=>k (.cons t v l)) ((oO l).run ρ fr k)=JR t (ofL fr) (fun v=>nH l (ofL fr) fun l=>k (toL ((t,v)::l))) (nH l (ofL fr) fun fr=>k (toL fr));rw [getLE_eq,oP l fr k];congr 1;funext v;exact oP l fr _
def Tq:FrL->List Value:=@FrL.rec (fun _=>List Value) [] (fun _ v _ ih=>v::ih)
theorem zq:∀ fr:FrL,Tq fr=(ofL fr).map (·.2)
 | .nil=>rfl
 | .cons t v l=>by show v::Tq l=_;rw [zq l];rfl
def vi(base:Nat)(fr:FrL)(σ:St)(k:FrL->St->Option ρ):Option ρ:=gcN base (Tq fr) σ (fun τ=>k fr τ) fun vs τ=>k (toL (((ofL fr).map (·.1)).zip vs)) τ
theorem zu(base:Nat)(fr:FrL)(σ:St)(k:FrL->St->Option ρ):vi base fr σ k=oM base (ofL fr) σ fun fr σ=>k (toL fr) σ:=by
 unfold vi;rw [su,JT _ _ _ _ _ fun τ=>?_,zq]
 ·unfold jo;cases gc base ((ofL fr).map (·.2)) σ<;>rfl
 ·rw [zq,oL,nk]
end
def acT(ia ib:W kR):W kR:=⟨fun ρ cf n kn kx fr σ=>ia.run ρ cf n (fun fr σ=>ib.run ρ cf n kn kx fr σ) kx fr σ⟩
def abS(c:Operand)(ia ib:W kR):W kR:=⟨fun ρ cf n kn kx fr σ=>(evL c).run ρ fr fun v=>nF v (fun b=>@Bool.rec (fun _=>Option ρ) (ib.run ρ cf n kn kx fr σ) (ia.run ρ cf n kn kx fr σ) b) none⟩
def Y6(id:Nat)(ib:W kR):W kR:=⟨fun ρ cf n kn kx fr σ=>ib.run ρ cf n kn (fun e fr σ=>oN e (fun i=>aF (Nat.beq i id) (kn fr σ) (kx e fr σ)) (kx e fr σ)) fr σ⟩
def LS{ρ:Type}(step:(FrL->St->Option ρ)->FrL->St->Option ρ):Nat->FrL->St->Option ρ:=@Nat.rec (fun _=>FrL->St->Option ρ) (fun _ _=>none) (fun _ ih=>step ih)
def abT(live:List Nat)(ib:W kR):W kR:=⟨fun ρ cf n kn kx fr σ=>stE σ fun hp L H d=>frc (dN hp) fun base=>(oO live).run ρ fr fun fr=>
 LS (fun ih fr σ=>ib.run ρ cf n (fun fr' σ'=>(oO live).run ρ fr' fun fr'=>vi base fr' σ' ih) (fun e fr' σ'=>stE σ' fun hp' L' H' d'=>jk d' d fun d''=>kx e fr' (St.mk hp' L' H' d'')) fr σ) n fr (St.mk hp L H [])⟩
def acU(f:kP):W kR:=⟨fun ρ cf n kn kx fr σ=>f ρ cf n (fun fr σ=>kn (toL fr) σ) (fun e fr σ=>kx e (toL fr) σ) (ofL fr) σ⟩
def abU{ρ:Type} : Value->(Nat->Array Value->Array Value->Option ρ)->Option ρ:=
 @Value.rec (fun _=>(Nat->Array Value->Array Value->Option ρ)->Option ρ) (fun _=>PUnit) (fun _=>PUnit)
  (fun _ _=>none) (fun _ _ _=>none) (fun _ _ _=>none) (fun _ _ _ _=>none) (fun _ _=>none) (fun _ _=>none) (fun _ _ _ _=>none) (fun _ _=>none) (fun _ _=>none) (fun fn fi ca _ _ f=>@Fn.rec (fun _=>Option ρ) (fun h=>f h fi ca) (fun _=>none) (fun _ _=>none) (fun _ _ _ _=>none) (fun _=>none) fn) (fun _=>none) (fun _ _ _ _=>none) (fun _=>none) (fun _ _ _=>none) (fun _ _ _=>none) (fun _ _=>⟨⟩) ⟨⟩ (fun _ _ _ _=>⟨⟩)
def Y7:List Nat->List Value->FrL->FrL:=@List.rec Nat (fun _=>List Value->FrL->FrL) (fun _ fr=>fr) (fun t _ ih vs fr=>@List.rec Value (fun _=>FrL) fr (fun v l _=>.cons t v (ih l fr)) vs)
theorem LU:∀ (ps:List Nat) (vs:List Value) (fr:FrL),ofL (Y7 ps vs fr)=ps.zip vs++ofL fr
 | [],vs,fr=>by cases vs<;>rfl
 | t::ps,[],fr=>rfl
 | t::ps,v::vs,fr=>by show (t,v)::ofL (Y7 ps vs fr)=_;rw [LU ps vs fr];rfl
def gcJ{ρ:Type}(base:Nat)(d:List Nat)(τ:St)(k:St->Option ρ):Option ρ:=gcN base [] τ (fun τ'=>stE τ' fun hp L H d'=>jk d' d fun d''=>k (St.mk hp L H d'')) (fun _ τ'=>stE τ' fun hp L H d'=>jk d' d fun d''=>k (St.mk hp L H d''))
theorem JY{ρ:Type}(base:Nat)(d:List Nat)(τ:St)(k:St->Option ρ):gcJ base d τ k=(gc base [] τ).bind fun z=>k { z.2 with af:=aO d z.2.af }:=by
 unfold gcJ;refine (JT base [] τ _ _ ?_).trans ?_
 ·intro τ;rfl
 ·simp only [ef,sB]
def DK(ia ib:W kR)(ps:List Nat)(fr:FrL)(cf:au)(n:Nat):List Value->St->Option (Value×St):=fun args σ=>
 aF (args.length=ps.length&&args.all lA) (stE σ fun hp L H d=>frc (dN hp) fun base=>ia.run (Value×St) cf n
  (fun fr1 σ1=>ib.run (Value×St) cf n (fun _ σ2=>gcJ base d σ2 fun τ=>some (.bool true,τ)) (fun _ _ _=>none) fr1 σ1) (fun _ _ _=>none) (Y7 ps args fr) (St.mk hp L H [])) none
def abV(x:Operand)(g:Nat)(ps:List Nat)(ig ia ib:W kR):W kR:=⟨fun ρ cf n kn kx fr σ=>(evL x).run ρ fr fun v=>abU v fun h fi ca=>
 aF (h==g&&fi.isEmpty) (stE σ fun hp L H d=>frc (dN hp) fun base=>ig.run ρ (c8 cf (DK ia ib ps fr cf n)) n (fun _ τ=>gcJ base d τ fun τ'=>kn fr τ') (fun e _ τ=>oN e (fun _=>none) (gcJ base d τ fun τ'=>kn fr τ')) (toL (bX 0 (l8::ca.toList))) (St.mk hp L H [])) none⟩
def ga:az->W kR:=@az.rec (fun _=>W kR)
 ⟨fun _ _ _ kn _ fr σ=>kn fr σ⟩ ⟨fun _ _ _ _ kx fr σ=>kx .ret fr σ⟩
 (fun ops=>⟨fun ρ cf _ kn _ fr σ=>(opsL ops).run ρ cf fr σ kn⟩)
 (fun ops=>⟨fun ρ cf _ kn _ fr σ=>(BN ops).run ρ (bD cf) [] 0 fr σ kn⟩) (fun xs m ops=>⟨fun ρ cf _ kn _ fr σ=>ob (boxes (ofL fr) xs) fun B=>(BO m ops B).run ρ (bD cf) [] fr σ kn⟩) (fun ops=>acU (ez (.lits ops)))
 (fun _ _ ia ib=>acT ia ib) (fun c _ _ ia ib=>abS c ia ib) (fun id _ ib=>Y6 id ib) (fun live _ ib=>abT live ib)
 (fun id=>⟨fun _ _ _ _ kx fr σ=>kx (.exit id) fr σ⟩)
 (fun x g _ ps _ _ ig ia ib=>abV x g ps ig ia ib)
def Xf(c:az):Prop:=∀ (ρ:Type) (cf:au) (n:Nat) (kn:FrL->St->Option ρ) (kx:Ex->FrL->St->Option ρ) (fr:FrL) (σ:St),(ga c).run ρ cf n kn kx fr σ=ez c ρ cf n (fun fr σ=>kn (toL fr) σ) (fun e fr σ=>kx e (toL fr) σ) (ofL fr) σ
theorem nI:∀ c:az,Xf c
 | .skip=>fun ρ cf n kn kx fr σ=>by show kn fr σ=kn (toL (ofL fr)) σ;rw [nk]
 | .ret=>fun ρ cf n kn kx fr σ=>by show kx .ret fr σ=kx .ret (toL (ofL fr)) σ;rw [nk]
 | .region ops=>fun ρ cf n kn kx fr σ=>opsL_eq ops cf fr σ kn
 | .drawn ops=>fun ρ cf n kn kx fr σ=>zo ops (bD cf) [] 0 fr σ kn
 | .nO xs m ops=>fun ρ cf n kn kx fr σ=>by
  show (ob (boxes (ofL fr) xs) fun B=>(BO m ops B).run ρ (bD cf) [] fr σ kn)=(ob (boxes (ofL fr) xs) fun B=>oJ m B ops (bD cf) [] (ofL fr) σ fun fr σ=>kn (toL fr) σ);simp only [G8]
 | .lits ops=>fun ρ cf n kn kx fr σ=>rfl
 | .seq a b=>fun ρ cf n kn kx fr σ=>by
  show (ga a).run ρ cf n (fun fr σ=>(ga b).run ρ cf n kn kx fr σ) kx fr σ=ez a ρ cf n (fun fr σ=>ez b ρ cf n (fun fr σ=>kn (toL fr) σ) (fun e fr σ=>kx e (toL fr) σ) fr σ) (fun e fr σ=>kx e (toL fr) σ) (ofL fr) σ;rw [nI a];congr 1;funext fr σ;rw [nI b,iH]
 | .cond c a b=>fun ρ cf n kn kx fr σ=>by
  show (evL c).run ρ fr (fun v=>nF v (fun q=>@Bool.rec (fun _=>Option ρ) ((ga b).run ρ cf n kn kx fr σ) ((ga a).run ρ cf n kn kx fr σ) q) none)=_;rw [j5,nI a,nI b];rfl
 | .block id b=>fun ρ cf n kn kx fr σ=>by
  show (ga b).run ρ cf n kn (fun e fr σ=>oN e (fun i=>aF (Nat.beq i id) (kn fr σ) (kx e fr σ)) (kx e fr σ)) fr σ=_;rw [nI b];rfl
 | .loop live b=>fun ρ cf n kn kx fr σ=>by
  show (stE σ fun hp L H d=>frc (dN hp) fun base=>(oO live).run ρ fr fun fr=>
   LS (fun ih fr σ=>(ga b).run ρ cf n (fun fr' σ'=>(oO live).run ρ fr' fun fr'=>vi base fr' σ' ih) (fun e fr' σ'=>stE σ' fun hp' L' H' d'=>jk d' d fun d''=>kx e fr' (St.mk hp' L' H' d'')) fr σ) n fr (St.mk hp L H [])) =
   (stE σ fun hp L H d=>frc (dN hp) fun base=>nH live (ofL fr) fun fr=>
   vh (fun ih fr σ=>ez b ρ cf n (fun fr' σ'=>nH live fr' fun fr'=>oM base fr' σ' ih) (fun e fr' σ'=>stE σ' fun hp' L' H' d'=>jk d' d fun d''=>kx e (toL fr') (St.mk hp' L' H' d'')) fr σ) n fr (St.mk hp L H []))
  have hb:∀ (ρ:Type) (cf:au) (n:Nat) (kn:FrL->St->Option ρ) (kx:Ex->FrL->St->Option ρ) (fr:FrL) (σ:St),(ga b).run ρ cf n kn kx fr σ=ez b ρ cf n (fun fr σ=>kn (toL fr) σ) (fun e fr σ=>kx e (toL fr) σ) (ofL fr) σ:=nI b;simp only [ef,cP,cr,oP,oK,hb,zu,iH];have key:∀ (base m:Nat) (fr:Fr) (σ1:St),LS (fun ih fr σ_1=>ez b ρ cf n (fun fr σ_2=>oM base (fr.keep live) σ_2 fun fr σ=>ih (toL fr) σ) (fun e fr σ_2=>jk σ_2.af σ.af fun d''=>kx e (toL fr) ⟨σ_2.heap,σ_2.lock,σ_2.hid,d''⟩) (ofL fr) σ_1) m (toL fr) σ1 =
    vh (fun ih fr σ_1=>ez b ρ cf n (fun fr' σ'=>oM base (fr'.keep live) σ' ih) (fun e fr' σ'=>jk σ'.af σ.af fun d''=>kx e (toL fr') ⟨σ'.heap,σ'.lock,σ'.hid,d''⟩) fr σ_1) m fr σ1:=by
   intro base m;induction m with
   | zero=>intro fr σ1;rfl
   | succ m ih=>
    intro fr σ1;rw [zl];show ez b ρ cf n (fun fr σ_2=>oM base (fr.keep live) σ_2 fun fr σ=>LS _ m (toL fr) σ) _ (ofL (toL fr)) σ1=_;rw [iH];congr 1;funext fr σ;congr 1;funext fr σ;exact ih fr σ
  exact key _ n _ _
 | .exit id=>fun ρ cf n kn kx fr σ=>by show kx (.exit id) fr σ=kx (.exit id) (toL (ofL fr)) σ;rw [nk]
 | .each x g gk ps ba b=>fun ρ cf n kn kx fr σ=>by
  rw [kQ (.each x g gk ps ba b)];have hd:∀ (c:az) (ρ:Type) (cf:au) (n:Nat) (kn:FrL->St->Option ρ) (kx:Ex->FrL->St->Option ρ) (fr:FrL) (σ:St),Xf c->(ga c).run ρ cf n kn kx fr σ=fZ (exec cf n c (ofL fr) σ) (fun fr σ=>kn (toL fr) σ) (fun e fr σ=>kx e (toL fr) σ):=fun c ρ cf n kn kx fr σ h=>by rw [h,kQ c]
  have ha:=nI ba;have hb:=nI b;have hg:=nI gk;have Y8:DK (ga ba) (ga b) ps fr cf n=dX (exec cf n ba) (exec cf n b) ps (ofL fr):=by
   funext args σ;unfold DK dX aF;by_cases hc:(decide (args.length=ps.length)&&args.all lA)=true
   ·rw [if_pos hc,hc];simp only [ef,cP,cr];rw [hd _ _ _ _ _ _ _ _ ha,LU];unfold fZ;cases exec cf n ba (ps.zip args++ofL fr) ⟨σ.heap,σ.lock,σ.hid,[]⟩ with
    | none=>rfl
    | some r=>
     obtain ⟨e,fr1,σ1⟩:=r;cases e<;>try rfl
     simp only [Option.bind_some];rw [hd _ _ _ _ _ _ _ _ hb,iH];unfold fZ;cases exec cf n b fr1 σ1 with
     | none=>rfl
     | some q=>
      obtain ⟨e,fr2,σ2⟩:=q;cases e<;>try rfl
      simp only [Option.bind_some,JY];cases gc σ.heap.length [] σ2<;>rfl
   ·rw [if_neg hc];rw [Bool.not_eq_true] at hc;rw [hc]
  show ((evL x).run ρ fr fun v=>abU v fun h fi ca=>aF (h==g&&fi.isEmpty) (stE σ fun hp L H d=>frc (dN hp) fun base=>(ga gk).run ρ (c8 cf (DK (ga ba) (ga b) ps fr cf n)) n (fun _ τ=>gcJ base d τ fun τ'=>kn fr τ') (fun e _ τ=>oN e (fun _=>none) (gcJ base d τ fun τ'=>kn fr τ')) (toL (bX 0 (l8::ca.toList))) (St.mk hp L H [])) none)=_;rw [j5,cO,Y8];simp only [exec];cases ev (ofL fr) x with
  | none=>rfl
  | some v=>
   cases v<;>try rfl
   rename_i f fi ca;cases f<;>try rfl
   rename_i h;show aF (h==g&&fi.isEmpty) _ none=fZ (if (h==g&&fi.isEmpty)=true then _ else none) _ _;unfold aF;cases hq:(h==g&&fi.isEmpty) with
   | false=>rfl
   | true=>
    simp only [if_true,ef,cP,cr];rw [hd _ _ _ _ _ _ _ _ hg,iH];unfold fZ;cases exec (c8 cf (dX (exec cf n ba) (exec cf n b) ps (ofL fr))) n gk (bX 0 (l8::ca.toList)) ⟨σ.heap,σ.lock,σ.hid,[]⟩ with
    | none=>rfl
    | some r=>
     obtain ⟨e,fr1,σ1⟩:=r;have key:(gc σ.heap.length [] σ1).bind (fun z=>kn fr { z.2 with af:=aO σ.af z.2.af })=(((gc σ.heap.length [] σ1).map fun z=>(Ex.normal,ofL fr,{ z.2 with af:=aO σ.af z.2.af })).bind fun r=>match r.1 with
       | .normal=>kn (toL r.2.1) r.2.2
       | e=>kx e (toL r.2.1) r.2.2):=by
      cases gc σ.heap.length [] σ1 with
      | none=>rfl
      | some z=>simp only [Option.bind_some,Option.map_some,nk]
     cases e with
     | exit i=>rfl
     | normal=>simp only [Option.bind_some,JY];exact key
     | ret=>simp only [Option.bind_some];show gcJ _ _ _ _=_;rw [JY];exact key
section
variable{ρ:Type}
def VQ:List Value->Nat->(FrL->Option ρ)->Option ρ:=@List.rec Value (fun _=>Nat->(FrL->Option ρ)->Option ρ) (fun _ k=>k .nil) (fun v _ ih i k=>frc (Nat.succ i) fun j=>ih j fun l=>k (.cons i v l))
theorem LV:∀ (l:List Value) (i:Nat) (k:FrL->Option ρ),VQ l i k=k (toL (bX i l))
 | [],i,k=>rfl
 | v::l,i,k=>by show frc (Nat.succ i) (fun j=>VQ l j fun l=>k (.cons i v l))=_;rw [cP,LV l];rfl
def Y9(fr:FrL)(hp:List Blk)(H:List Nat):ij->(Value->Option ρ)->Option ρ:=@ij.rec (fun _=>(Value->Option ρ)->Option ρ) (fun t k=>G5 t fr k)
 (fun a n k=>G5 a fr fun v=>tT v (fun a=>z8 hp H a fun _ _ cs=>rdK cs a.off n k) none)
theorem VR(fr:FrL)(hp:List Blk)(H:List Nat)(r:ij)(k:Value->Option ρ):Y9 fr hp H r k=Te (ofL fr) hp H r k:=by cases r<;>exact sC _ _ _
def Tr(fr:FrL)(hp:List Blk)(H:List Nat):List ij->(List Value->Option ρ)->Option ρ:=@List.rec ij (fun _=>(List Value->Option ρ)->Option ρ) (fun k=>k []) (fun r _ ih k=>Y9 fr hp H r fun v=>ih fun l=>k (v::l))
theorem G9(fr:FrL)(hp:List Blk)(H:List Nat):∀ (l:List ij) (k:List Value->Option ρ),Tr fr hp H l k=GW (ofL fr) hp H l k
 | [],k=>rfl
 | r::l,k=>by show Y9 fr hp H r (fun v=>Tr fr hp H l fun l=>k (v::l))=Te (ofL fr) hp H r (fun v=>GW (ofL fr) hp H l fun l=>k (v::l));rw [VR];congr 1;funext v;exact G9 fr hp H l _
end
def ON(rs:List ij)(base:Nat)(d:List Nat)(fr:FrL)(τ:St):Option (Value×St):=
 stE τ fun hp L H d'=>Tr fr hp H rs fun vs=>JV vs fun u=>gcK base u (St.mk hp L H d') fun vs τ'=>abP vs fun v=>stE τ' fun hp' L' H' d'=>jk d' d fun d''=>some (v,St.mk hp' L' H' d'')
theorem VS(rs:List ij)(base:Nat)(d:List Nat)(fr:FrL)(τ:St):ON rs base d fr τ=Aa rs base d (ofL fr) τ:=by unfold ON Aa;simp only [G9]
abbrev FnL:=au->Nat->List Value->St->Option (Value×St)
def fnL:AFn->W (ULift FnL):=@AFn.rec (fun _=>W (ULift FnL)) (fun code rs=>⟨⟨fun cf n args σ=>stE σ fun hp L H d=>frc (dN hp) fun base=>VQ args 0 fun fr=>
  (ga code).run (Value×St) cf n (fun fr τ=>ON rs base d fr τ) (fun e fr τ=>oN e (fun _=>none) (ON rs base d fr τ)) fr (St.mk hp L H [])⟩⟩)
theorem Tt(fn:AFn)(cf:au)(n:Nat)(args:List Value)(σ:St):(fnL fn).run.down cf n args σ=GY cf n fn args σ:=by
 obtain ⟨code,rs⟩:=fn;show (stE σ fun hp L H d=>frc (dN hp) fun base=>VQ args 0 fun fr=>
  (ga code).run (Value×St) cf n (fun fr τ=>ON rs base d fr τ) (fun e fr τ=>oN e (fun _=>none) (ON rs base d fr τ)) fr (St.mk hp L H [])) =
  (stE σ fun hp L H d=>frc (dN hp) fun base=>ez code (Value×St) cf n (fun fr τ=>Aa rs base d fr τ) (fun e fr τ=>oN e (fun _=>none) (Aa rs base d fr τ)) (bX 0 args) (St.mk hp L H []))
 have hb:∀ (ρ:Type) (cf:au) (n:Nat) (kn:FrL->St->Option ρ) (kx:Ex->FrL->St->Option ρ) (fr:FrL) (σ:St),(ga code).run ρ cf n kn kx fr σ=ez code ρ cf n (fun fr σ=>kn (toL fr) σ) (fun e fr σ=>kx e (toL fr) σ) (ofL fr) σ:=nI code;simp only [ef,cP,cr,LV,hb,VS,iH]
def OO(l:List (Nat×AFn)):Nat->au:=@Nat.rec (fun _=>au) (fun _ _ _=>none)
 (fun m ih g=>@Fn.rec (fun _=>List Value->St->Option (Value×St)) (fun f args σ=>qa f l fun fn=>(fnL fn).run.down ih m args σ) (fun _ _ _=>none) (fun _ _ _ _=>none) (fun _ _ _ _ _ _=>none) (fun _ _ _=>none) g)
theorem LW(l:List (Nat×AFn)):∀ n,OO l n=runK l n
 | 0=>rfl
 | n+1=>by
  funext g args σ;cases g with
  | func f=>
   show qa f l (fun fn=>(fnL fn).run.down (OO l n) n args σ)=qa f l (fun fn=>GY (runK l n) n fn args σ);congr 1;funext fn;rw [Tt,LW l n]
  | _=>rfl
theorem tZ{l:List (Nat×AFn)}{n:Nat}{g:Fn}{args:List Value}{σ:St}{r:Option (Value×St)}(h:OO l n g args σ=r):run (.base l) n g args σ=r:=Tg (by rw [<- LW];exact h)
end
end AM
namespace AM
open Go Go.RowKit
section
variable{P:Program}
theorem OP{aa:au}{m:Nat}{k:Fr->St->Option Value}{v:Value}{args:List Value}{σ σ':St}(h:body aa m (natFn k) args σ=some (v,σ')):k (bX 0 args) { σ with af:=[] } = some v/\σ'=σ:=by obtain ⟨hp,L,H,d⟩:=σ;simp only [body,natFn,exec,fO,want,aop,Option.bind_some,if_true,Option.bind_eq_some_iff,Option.map_eq_some_iff] at h;obtain ⟨q,h1,h2⟩:=h;obtain ⟨r,⟨q2,⟨q3,⟨u,hu,rfl⟩,h4⟩,rfl⟩,h5⟩:=h1;simp only [Option.some.injEq] at h4;subst h4;simp only [Option.some.injEq] at h5;subst h5;have hr:fR [u]=some u:=rfl;simp [eH,sI,Fr.put,Fr.get,hr,gc,aO] at h2;refine ⟨by rw [hu,h2.1],h2.2.symm⟩
theorem zv{env:Env}(he:aJ P env)(hm:P.follows .mixedOrders=true){i:Nat}{k:Fr->St->Option Value}
  (hc:∀ args σ v,k (bX 0 args) { σ with af:=[] } = some v->Fit σ.heap.length σ.lock σ.hid->aN env (.func i) args σ=some (v,σ)):H9 P i (natFn k):=fun w0 aa m args σ σ' v X w rargs _ hb S hh hl hr=>by
 obtain ⟨h1,rfl⟩:=OP hb;obtain ⟨n,hn⟩:=oZ.1 (hc args _ v h1 ⟨hl,hh⟩);rcases (xU (w0:=w0) he hm n).call _ _ _ _ _ hn with ⟨f,e,_,h⟩ | ⟨k,e,_⟩
 ·cases e;exact h X w rargs S hh hl hr
 ·cases e
theorem JZ{X:Emb}{v u:Value}(h:aC X v u)(hs:(cellsOf v).all sc=true):u=v:=by
 cases v with
 | agg cs=>
  obtain ⟨rs,rfl,hr⟩:=lD h;congr 1;apply Array.toList_inj.1;exact mq hr (List.all_eq_true.1 hs)
 | _=>exact (bp (by simpa [cellsOf] using hs)).1 h
theorem J0{X:Emb}{v:Value}(hs:(cellsOf v).all sc=true):aC X v v:=by
 cases v with
 | agg cs=>exact ⟨_,rfl,dI (List.all_eq_true.1 hs)⟩
 | _=>exact (bp (by simpa [cellsOf] using hs)).2 rfl
theorem J1{env:Env}(he:aJ P env)(hm:P.follows .mixedOrders=true){n f:Nat}{f':Func}{fn:AFn}(h1:P.funcs[f]?=some f')(h2:cA P f'=some fn)(h3:env.fn f=some fn){v:Value}{σ':St}(h:run env n (.func f) [] ⟨[],0,[],[]⟩=some (v,σ'))(hs:(cellsOf v).all sc=true)(w:World)(rargs:Array Value) :
  Calls P f rargs w fun e w'=>e=.returned v/\Below w.heap.size w w':=by
 obtain ⟨l,rfl,he'⟩:=he;have h3':cx l f=some fn:=h3;cases n with
 | zero=>simp [run,jd] at h
 | succ n=>
  simp only [run,jd,h3',Option.bind_some] at h;have S:Sim w ⟨fun _=>none,0⟩ ⟨[],0,[],[]⟩ w:=⟨Below.refl _ _,fun id bx h=>by (cases h),fun id bx h=>by (cases h),fun id bx g pl cs h=>by (cases h),fun i j bi bj h=>by (cases h),fun id bx h=>by (cases h),fun id bx h=>by (cases h),fun id bx es h=>by (cases h)⟩;refine (uI (iT (w0:=w) he' hm n) hm h1 h2 h S (by simp) (by simp)).mono fun e w' ⟨u,X',h1,h2,h3,h4⟩=>?_;rw [JZ h2 hs] at h1;exact ⟨h1,h3.bel⟩
theorem zw{env:Env}(he:aJ P env)(hm:P.follows .mixedOrders=true){n i:Nat}{f':Func}{fn:AFn}(h1:P.funcs[i]?=some f')(h2:cA P f'=some fn)(h3:env.fn i=some fn){c:Value}{σ1:St}(h:run env n (.func i) [] ⟨[],0,[],[]⟩=some (c,σ1))(hs:(cellsOf c).all sc=true):H9 P i (gR c):=fun w0 aa m args σ σ' v X w rargs _ hb S _ _ _=>by obtain ⟨rfl,rfl⟩:=xV hb;refine (J1 he hm h1 h2 h3 h hs w rargs).mono fun e w' ⟨he,hw⟩=>⟨_,X,he,J0 hs,S.below hw,Stp.below hw⟩
end
noncomputable section
variable{ρ:Type}
def u8K:List Value->(List Nat->Option ρ)->Option ρ:=@List.rec Value (fun _=>(List Nat->Option ρ)->Option ρ) (fun k=>k [])
 (fun v _ ih k=>nN v (fun d n=>aF (Nat.beq (j3 d) 4) (fY (fun m=>aF (Nat.ble m 255) (frc m fun m=>ih fun l=>k (m::l)) none) (fun _=>none) n) none) none)
theorem oQ:∀ {vs:List Value} {k:List Nat->Option ρ} {r:ρ},u8K vs k=some r->∃ l,vs=u8s l/\By l/\k l=some r
 | [],k,r,h=>⟨[],rfl,fun _ hb=>(List.not_mem_nil hb).elim,h⟩
 | v::vs,k,r,h=>by
  have h':nN v (fun d n=>aF (Nat.beq (j3 d) 4) (fY (fun m=>aF (Nat.ble m 255) (frc m fun m=>u8K vs fun l=>k (m::l)) none) (fun _=>none) n) none) none=some r:=h;cases v<;>try (simp [nN] at h';done)
  rename_i d n;rw [j0] at h';unfold aF at h';cases hd:Nat.beq (j3 d) 4 with
  | false=>rw [hd] at h';cases h'
  | true=>
   rw [hd] at h';have:d=.u8:=lU (b:=.u8) hd;subst this;cases n with
   | negSucc m=>cases h'
   | ofNat m=>
    simp only [fY] at h';cases hm:Nat.ble m 255 with
    | false=>rw [hm] at h';cases h'
    | true=>
     rw [hm] at h';simp only [cP] at h';obtain ⟨l,rfl,hl,hk⟩:=oQ h';have:=Nat.le_of_ble_eq_true hm;refine ⟨m::l,rfl,fun b hb=>?_,hk⟩;rcases List.mem_cons.1 hb with rfl | hb
     ·omega
     ·exact hl b hb
def Za:Nat->List Value->(List Nat->List Value->Option ρ)->Option ρ:=@Nat.rec (fun _=>List Value->(List Nat->List Value->Option ρ)->Option ρ) (fun vs k=>k [] vs)
 (fun _ ih vs k=>@List.rec Value (fun _=>Option ρ) none (fun v vs' _=>nN v (fun d n=>aF (Nat.beq (j3 d) 4) (fY (fun m=>aF (Nat.ble m 255) (frc m fun m=>ih vs' fun l r=>k (m::l) r) none) (fun _=>none) n) none) none) vs)
theorem BP:∀ {n:Nat} {vs:List Value} {k:List Nat->List Value->Option ρ} {r:ρ},Za n vs k=some r->∃ l rest,vs=u8s l++rest/\l.length=n/\By l/\k l rest=some r
 | 0,vs,k,r,h=>⟨[],vs,rfl,rfl,fun _ hb=>(List.not_mem_nil hb).elim,h⟩
 | n+1,[],k,r,h=>by cases h
 | n+1,v::vs,k,r,h=>by
  have h':nN v (fun d i=>aF (Nat.beq (j3 d) 4) (fY (fun m=>aF (Nat.ble m 255) (frc m fun m=>Za n vs fun l r=>k (m::l) r) none) (fun _=>none) i) none) none=some r:=h;cases v<;>try (simp [nN] at h';done)
  rename_i d i;rw [j0] at h';unfold aF at h';cases hd:Nat.beq (j3 d) 4 with
  | false=>rw [hd] at h';cases h'
  | true=>
   rw [hd] at h';have:d=.u8:=lU (b:=.u8) hd;subst this;cases i with
   | negSucc m=>cases h'
   | ofNat m=>
    simp only [fY] at h';cases hm:Nat.ble m 255 with
    | false=>rw [hm] at h';cases h'
    | true=>
     rw [hm] at h';simp only [cP] at h';obtain ⟨l,rest,rfl,h1,hl,hk⟩:=BP h';have:=Nat.le_of_ble_eq_true hm;refine ⟨m::l,rest,rfl,by simp [h1],fun b hb=>?_,hk⟩;rcases List.mem_cons.1 hb with rfl | hb
     ·omega
     ·exact hl b hb
def qM(v:Value)(k:Int->Option ρ):Option ρ:=nN v (fun d n=>aF (and (Nat.beq (j3 d) 3) (and (leB (-9223372036854775808) n) (leB n 9223372036854775807))) (k n) none) none
theorem dg{v:Value}{k:Int->Option ρ}{r:ρ}(h:qM v k=some r):∃ n:Int,v=.int .i64 n/\-9223372036854775808<=n/\n<=9223372036854775807/\k n=some r:=by
 unfold qM at h;cases v<;>try (simp [nN] at h;done)
 rename_i d n;rw [j0] at h;unfold aF at h;cases hd:and (Nat.beq (j3 d) 3) (and (leB (-9223372036854775808) n) (leB n 9223372036854775807)) with
 | false=>rw [hd] at h;cases h
 | true=>
  rw [hd] at h;rw [Bool.and_eq_true,Bool.and_eq_true,tU,tU,decide_eq_true_eq,decide_eq_true_eq] at hd;have:d=.i64:=lU (b:=.i64) hd.1;subst this;exact ⟨n,rfl,hd.2.1,hd.2.2,h⟩
theorem jJ{v:Value}{k:Array Value->Option ρ}{r:ρ}(h:zf v k=some r):∃ cs,v=.agg cs/\k cs=some r:=by
 cases v<;>first
  | exact ⟨_,rfl,h⟩
  | cases h
def arg1(fr:Fr)(k:Value->Option ρ):Option ρ:=@List.rec (Nat×Value) (fun _=>Option ρ) none (fun p l _=>@List.rec (Nat×Value) (fun _=>Option ρ) (k p.2) (fun _ _ _=>none) l) fr
theorem uc{args:List Value}{k:Value->Option ρ}{r:ρ}(h:arg1 (bX 0 args) k=some r):∃ a,args=[a]/\k a=some r:=by
 cases args with
 | nil=>cases h
 | cons a l=>cases l with
  | nil=>exact ⟨a,rfl,h⟩
  | cons b m=>cases h
def arg2(fr:Fr)(k:Value->Value->Option ρ):Option ρ:=@List.rec (Nat×Value) (fun _=>Option ρ) none (fun p l _=>@List.rec (Nat×Value) (fun _=>Option ρ) none (fun q m _=>@List.rec (Nat×Value) (fun _=>Option ρ) (k p.2 q.2) (fun _ _ _=>none) m) l) fr
theorem OQ{args:List Value}{k:Value->Value->Option ρ}{r:ρ}(h:arg2 (bX 0 args) k=some r):∃ a b,args=[a,b]/\k a b=some r:=by
 cases args with
 | nil=>cases h
 | cons a l=>cases l with
  | nil=>cases h
  | cons b m=>cases m with
   | nil=>exact ⟨a,b,rfl,h⟩
   | cons c m=>cases h
def Tu(fr:Fr):List Value:=@List.rec (Nat×Value) (fun _=>List Value) [] (fun p _ ih=>p.2::ih) fr
theorem He:∀ (args:List Value) (i:Nat),Tu (bX i args)=args
 | [],i=>rfl
 | a::l,i=>by show a::Tu (bX (i+1) l)=_;rw [He l]
end
end AM
namespace AM
open Go Go.RowKit
section
def Le(c1 c2:au):Prop:=∀ g a σ r,c1 g a σ=some r->c2 g a σ=some r
def BQ(c1 c2:au):Nat->au:=fun n=>if n=0 then c1 else c2
theorem nr{c1 c2:au}(h:Le c1 c2):fU (BQ c1 c2):=fun g a σ n r hn=>by
 have e:BQ c1 c2 (n+1)=c2:=if_neg (by omega);show BQ c1 c2 (n+1) g a σ=some r;rw [e];have hn':BQ c1 c2 n g a σ=some r:=hn;by_cases h0:n=0
 ·rw [show BQ c1 c2 n=c1 from if_pos h0] at hn';exact h g a σ r hn'
 ·rw [show BQ c1 c2 n=c2 from if_neg h0] at hn';exact hn'
theorem VT{c1 c2:au}(h:Le c1 c2){l:List aj}{fr:Fr}{σ:St}{r}(hr:fO c1 l fr σ=some r):fO c2 l fr σ=some r:=gB (nr h) l fr σ 0 r hr
theorem VU{c1 c2:au}(h:Le c1 c2){l:List aj}{born:List (Nat×Nat×Nat)}{j:Nat}{fr:Fr}{σ:St}{r}(hr:fQ c1 born j l fr σ=some r):fQ c2 born j l fr σ=some r:=gC (nr h) l born j fr σ 0 r hr
theorem VV{c1 c2:au}(h:Le c1 c2){m:Bool}{B:List Nat}{seen:List (Bool×Nat)}{l:List aj}{fr:Fr}{σ:St}{r}(hr:eB c1 m B seen l fr σ=some r):eB c2 m B seen l fr σ=some r:=iC (nr h) l seen fr σ 0 r hr
theorem VW{c1 c2:au}(h:Le c1 c2){m:Nat}{l:List aj}{fr:Fr}{σ:St}{r}(hr:l7 c1 m l fr σ=some r):l7 c2 m l fr σ=some r:=iD (nr h) l fr σ 0 r hr
theorem qN{c1 c2:au}(h:Le c1 c2):Le (bD c1) (bD c2):=fun g a σ r hr=>by
 cases g<;>first
  | exact h _ _ _ _ hr
  | exact hr
theorem gl:∀ (c:az) (env:Env) (cf:au) (n:Nat),Le cf (aN env)->∀ (fr:Fr) (σ:St) (r:Ex×Fr×St),exec cf n c fr σ=some r->aZ env c fr σ=some r
 | .skip,env,cf,n,h,fr,σ,r,hr=>by rw [xO];exact hr
 | .ret,env,cf,n,h,fr,σ,r,hr=>by rw [AB];exact hr
 | .exit id,env,cf,n,h,fr,σ,r,hr=>by rw [xP];exact hr
 | .region ops,env,cf,n,h,fr,σ,r,hr=>by
  rw [rH];simp only [exec,Option.map_eq_some_iff] at hr ⊢;obtain ⟨q,h1,h2⟩:=hr;exact ⟨q,VT h h1,h2⟩
 | .drawn ops,env,cf,n,h,fr,σ,r,hr=>by
  rw [uF];simp only [exec,Option.map_eq_some_iff] at hr ⊢;obtain ⟨q,h1,h2⟩:=hr;exact ⟨q,VU (qN h) h1,h2⟩
 | .nO xs m ops,env,cf,n,h,fr,σ,r,hr=>by
  rw [uG];simp only [exec,Option.map_eq_some_iff,Option.bind_eq_some_iff] at hr ⊢;obtain ⟨B,h0,q,h1,h2⟩:=hr;exact ⟨B,h0,q,VV (qN h) h1,h2⟩
 | .lits ops,env,cf,n,h,fr,σ,r,hr=>by
  rw [H8];simp only [exec,Option.map_eq_some_iff] at hr ⊢;obtain ⟨q,h1,h2⟩:=hr;exact ⟨q,VW (qN h) h1,h2⟩
 | .seq a b,env,cf,n,h,fr,σ,r,hr=>by
  rw [AD];simp only [exec,Option.bind_eq_some_iff] at hr ⊢;obtain ⟨⟨e,fr1,σ1⟩,h1,h2⟩:=hr;refine ⟨_,gl a env cf n h fr σ _ h1,?_⟩;cases e with
  | normal=>exact gl b env cf n h _ _ _ h2
  | _=>exact h2
 | .cond c a b,env,cf,n,h,fr,σ,r,hr=>by
  rw [xR];simp only [exec] at hr;cases hv:ev fr c with
  | none=>rw [hv] at hr;cases hr
  | some v=>
   rw [hv] at hr;cases v<;>try (cases hr;done)
   rename_i q;cases q
   ·exact gl b env cf n h _ _ _ hr
   ·exact gl a env cf n h _ _ _ hr
 | .block id b,env,cf,n,h,fr,σ,r,hr=>by
  rw [uH];simp only [exec,Option.map_eq_some_iff] at hr ⊢;obtain ⟨q,h1,h2⟩:=hr;exact ⟨q,gl b env cf n h _ _ _ h1,h2⟩
 | .loop live b,env,cf,n,h,fr,σ,r,hr=>by
  rw [xS];simp only [exec,Option.map_eq_some_iff] at hr ⊢;obtain ⟨q,h1,h2⟩:=hr;refine ⟨q,?_,h2⟩;have key:∀ (m:Nat) (fr:Fr) (τ:St) q,iter (exec cf n b) live σ.heap.length m fr τ=some q->aG env b live σ.heap.length fr τ=some q:=by
   intro m;induction m with
   | zero=>intro fr τ q hq;simp [iter] at hq
   | succ m ih=>
    intro fr τ q hq;rw [rI];simp only [iter,Option.bind_eq_some_iff] at hq ⊢;obtain ⟨⟨e,fr1,τ1⟩,g1,g2⟩:=hq;refine ⟨_,gl b env cf n h _ _ _ g1,?_⟩;cases e with
    | normal=>
     simp only [Option.bind_eq_some_iff] at g2 ⊢;obtain ⟨p,g3,g4⟩:=g2;exact ⟨p,g3,ih _ _ _ g4⟩
    | _=>exact g2
  exact key _ _ _ _ h1
 | .each x g gk ps ba b,env,cf,n,h,fr,σ,r,hr=>by
  rw [xT];simp only [exec] at hr;split at hr
  ·rename_i hh fi ca hev;rw [hev];dsimp only;split at hr
   ·rename_i hc;rw [if_pos hc];simp only [Option.bind_eq_some_iff] at hr ⊢;obtain ⟨q,h1,h2⟩:=hr;refine ⟨q,gl gk (.yl env ps ba b fr) _ n ?_ _ _ _ h1,h2⟩;intro g a σ r hg;cases g with
    | func f=>rw [rJ];exact h _ _ _ _ hg
    | yield k=>
     rw [zR];have hg':dX (exec cf n ba) (exec cf n b) ps fr a σ=some r:=hg;unfold dX at hg' ⊢;split at hg'
     ·rename_i hp;rw [if_pos hp];simp only [Option.bind_eq_some_iff] at hg' ⊢;obtain ⟨⟨e,fr1,σ1⟩,g1,g2⟩:=hg';refine ⟨_,gl ba env cf n h _ _ _ g1,?_⟩;cases e with
      | normal=>
       simp only [Option.bind_eq_some_iff] at g2 ⊢;obtain ⟨p,g3,g4⟩:=g2;exact ⟨p,gl b env cf n h _ _ _ g3,g4⟩
      | _=>exact g2
     ·cases hg'
    | _=>cases hg
   ·cases hr
  ·cases hr
theorem LX{env:Env}{f:Nat}{fn:AFn}(hf:env.fn f=some fn){cf:au}(h:Le cf (aN env)){n:Nat}{args:List Value}{σ:St}{r:Value×St}(hr:body cf n fn args σ=some r):aN env (.func f) args σ=some r:=by rw [Cs hf];unfold body at hr;rw [Option.bind_eq_some_iff] at hr ⊢;obtain ⟨q,h1,h2⟩:=hr;exact ⟨q,gl _ env cf n h _ _ _ h1,h2⟩
end
noncomputable section
abbrev J2:=Nat->List Value->St->Option (Value×St)
def gY:J2:=fun _ _ _=>none
def pM(l:List (Nat×AFn))(oc:J2):Nat->au:=@Nat.rec (fun _=>au) (fun _ _ _=>none)
 (fun m ih g=>@Fn.rec (fun _=>List Value->St->Option (Value×St)) (fun f args σ=>@Option.rec (Value×St) (fun _=>Option (Value×St)) (qa f l fun fn=>(fnL fn).run.down ih m args σ) (fun r=>some r) (oc f args σ)) (fun _ _ _=>none) (fun _ _ _ _=>none) (fun _ _ _ _ _ _=>none) (fun _ _ _=>none) g)
def DL(l:List (Nat×AFn))(oc:J2):Prop:=∀ f args σ r,oc f args σ=some r->aN (.base l) (.func f) args σ=some r
theorem dh{l:List (Nat×AFn)} : DL l gY:=fun _ _ _ _ h=>by cases h
theorem eW{l:List (Nat×AFn)}{oc:J2}(ho:DL l oc):∀ n,Le (pM l oc n) (aN (.base l))
 | 0=>fun g a σ r h=>by cases h
 | n+1=>fun g a σ r h=>by
  cases g with
  | func f=>
   have h':@Option.rec (Value×St) (fun _=>Option (Value×St)) (qa f l fun fn=>(fnL fn).run.down (pM l oc n) n a σ) (fun r=>some r) (oc f a σ)=some r:=h;cases hq:oc f a σ with
   | some q=>
    rw [hq] at h';have:q=r:=by simpa using h'
    subst this;exact ho _ _ _ _ hq
   | none=>
    rw [hq] at h';have h2:qa f l (fun fn=>(fnL fn).run.down (pM l oc n) n a σ)=some r:=h';rw [zm,Option.bind_eq_some_iff] at h2;obtain ⟨fn,hf,h3⟩:=h2;rw [Tt,GZ] at h3;exact LX (env:=.base l) hf (eW ho n) h3
  | _=>cases h
def eqC:Value->Value->Bool
 | .int k a,.int k' b=>and (Nat.beq (j3 k) (j3 k')) (eqB a b)
 | .bool a,.bool b=>@Bool.rec (fun _=>Bool) (not b) b a
 | .pointer (some a),.pointer (some b)=>and (Nat.beq a.block b.block) (and (Nat.beq a.off b.off) (decide (a.spot=b.spot)))
 | .pointer none,.pointer none=>true
 | .slice (some a) n e,.slice (some b) m f=>and (Nat.beq n m) (and (Nat.beq e f) (and (Nat.beq a.block b.block) (and (Nat.beq a.off b.off) (decide (a.spot=b.spot)))))
 | .slice none n e,.slice none m f=>and (Nat.beq n m) (Nat.beq e f)
 | .nilFunc,.nilFunc=>true
 | .nilIface,.nilIface=>true
 | _,_=>false
theorem addr_eq{a b:Addr}(h1:Nat.beq a.block b.block=true)(h2:Nat.beq a.off b.off=true)(h3:decide (a.spot=b.spot)=true):a=b:=by obtain ⟨x,y,z⟩:=a;obtain ⟨x',y',z'⟩:=b;have e1:=Nat.eq_of_beq_eq_true h1;have e2:=Nat.eq_of_beq_eq_true h2;have e3:=of_decide_eq_true h3;simp only at e1 e2 e3;subst e1 e2 e3;rfl
theorem ud{v w:Value}(h:eqC v w=true):v=w:=by
 unfold eqC at h;split at h
 ·rw [Bool.and_eq_true,y9,beq_iff_eq] at h;rw [lU h.1,h.2]
 ·rename_i a b;cases a<;>cases b<;>first | rfl | cases h
 ·simp only [Bool.and_eq_true] at h;rw [addr_eq h.1 h.2.1 h.2.2]
 ·rfl
 ·simp only [Bool.and_eq_true] at h;rw [addr_eq h.2.2.1 h.2.2.2.1 h.2.2.2.2,Nat.eq_of_beq_eq_true h.1,Nat.eq_of_beq_eq_true h.2.1]
 ·rw [Bool.and_eq_true] at h;rw [Nat.eq_of_beq_eq_true h.1,Nat.eq_of_beq_eq_true h.2]
 ·rfl
 ·rfl
 ·cases h
def eqL{α:Type}(f:α->α->Bool):List α->List α->Bool:=@List.rec α (fun _=>List α->Bool) (fun l=>@List.rec α (fun _=>Bool) true (fun _ _ _=>false) l) (fun a _ ih l=>@List.rec α (fun _=>Bool) false (fun b m _=>@Bool.rec (fun _=>Bool) false (ih m) (f a b)) l)
theorem lu{α:Type}{f:α->α->Bool}(hf:∀ a b,f a b=true->a=b):∀ {l m:List α},eqL f l m=true->l=m
 | [],[],_=>rfl
 | [],b::m,h=>by cases h
 | a::l,[],h=>by cases h
 | a::l,b::m,h=>by
  have h':@Bool.rec (fun _=>Bool) false (eqL f l m) (f a b)=true:=h;cases hq:f a b with
  | false=>rw [hq] at h';cases h'
  | true=>
   rw [hq] at h';rw [hf a b hq,lu hf h']
def eqV:Value->Value->Bool
 | .agg a,.agg b=>eqL eqC a.toList b.toList
 | v,w=>eqC v w
theorem Tv{v w:Value}(h:eqV v w=true):v=w:=by
 unfold eqV at h;split at h
 ·rename_i a b;congr 1;exact Array.toList_inj.1 (lu (fun _ _=>ud) h)
 ·exact ud h
def eqW:Value->Value->Bool
 | .func (.func f) a b,.func (.func g) c d=>and (Nat.beq f g) (and (eqL eqC a.toList c.toList) (eqL eqC b.toList d.toList))
 | v,w=>eqV v w
theorem Zb{v w:Value}(h:eqW v w=true):v=w:=by
 unfold eqW at h;split at h
 ·simp only [Bool.and_eq_true] at h;rw [Nat.eq_of_beq_eq_true h.1,Array.toList_inj.1 (lu (fun _ _=>ud) h.2.1),Array.toList_inj.1 (lu (fun _ _=>ud) h.2.2)]
 ·exact Tv h
def eqP(p q:Value×Value):Bool:=and (eqC p.1 q.1) (eqW p.2 q.2)
theorem Zc{p q:Value×Value}(h:eqP p q=true):p=q:=by unfold eqP at h;simp only [Bool.and_eq_true] at h;exact Prod.ext (ud h.1) (Zb h.2)
def Tw:Blk->Blk->Bool
 | .cells g p cs,.cells g' p' cs'=>and (Nat.beq g g') (and (@Bool.rec (fun _=>Bool) (not p') p' p) (eqL eqC cs cs'))
 | .map a,.map b=>eqL eqP a b
 | _,_=>false
theorem Tx{a b:Blk}(h:Tw a b=true):a=b:=by
 unfold Tw at h;split at h
 ·rename_i g p cs g' p' cs';simp only [Bool.and_eq_true] at h;rw [Nat.eq_of_beq_eq_true h.1,lu (fun _ _=>ud) h.2.2];cases p<;>cases p'<;>first | rfl | (cases h.2.1)
 ·rw [lu (fun _ _=>Zc) h]
 ·cases h
def eqN(a b:Nat):Bool:=Nat.beq a b
theorem Ty{a b:Nat}(h:eqN a b=true):a=b:=Nat.eq_of_beq_eq_true h
def VX(σ τ:St):Bool:=and (eqL Tw σ.heap τ.heap) (and (Nat.beq σ.lock τ.lock) (and (eqL eqN σ.hid τ.hid) (eqL eqN σ.af τ.af)))
theorem VY{σ τ:St}(h:VX σ τ=true):σ=τ:=by unfold VX at h;simp only [Bool.and_eq_true] at h;obtain ⟨a,b,c,d⟩:=σ;obtain ⟨a',b',c',d'⟩:=τ;simp only at h;rw [lu (fun _ _=>Tx) h.1,Nat.eq_of_beq_eq_true h.2.1,lu (fun _ _=>Ty) h.2.2.1,lu (fun _ _=>Ty) h.2.2.2]
def zx(f:Nat)(args:List Value)(σ:St)(r:Value×St)(oc:J2):J2:=fun g a τ=>aF (Nat.beq g f) (aF (and (eqL eqV a args) (VX τ σ)) (some r) (oc g a τ)) (oc g a τ)
theorem jC{l:List (Nat×AFn)}{f:Nat}{args:List Value}{σ:St}{r:Value×St}{oc:J2}(h:aN (.base l) (.func f) args σ=some r)(ho:DL l oc):DL l (zx f args σ r oc):=fun g a τ q hq=>by
 unfold zx aF at hq;cases h1:Nat.beq g f with
 | false=>rw [h1] at hq;exact ho _ _ _ _ hq
 | true=>
  rw [h1] at hq;have e1:=Nat.eq_of_beq_eq_true h1;subst e1;cases h2:and (eqL eqV a args) (VX τ σ) with
  | false=>rw [h2] at hq;exact ho _ _ _ _ hq
  | true=>
   rw [h2] at hq;rw [Bool.and_eq_true] at h2;rw [lu (fun _ _=>Tv) h2.1,VY h2.2];have:r=q:=by simpa using hq
   rw [<- this];exact h
def wD(cf:au)(n:Nat)(live:List Nat)(b:az)(base:Nat):Nat->FrL->St->Option (FrL×St):=@Nat.rec (fun _=>FrL->St->Option (FrL×St)) (fun fr σ=>some (fr,σ))
 (fun _ ih fr σ=>(ga b).run (FrL×St) cf n (fun fr' σ'=>(oO live).run (FrL×St) fr' fun fr'=>vi base fr' σ' ih) (fun _ _ _=>none) fr σ)
theorem ue{env:Env}{cf:au}(h:Le cf (aN env)){n:Nat}{live:List Nat}{b:az}{base:Nat} : ∀ (k:Nat) (fr:FrL) (σ:St) (fr':FrL) (σ':St),wD cf n live b base k fr σ=some (fr',σ')->aG env b live base (ofL fr) σ=aG env b live base (ofL fr') σ'
 | 0,fr,σ,fr',σ',hr=>by
  have h1:some (fr,σ)=some (fr',σ'):=hr;cases h1;rfl
 | k+1,fr,σ,fr',σ',hr=>by
  have h1:(ga b).run (FrL×St) cf n (fun fr' σ'=>(oO live).run (FrL×St) fr' fun fr'=>vi base fr' σ' (wD cf n live b base k)) (fun _ _ _=>none) fr σ=some (fr',σ'):=hr;rw [nI b,kQ b] at h1;unfold fZ at h1;rw [Option.bind_eq_some_iff] at h1;obtain ⟨⟨e,fr1,σ1⟩,h2,h3⟩:=h1;cases e with
  | normal=>
   simp only [oP,oK,zu,su,iH] at h3;rw [Option.bind_eq_some_iff] at h3;obtain ⟨q,h4,h5⟩:=h3;rw [rI,gl b env cf n h _ _ _ h2];simp only [Option.bind_some,h4];have:=ue h k _ _ _ _ h5;rw [iH] at this;exact this
  | _=>cases h3
def Tz(cf:au)(n:Nat)(live:List Nat)(b:az)(base:Nat):Nat->FrL->St->Option (Ex×FrL×St):=@Nat.rec (fun _=>FrL->St->Option (Ex×FrL×St)) (fun _ _=>none)
 (fun _ ih fr σ=>(ga b).run (Ex×FrL×St) cf n (fun fr' σ'=>(oO live).run (Ex×FrL×St) fr' fun fr'=>vi base fr' σ' ih) (fun e fr' σ'=>some (e,fr',σ')) fr σ)
theorem LY{env:Env}{cf:au}(h:Le cf (aN env)){n:Nat}{live:List Nat}{b:az}{base:Nat} : ∀ (k:Nat) (fr:FrL) (σ:St) (e:Ex) (fr':FrL) (σ':St),Tz cf n live b base k fr σ=some (e,fr',σ')->e≠.normal->aG env b live base (ofL fr) σ=some (e,ofL fr',σ')
 | 0,fr,σ,e,fr',σ',hr,_=>by cases hr
 | k+1,fr,σ,e,fr',σ',hr,hne=>by
  have h1:(ga b).run (Ex×FrL×St) cf n (fun fr' σ'=>(oO live).run (Ex×FrL×St) fr' fun fr'=>vi base fr' σ' (Tz cf n live b base k)) (fun e fr' σ'=>some (e,fr',σ')) fr σ=some (e,fr',σ'):=hr;rw [nI b,kQ b] at h1;unfold fZ at h1;rw [Option.bind_eq_some_iff] at h1;obtain ⟨⟨e1,fr1,σ1⟩,h2,h3⟩:=h1;rw [rI,gl b env cf n h _ _ _ h2];cases e1 with
  | normal=>
   simp only [oP,oK,zu,su,iH] at h3;rw [Option.bind_eq_some_iff] at h3;obtain ⟨q,h4,h5⟩:=h3;simp only [Option.bind_some,h4];have:=LY h k _ _ _ _ _ h5 hne;rw [iH] at this;exact this
  | exit i=>
   have h4:Ex.exit i=e/\toL fr1=fr'/\σ1=σ':=by simpa using h3
   obtain ⟨rfl,rfl,rfl⟩:=h4;rw [iH];rfl
  | ret=>
   have h4:Ex.ret=e/\toL fr1=fr'/\σ1=σ':=by simpa using h3
   obtain ⟨rfl,rfl,rfl⟩:=h4;rw [iH];rfl
end
end AM
namespace AM
open Go Go.RowKit
theorem LZ{l0 l:List (Nat×AFn)}(h:∀ i fn,cx l0 i=some fn->cx l i=some fn):∀ n,Le (jd l0 n) (aN (.base l))
 | 0=>fun g a σ r h=>by cases h
 | n+1=>fun g a σ r hr=>by
  cases g with
  | func f=>
   have h':(cx l0 f).bind (fun fn=>body (jd l0 n) n fn a σ)=some r:=hr;rw [Option.bind_eq_some_iff] at h';obtain ⟨fn,hf,h3⟩:=h';exact LX (env:=.base l) (h f fn hf) (LZ h n) h3
  | _=>cases hr
theorem BR{l0 l:List (Nat×AFn)}(h:∀ i fn,cx l0 i=some fn->cx l i=some fn){g:Fn}{args:List Value}{σ:St}{r:Value×St}(hr:aN (.base l0) g args σ=some r):aN (.base l) g args σ=some r:=by obtain ⟨n,hn⟩:=oZ.1 hr;exact LZ h n _ _ _ _ hn
theorem BS{l0:List (Nat×AFn)}{i:Nat}{fn:AFn}(h:cx l0 i=none):∀ j g,cx l0 j=some g->cx ((i,fn)::l0) j=some g:=fun j g hj=>by
 simp only [cx];split
 ·rename_i e;subst e;rw [h] at hj;cases hj
 ·exact hj
end AM
namespace aE
open Go AM
def ac4:AFn:=⟨(.seq (.region [
 D 4 (.mv (Kb false))])
 (.seq (.seq (.region [
 Mv 11 0,
 D 12 (.len (T 11)),
 D 13 (.bin .eql (T 12) (Ki 0)),
 Mv 14 13,
 Gd 15 14 false (.mv (T 0)),
 Gd 16 14 false (.len (T 15)),
 Gd 17 14 false (.bin .gtr (T 16) (Ki 80)),
 D 18 (.pick (T 14) (Kb true) (T 17)),
 Mv 19 18,
 Gd 20 19 false (.mv (T 1)),
 Gd 21 19 false (.bin .lss (T 20) (Ki 1)),
 D 22 (.pick (T 19) (Kb true) (T 21)),
 Mv 23 22,
 Gd 24 23 false (.mv (T 1)),
 Gd 25 23 false (.bin .gtr (T 24) (Ki 90)),
 D 26 (.pick (T 23) (Kb true) (T 25))])
 (.cond (T 26)
 (.seq (.region [
 D 27 (.call 10 []),
 Mv 4 27])
 .ret)
 .skip))
 (.seq (.region [
 Mv 29 0,
 D 30 (.call 15 [(T 29)]),
 Mv 28 30,
 D 31 (.ext (T 28) 0),
 D 32 (.ext (T 28) 1),
 Mv 5 31,
 Mv 6 32])
 (.seq (.region [
 Mv 34 0,
 D 35 (.call 16 [(T 34),(Ki 0)]),
 Mv 33 35,
 D 36 (.ext (T 33) 0),
 D 37 (.ext (T 33) 1),
 Mv 7 36,
 Mv 8 37])
 (.seq (.region [
 Mv 39 0,
 Mv 40 1,
 D 41 (.call 16 [(T 39),(T 40)]),
 Mv 38 41,
 D 42 (.ext (T 38) 0),
 D 43 (.ext (T 38) 1),
 Mv 9 42,
 Mv 10 43])
 (.seq (.region [
 Mv 44 5,
 D 45 (.qg (T 44)),
 Mv 46 7,
 D 47 (.qg (T 46)),
 D 48 (.bin .eql (T 45) (T 47)),
 Mv 49 48,
 Gd 50 49 true (.mv (T 5)),
 Gd 51 49 true (.qg (T 50)),
 Gd 52 49 true (.mv (T 9)),
 Gd 53 49 true (.qg (T 52)),
 Gd 54 49 true (.bin .eql (T 51) (T 53)),
 D 55 (.pick (T 49) (T 54) (Kb false)),
 Mv 56 55,
 Gd 57 56 true (.mv (T 6)),
 Gd 58 56 true (.mv (T 8)),
 Gd 59 56 true (.bin .eql (T 57) (T 58)),
 D 60 (.pick (T 56) (T 59) (Kb false)),
 Mv 61 60,
 Gd 62 61 true (.mv (T 6)),
 Gd 63 61 true (.mv (T 10)),
 Gd 64 61 true (.bin .eql (T 62) (T 63)),
 D 65 (.pick (T 61) (T 64) (Kb false)),
 Mv 66 65,
 Gd 67 66 true (.mv (T 5)),
 Gd 68 66 true (.mv (T 6)),
 Gd 69 66 true (.call 17 [(T 67),(T 68)]),
 D 70 (.pick (T 66) (T 69) (Kb false)),
 Mv 71 70,
 Gd 72 71 true (.call 10 []),
 D 73 (.pick (T 71) (T 72) (Kb false)),
 Mv 4 73])
 .ret)))))),[.tmp 4]⟩
theorem Zd:cA Tryz.prog Tryz.f4=some ac4:=by kernel_rfl
end aE
namespace UeF
open Go Go.RowKit AM aE LtA SyP TmM TsA TsB TsC TsE TsI TsJ TtA TtB TuF UeA UeB UeC UeD UeE Bt
noncomputable def abW:List (Nat×AFn):=(10,gR (.bool true))::(4,ac4)::uP
noncomputable def Hf:Env:=.base abW
theorem fn4:Hf.fn 4=some ac4:=by kernel_rfl
theorem acV:Hf.fn 10=some (gR (.bool true)):=by kernel_rfl
theorem up{g:Fn}{args:List Value}{σ:St}{r:Value×St}(h:aN env g args σ=some r):aN Hf g args σ=some r:=
 BR (BS (show cx ((4,ac4)::uP) 10=none by kernel_rfl)) (BR (BS (show cx uP 4=none by kernel_rfl)) h)
section
variable{hp:List Blk}{L:Nat}{H d:List Nat}
theorem zy{σ:St} : aN Hf (.func 10) [] σ=some (.bool true,σ):=by obtain ⟨hp,L,H,d⟩:=σ;rw [av 10 _ _ acV];simp (disch:=first|exact dis|fail) only [sy,simprocAttr,-List.reduceReplicate,gR]
theorem OR{x:List Nat}{v:Value}(hR:Rd ⟨hp,L,H,[]⟩ v x)(w:Int)(hx:x.length=0\/x.length > 80\/w < 1\/w > 90)(hF:Fit hp.length L H):∃ σ',aN Hf (.func 4) [v,.int .i64 w] ⟨hp,L,H,[]⟩=some (.bool true,σ'):=by
 rw [av 4 _ _ fn4];have kl:=fun σ=>zy (σ:=σ);obtain ⟨a,e,rfl⟩:=hR.len;by_cases h1:(x.length:Int)=0
 ·simp (disch:=first|exact dis|fail) only [sy,simprocAttr,-List.reduceReplicate,hF.all,ac4,h1,kl];exact ⟨_,rfl⟩
 by_cases h2:(x.length:Int) > 80
 ·simp (disch:=first|exact dis|fail) only [sy,simprocAttr,-List.reduceReplicate,hF.all,ac4,h1,h2,kl];exact ⟨_,rfl⟩
 by_cases h3:w < 1
 ·simp (disch:=first|exact dis|fail) only [sy,simprocAttr,-List.reduceReplicate,hF.all,ac4,h1,h2,h3,kl];exact ⟨_,rfl⟩
 ·have h4:w > 90:=by omega
  simp (disch:=first|exact dis|fail) only [sy,simprocAttr,-List.reduceReplicate,hF.all,ac4,h1,h2,h3,h4,kl];exact ⟨_,rfl⟩
theorem VZ{x:List Nat}{v:Value}(hR:Rd ⟨hp,L,H,[]⟩ v x)(w:Nat)(hx1:1<=x.length)(hx2:x.length<=80)(hw1:1<=w)(hw2:w<=90)(hF:Fit hp.length L H):∃ σ',aN Hf (.func 4) [v,.int .i64 w] ⟨hp,L,H,[]⟩=some (.bool true,σ'):=by
 obtain ⟨m,hm⟩:∃ m,m=x.length:=⟨_,rfl⟩;rw [<- hm] at hx1 hx2;have kl:=fun σ=>zy (σ:=σ);have c1:=fun d=>up (Oc (d:=d) hR (by omega) (by omega) hR.by_ hF);have c2:=fun nw d=>up (GL (d:=d) (hp:=hp++nw) (hF.mono (by simp)) hR.app hm.symm hx1 (by omega));have c3:=fun nw d=>up (GM (d:=d) (hp:=hp++nw) (room:=w) (hF.mono (by simp)) hR.app hm.symm hx1 (by omega) hw1 (by omega));have hyl:=(iF x).1;have hy8:=Gv x hR.by_;have Ry:∀ nw,Rd ⟨hp++.cells m true (u8s (aK x).1)::nw,L,H,[]⟩ (.slice (some ⟨hp.length,0,some m⟩) m 1) (aK x).1:=fun nw=>by have:=Rd.whole (hp:=hp++.cells m true (u8s (aK x).1)::nw) (L:=L) (H:=H) (d:=[]) (b:=hp.length) (g:=m) (e:=1) (l:=(aK x).1) (by rw [dK]) hF.jv hy8 (.inr rfl);rwa [hyl,<- hm] at this
 have c4:=fun nw d=>up (JB (d:=d) (n:=m) (Ry nw) hm.symm (by omega) hx1 (hF.mono (by simp)));have st1:∀ nw d,St.str ⟨hp++.cells m true (u8s (aK x).1)::nw,L,H,d⟩ (.slice (some ⟨hp.length,0,some m⟩) m 1)=some (b8 (aK x).1):=fun nw d=>by have:=Rd.whole (hp:=hp++.cells m true (u8s (aK x).1)::nw) (L:=L) (H:=H) (d:=d) (b:=hp.length) (g:=m) (e:=1) (l:=(aK x).1) (by rw [dK]) hF.jv hy8 (.inr rfl);rw [hyl,<- hm] at this;exact this.str
 have st2:∀ c nw d,St.str ⟨hp++c::.cells m true (u8s (aK x).1)::nw,L,H,d⟩ (.slice (some ⟨hp.length+1,0,some m⟩) m 1)=some (b8 (aK x).1):=fun c nw d=>by have:=Rd.whole (hp:=hp++c::.cells m true (u8s (aK x).1)::nw) (L:=L) (H:=H) (d:=d) (b:=hp.length+1) (g:=m) (e:=1) (l:=(aK x).1) (by rw [gj];rfl) (hF.nL 1) hy8 (.inr rfl);rw [hyl,<- hm] at this;exact this.str
 have st3:∀ c c2 nw d,St.str ⟨hp++c::c2::.cells m true (u8s (aK x).1)::nw,L,H,d⟩ (.slice (some ⟨hp.length+2,0,some m⟩) m 1)=some (b8 (aK x).1):=fun c c2 nw d=>by have:=Rd.whole (hp:=hp++c::c2::.cells m true (u8s (aK x).1)::nw) (L:=L) (H:=H) (d:=d) (b:=hp.length+2) (g:=m) (e:=1) (l:=(aK x).1) (by rw [gj];rfl) (hF.nL 2) hy8 (.inr rfl);rw [hyl,<- hm] at this;exact this.str
 obtain ⟨a,e,rfl⟩:=hR.len;simp only [<- hm] at c1 c2 c3 ⊢;clear Ry;generalize (aK x).1=y at *;generalize (aK x).2.1=idx at *;have g1:¬ (m:Int)=0:=by omega
 have g2:¬ (m:Int) > 80:=by omega
 have g3:¬ (w:Int) < 1:=by omega
 have g4:¬ (w:Int) > 90:=by omega
 simp only [List.append_assoc,List.cons_append,List.nil_append,List.length_append,List.length_cons,List.length_nil,Nat.zero_add,Nat.reduceAdd] at c1 c2 c3 c4;rw [av 4 _ _ fn4];simp (disch:=first|exact dis|fail) only [sy,simprocAttr,-List.reduceReplicate,hF.all,ac4,kl,g1,g2,g3,g4,c1,c2,c3,c4,st1,st2,st3];exact ⟨_,rfl⟩
theorem V0{x:List Nat}{v:Value}(hR:Rd ⟨hp,hp.length,[],[]⟩ v x)(wi:Int)(_ : -9223372036854775808<=wi)(_:wi<=9223372036854775807):∃ σ',aN Hf (.func 4) [v,.int .i64 wi] ⟨hp,hp.length,[],[]⟩=some (.bool true,σ'):=by
 by_cases hx:x.length=0\/x.length > 80\/wi < 1\/wi > 90
 ·exact OR hR wi hx (Fit.nil (Nat.le_refl _))
 ·obtain ⟨w,rfl⟩:∃ w:Nat,wi=w:=⟨wi.toNat,by omega⟩;exact VZ hR w (by omega) (by omega) (by omega) (by omega) (Fit.nil (Nat.le_refl _))
end
end UeF
end Go.Proofs.YtgdpefeomemllaaGreat
section
namespace Go.Proofs.YtgdpefeomemllaaGreat
namespace LtA
open Go Go.RowKit AM aE
structure Ts where
 l:List Nat
 sym:Int
 bits:Int
 now:Int
 way:Int
def tsC(c:Ts):List Value:=u8s c.l++[.int .i64 c.sym,.int .i64 c.bits,.int .i64 c.now,.int .i64 c.way]
def zs:List Nat:=List.replicate 258 0
theorem aq{c:Ts}(h:c.l.length=258):(tsC c).length=262:=by simp [tsC,aR,h]
theorem OS(n:Nat):List.replicate n (Value.int .u8 0)=u8s (List.replicate n 0):=by
 induction n with
 | zero=>rfl
 | succ n ih=>rw [List.replicate_succ,List.replicate_succ,ih];rfl
theorem fJ:zs.length=258:=by unfold zs;exact List.length_replicate
theorem fK{c:Ts}(h:c.l.length=258):(tsC c)[258]?=some (.int .i64 c.sym):=by unfold tsC;rw [List.getElem?_append_right (by rw [aR];omega),aR,h];rfl
theorem gZ{c:Ts}(h:c.l.length=258):(tsC c)[259]?=some (.int .i64 c.bits):=by unfold tsC;rw [List.getElem?_append_right (by rw [aR];omega),aR,h];rfl
theorem g9{c:Ts}(h:c.l.length=258):(tsC c)[260]?=some (.int .i64 c.now):=by unfold tsC;rw [List.getElem?_append_right (by rw [aR];omega),aR,h];rfl
theorem jD{c:Ts}(h:c.l.length=258):(tsC c)[261]?=some (.int .i64 c.way):=by unfold tsC;rw [List.getElem?_append_right (by rw [aR];omega),aR,h];rfl
theorem V1{c:Ts}(h:c.l.length=258)(n:Int):(tsC c).set 258 (.int .i64 n)=tsC { c with sym:=n }:=by unfold tsC;rw [List.set_append_right _ _ (by rw [aR];omega),aR,h];rfl
theorem oR{c:Ts}(h:c.l.length=258)(n:Int):(tsC c).set 259 (.int .i64 n)=tsC { c with bits:=n }:=by unfold tsC;rw [List.set_append_right _ _ (by rw [aR];omega),aR,h];rfl
theorem wE{c:Ts}(h:c.l.length=258)(n:Int):(tsC c).set 260 (.int .i64 n)=tsC { c with now:=n }:=by unfold tsC;rw [List.set_append_right _ _ (by rw [aR];omega),aR,h];rfl
theorem DM{c:Ts}(h:c.l.length=258)(n:Int):(tsC c).set 261 (.int .i64 n)=tsC { c with way:=n }:=by unfold tsC;rw [List.set_append_right _ _ (by rw [aR];omega),aR,h];rfl
theorem bS(c:Ts):(tsC c).all AM.sc=true:=by unfold tsC;rw [List.all_append,kD];rfl
theorem aS(c:Ts):(tsC c).all aW=true:=by unfold tsC;rw [List.all_append,c9];rfl
theorem bh(c:Ts):(tsC c).flatMap aI=[]:=by
 rw [List.flatMap_eq_nil_iff];intro v hv;unfold tsC at hv;rcases List.mem_append.1 hv with hv | hv
 ·obtain ⟨n,_,rfl⟩:=List.mem_map.1 hv;rfl
 ·simp only [List.mem_cons,List.not_mem_nil,or_false] at hv;rcases hv with rfl | rfl | rfl | rfl<;>rfl
theorem aY{c:Ts}(h:c.l.length=258):(tsC c).take 262=tsC c:=List.take_of_length_le (by rw [aq h];omega)
theorem sE{c:Ts}(h:c.l.length=258):(tsC c).take 258=u8s c.l:=by unfold tsC;rw [List.take_append_of_le_length (by rw [aR];omega),List.take_of_length_le (by rw [aR];omega)]
theorem eF{cs vs:List Value}(h:vs.length=cs.length):putAt cs 0 vs=vs:=tH h
def z0:Ts:=⟨zs,0,0,0,0⟩
theorem kS:List.replicate 258 (Value.int .u8 0)++[.int .i64 0,.int .i64 0,.int .i64 0,.int .i64 0]=tsC z0:=by rw [OS];rfl
variable{hp:List Blk}{L:Nat}{H d:List Nat}
theorem J3{c:Ts}(h:c.l.length=258)(hb:c.bits < 4)(hb0 : -9223372036854775808<=c.bits)(hn:0<=c.now/\c.now<=100){bit:Int}(zO:bit=0\/bit=1)(hF:Fit hp.length L H) :
  aN env (.func 205) [.agg (tsC c).toArray,.int .i64 bit] ⟨hp,L,H,d⟩=some (.tuple #[.agg (tsC { c with now:=c.now*2+bit,bits:=c.bits+1 }).toArray,.bool true],⟨hp,L,H,d⟩):=by
 rw [av 205 _ _ FV];have vr:=aq h;have hz:(tsC z0).length=262:=aq (c:=z0) fJ;have hor:orI 64 (c.now*2) bit=c.now*2+bit:=by obtain ⟨n,hn'⟩:=Int.eq_ofNat_of_zero_le hn.1;rw [hn'];have h1:=Re 64 (2*n) bit.toNat (by omega) (by omega);unfold orI;rw [show ((n:Int)*2)=((2*n:Nat):Int) by omega,show bit=(bit.toNat:Int) by omega,h1,<- Nat.pow_one 2,<- Nat.two_pow_add_eq_or_of_lt (by omega)];omega
 have h21:(2:Int) ^ (1:Nat)=2:=rfl;obtain ⟨c1,hc1⟩:∃ c1,c1 = { c with now:=c.now*2+bit }:=⟨_,rfl⟩;obtain ⟨c2,hc2⟩:∃ c2:Ts,c2 = { c1 with bits:=c.bits+1 }:=⟨_,rfl⟩;have hl1:c1.l.length=258:=by rw [hc1];exact h
 have hl2:c2.l.length=258:=by rw [hc2];exact hl1
 have s1:(tsC c).set 260 (.int .i64 (c.now*2+bit))=tsC c1:=by rw [wE h,hc1]
 have s2:(tsC c1).set 259 (.int .i64 (c.bits+1))=tsC c2:=by rw [oR hl1,hc2]
 have r:({ c with now:=c.now*2+bit,bits:=c.bits+1 } : Ts)=c2:=by rw [hc2,hc1]
 have p2:putAt (tsC z0) 0 (tsC c2)=tsC c2:=eF (by rw [aq hl2,hz]);rw [r];simp (disch:=first|exact dis|fail) only [sy,simprocAttr,-List.reduceReplicate,hF.all,oh,bh,aS,bS,fK h,gZ h,g9 h,jD h,hb,h21,hor,vr,hz,kS,s1,s2,p2,aY hl2,aq hl2,aq hl1]
theorem OT{c:Ts}(h:c.l.length=258)(hb:c.bits=4)(hF:Fit hp.length L H) :
  aN env (.func 205) [.agg (tsC c).toArray,.int .i64 1] ⟨hp,L,H,d⟩=some (.tuple #[.agg (tsC { c with bits:=5 }).toArray,.bool true],⟨hp,L,H,d⟩):=by
 rw [av 205 _ _ FV];have vr:=aq h;have hz:(tsC z0).length=262:=aq (c:=z0) fJ;obtain ⟨c2,hc2⟩:∃ c2:Ts,c2 = { c with bits:=5 }:=⟨_,rfl⟩;have hl2:c2.l.length=258:=by rw [hc2];exact h
 have s2:(tsC c).set 259 (.int .i64 5)=tsC c2:=by rw [oR h,hc2]
 have p2:putAt (tsC z0) 0 (tsC c2)=tsC c2:=eF (by rw [aq hl2,hz]);have tb:=gZ h;rw [hb] at tb;rw [<- hc2];simp (disch:=first|exact dis|fail) only [sy,simprocAttr,-List.reduceReplicate,hF.all,oh,bh,aS,bS,fK h,tb,g9 h,jD h,vr,hz,kS,s2,p2,aY hl2,aq hl2]
theorem V2{c:Ts}(h:c.l.length=258)(hb:c.bits=5)(hn : -9223372036854775808<=c.now/\c.now<=9223372036854775806)(hF:Fit hp.length L H) :
  aN env (.func 205) [.agg (tsC c).toArray,.int .i64 0] ⟨hp,L,H,d⟩=some (.tuple #[.agg (tsC { c with now:=c.now+1,way:=1,bits:=4 }).toArray,.bool (decide (c.way≠2)&&decide (c.now < 15))],⟨hp,L,H,d⟩):=by
 rw [av 205 _ _ FV];have vr:=aq h;have hz:(tsC z0).length=262:=aq (c:=z0) fJ;obtain ⟨c0,hc0⟩:∃ c0:Ts,c0 = { c with now:=c.now+1 }:=⟨_,rfl⟩;obtain ⟨c1,hc1⟩:∃ c1:Ts,c1 = { c0 with way:=1 }:=⟨_,rfl⟩;obtain ⟨c2,hc2⟩:∃ c2:Ts,c2 = { c1 with bits:=4 }:=⟨_,rfl⟩;have hl0:c0.l.length=258:=by rw [hc0];exact h
 have hl1:c1.l.length=258:=by rw [hc1];exact hl0
 have hl2:c2.l.length=258:=by rw [hc2];exact hl1
 have s0:(tsC c).set 260 (.int .i64 (c.now+1))=tsC c0:=by rw [wE h,hc0]
 have s1:(tsC c0).set 261 (.int .i64 1)=tsC c1:=by rw [DM hl0,hc1]
 have s2:(tsC c1).set 259 (.int .i64 4)=tsC c2:=by rw [oR hl1,hc2]
 have r:({ c with now:=c.now+1,way:=1,bits:=4 } : Ts)=c2:=by rw [hc2,hc1,hc0]
 have p2:putAt (tsC z0) 0 (tsC c2)=tsC c2:=eF (by rw [aq hl2,hz]);have tb:=gZ h;rw [hb] at tb;rw [r];by_cases hw:c.way=2
 ·simp (disch:=first|exact dis|fail) only [sy,simprocAttr,-List.reduceReplicate,hF.all,oh,bh,aS,bS,fK h,tb,g9 h,jD h,hw,vr,hz,kS,s0,s1,s2,p2,aY hl2,aq hl2,aq hl1,aq hl0]
 ·simp (disch:=first|exact dis|fail) only [sy,simprocAttr,-List.reduceReplicate,hF.all,oh,bh,aS,bS,fK h,tb,g9 h,jD h,hw,vr,hz,kS,s0,s1,s2,p2,aY hl2,aq hl2,aq hl1,aq hl0]
theorem OU{c:Ts}(h:c.l.length=258)(hb:c.bits=5)(hn : -9223372036854775807<=c.now/\c.now<=9223372036854775807)(hF:Fit hp.length L H) :
  aN env (.func 205) [.agg (tsC c).toArray,.int .i64 1] ⟨hp,L,H,d⟩=some (.tuple #[.agg (tsC { c with now:=c.now - 1,way:=2,bits:=4 }).toArray,.bool (decide (c.way≠1)&&decide (c.now > 0))],⟨hp,L,H,d⟩):=by
 rw [av 205 _ _ FV];have vr:=aq h;have hz:(tsC z0).length=262:=aq (c:=z0) fJ;obtain ⟨c0,hc0⟩:∃ c0:Ts,c0 = { c with now:=c.now - 1 }:=⟨_,rfl⟩;obtain ⟨c1,hc1⟩:∃ c1:Ts,c1 = { c0 with way:=2 }:=⟨_,rfl⟩;obtain ⟨c2,hc2⟩:∃ c2:Ts,c2 = { c1 with bits:=4 }:=⟨_,rfl⟩;have hl0:c0.l.length=258:=by rw [hc0];exact h
 have hl1:c1.l.length=258:=by rw [hc1];exact hl0
 have hl2:c2.l.length=258:=by rw [hc2];exact hl1
 have s0:(tsC c).set 260 (.int .i64 (c.now - 1))=tsC c0:=by rw [wE h,hc0]
 have s1:(tsC c0).set 261 (.int .i64 2)=tsC c1:=by rw [DM hl0,hc1]
 have s2:(tsC c1).set 259 (.int .i64 4)=tsC c2:=by rw [oR hl1,hc2]
 have r:({ c with now:=c.now - 1,way:=2,bits:=4 } : Ts)=c2:=by rw [hc2,hc1,hc0]
 have p2:putAt (tsC z0) 0 (tsC c2)=tsC c2:=eF (by rw [aq hl2,hz]);have tb:=gZ h;rw [hb] at tb;rw [r];by_cases hw:c.way=1
 ·simp (disch:=first|exact dis|fail) only [sy,simprocAttr,-List.reduceReplicate,hF.all,oh,bh,aS,bS,fK h,tb,g9 h,jD h,hw,vr,hz,kS,s0,s1,s2,p2,aY hl2,aq hl2,aq hl1,aq hl0]
 ·simp (disch:=first|exact dis|fail) only [sy,simprocAttr,-List.reduceReplicate,hF.all,oh,bh,aS,bS,fK h,tb,g9 h,jD h,hw,vr,hz,kS,s0,s1,s2,p2,aY hl2,aq hl2,aq hl1,aq hl0]
theorem V4{c:Ts}(h:c.l.length=258){k:Nat}(hk:k < 258)(n:Nat):(tsC c).set k (.int .u8 (n:Int))=tsC { c with l:=c.l.set k n }:=by unfold tsC;rw [List.set_append_left _ _ (by rw [aR];omega)];simp [u8s,List.map_set]
theorem OV{c:Ts}(h:c.l.length=258)(h8:By c.l){k n:Nat}(hs:c.sym=k)(hk:k < 258)(hn:c.now=n)(adh:n<=255)(hb:c.bits=4)(hF:Fit hp.length L H) :
  aN env (.func 205) [.agg (tsC c).toArray,.int .i64 0] ⟨hp,L,H,d⟩=some (.tuple #[.agg (tsC { c with l:=c.l.set k n,sym:=(k:Int)+1,way:=0 }).toArray,.bool (decide (k+1 < 258)||k9 (c.l.set k n))],⟨hp,L,H,d⟩):=by
 rw [av 205 _ _ FV];have vr:=aq h;have hz:(tsC z0).length=262:=aq (c:=z0) fJ;obtain ⟨c0,hc0⟩:∃ c0:Ts,c0 = { c with l:=c.l.set k n }:=⟨_,rfl⟩;obtain ⟨c1,hc1⟩:∃ c1:Ts,c1 = { c0 with sym:=(k:Int)+1 }:=⟨_,rfl⟩;obtain ⟨c2,hc2⟩:∃ c2:Ts,c2 = { c1 with way:=0 }:=⟨_,rfl⟩;have hl0:c0.l.length=258:=by rw [hc0];simpa using h
 have hl1:c1.l.length=258:=by rw [hc1];exact hl0
 have hl2:c2.l.length=258:=by rw [hc2];exact hl1
 have s0:(tsC c).set k (.int .u8 (n:Int))=tsC c0:=by rw [V4 h hk,hc0]
 have s1:(tsC c0).set 258 (.int .i64 ((k:Int)+1))=tsC c1:=by rw [V1 hl0,hc1]
 have s2:(tsC c1).set 261 (.int .i64 0)=tsC c2:=by rw [DM hl1,hc2]
 have r:({ c with l:=c.l.set k n,sym:=(k:Int)+1,way:=0 } : Ts)=c2:=by rw [hc2,hc1,hc0]
 have p2:putAt (tsC z0) 0 (tsC c2)=tsC c2:=eF (by rw [aq hl2,hz]);have tb:=gZ h;rw [hb] at tb;have ty:=fK h;rw [hs] at ty;have tn:=g9 h;rw [hn] at tn;have ty0:=fK hl0;rw [show c0.sym=(k:Int) by rw [hc0];exact hs] at ty0;have ty2:=fK hl2;rw [show c2.sym=(k:Int)+1 by rw [hc2,hc1]] at ty2;have el:c2.l=c.l.set k n:=by rw [hc2,hc1,hc0]
 have h82:By c2.l:=fun x hx=>by
  rw [el] at hx;rcases List.mem_or_eq_of_mem_set hx with h1 | h1
  ·exact h8 x h1
  ·omega
 have ht:=fun hp L H d hF=>yu (hp:=hp) (L:=L) (H:=H) (d:=d) hl2 h82 hF;have rD:=sE hl2;have i0:(0:Int)<=(k:Int):=by omega
 have i1:(k:Int) < 258:=by omega
 have tk:((k:Int)).toNat=k:=by omega
 have V5:k<=261:=by omega
 rw [r,<- el];by_cases fA:k+1 < 258
 ·have hl':(k:Int)+1 < 258:=by omega
  rw [decide_eq_true fA,Bool.true_or];simp (disch:=first|exact dis|fail) only [sy,simprocAttr,-List.reduceReplicate,hF.all,oh,bh,aS,bS,ty,tb,tn,ty0,ty2,jD h,hl',i0,i1,tk,V5,vr,hz,kS,s0,s1,s2,p2,aY hl2,aq hl2,aq hl1,aq hl0]
 ·have hl':¬ (k:Int)+1 < 258:=by omega
  rw [decide_eq_false fA,Bool.false_or];simp (disch:=first|exact dis|fail) only [sy,simprocAttr,-List.reduceReplicate,hF.all,oh,bh,aS,bS,ty,tb,tn,ty0,ty2,jD h,hl',i0,i1,tk,V5,vr,hz,kS,s0,s1,s2,p2,aY hl2,aq hl2,aq hl1,aq hl0,rD,ht]
def bR(c:Ts)(b:Nat):Ts×Bool:=
 if c.bits < 4 then ({ c with now:=c.now*2+b,bits:=c.bits+1 },true)
 else if c.bits=4 then
  (if b=0 then ({ c with l:=c.l.set c.sym.toNat c.now.toNat,sym:=c.sym+1,way:=0 },decide (c.sym+1 < 258)||k9 (c.l.set c.sym.toNat c.now.toNat)) else ({ c with bits:=5 },true))
 else if b=0 then ({ c with now:=c.now+1,way:=1,bits:=4 },decide (c.way≠2)&&decide (c.now < 15))
 else ({ c with now:=c.now - 1,way:=2,bits:=4 },decide (c.way≠1)&&decide (c.now > 0))
structure Ze(c:Ts):Prop where
 len:c.l.length=258
 by_:By c.l
 Ab:0<=c.sym
 Ac:c.sym < 258
 qb:0<=c.bits
 sF:c.bits<=5
 zz:0<=c.now
 zA:c.now<=15
 few:c.bits < 4->c.now < 2 ^ c.bits.toNat
theorem tJ{c:Ts}(o:Ze c){b:Nat}(hb:b < 2)(hF:Fit hp.length L H) :
  aN env (.func 205) [.agg (tsC c).toArray,.int .i64 b] ⟨hp,L,H,d⟩=some (.tuple #[.agg (tsC (bR c b).1).toArray,.bool (bR c b).2],⟨hp,L,H,d⟩):=by
 have h:=o.len;have b0:=o.qb;have b1:=o.sF;have n0:=o.zz;have n1:=o.zA;have y0:=o.Ab;have y1:=o.Ac;unfold bR;by_cases c1:c.bits < 4
 ·rw [if_pos c1];exact J3 h c1 (by omega) ⟨n0,by omega⟩ (by omega) hF
 ·rw [if_neg c1];by_cases c2:c.bits=4
  ·rw [if_pos c2];by_cases c3:b=0
   ·subst c3;rw [if_pos rfl];have:=OV (k:=c.sym.toNat) (n:=c.now.toNat) h o.by_ (by omega) (by omega) (by omega) (by omega) c2 hF (hp:=hp) (L:=L) (H:=H) (d:=d);rw [show ((c.sym.toNat:Nat):Int)=c.sym by omega] at this;rw [show decide (c.sym+1 < 258)=decide (c.sym.toNat+1 < 258) by rw [decide_eq_decide];omega];exact this
   ·obtain rfl:b=1:=by omega
    rw [if_neg c3];exact OT h c2 hF
  ·rw [if_neg c2];by_cases c3:b=0
   ·subst c3;rw [if_pos rfl];exact V2 h (by omega) (by omega) hF
   ·obtain rfl:b=1:=by omega
    rw [if_neg c3];exact OU h (by omega) (by omega) hF
end LtA
end Go.Proofs.YtgdpefeomemllaaGreat
end
section
namespace Go.Proofs.YtgdpefeomemllaaGreat
namespace LtA
open Go Go.RowKit AM aE
variable{hp:List Blk}{L:Nat}{H d:List Nat}
theorem OW{c:Ts}(h:c.l.length=258)(b:Nat):(bR c b).1.l.length=258:=by
 unfold bR;split
 ·exact h
 ·split
  ·split
   ·show (c.l.set _ _).length=258;rw [List.length_set];exact h
   ·exact h
  ·split
   ·exact h
   ·exact h
end LtA
end Go.Proofs.YtgdpefeomemllaaGreat
end
section
namespace Go.Proofs.YtgdpefeomemllaaGreat
namespace Bt
open Go Go.RowKit AM aE
variable{hp:List Blk}{L:Nat}{H:List Nat}{a k a2 k2:Nat}{l l2:List Nat}
end Bt
end Go.Proofs.YtgdpefeomemllaaGreat
end
section
namespace Go.Proofs.YtgdpefeomemllaaGreat
namespace Bt
open Go Go.RowKit AM aE
variable{q:List Blk}{L:Nat}{H:List Nat}{a k s:Nat}{l:List Nat}
end Bt
end Go.Proofs.YtgdpefeomemllaaGreat
end
section
namespace Go.Proofs.YtgdpefeomemllaaGreat
namespace Bt
open Go Go.RowKit AM aE
structure Dd where
 v:Nat
 w:Int
 pad:Bool
def acW(d:Dd):List Value:=[.int .u32 d.v,.int .i64 d.w,.bool d.pad]
end Bt
end Go.Proofs.YtgdpefeomemllaaGreat
end
namespace Go.Proofs.YtgdpefeomemllaaGreat
open Go Go.RowKit Go.ChangeShapes Go.WideShapes Go.ChangeAt Go.Deep
theorem TA:ownKnob Tryz.prog.godebug=none:=by kernel_rfl
theorem TB:laidOutB Tryz.prog=true:=by kernel_rfl
section
variable{H:Type}{enc:TypeId×Value->H}{P:Program}
theorem BU(hl:laidOutB P=true){W W':World}(hb:Below W.heap.size W W'):∀ {ts:List TypeId} {vs:List Value} {ds:List (DataW H)} {ps:List MemPlace},
  (∀ t∈ts,P.readableRec t=true/\t < P.types.size)->DataW.TrodAll enc P W 0 (fun _=>true) true ts vs ds ps->(∀ x∈ps,x.block < W.heap.size) ->
  DataW.TrodAll enc P W' 0 (fun b=>decide (b < W.heap.size)) true ts vs ds ps
 | [],vs,ds,ps,_,h,_=>by
  obtain ⟨rfl,rfl,rfl⟩:=trodAll_nil h;exact trodAll_mk0
 | t::ts,vs,ds,ps,hr,h,hlt=>by obtain ⟨v,vs',d,ds',p,q,rfl,rfl,rfl,h1,h2⟩:=trodAll_cons h;exact ⟨p,q,Below.trod hl (hr t (by simp)).1 (hr t (by simp)).2 h1 hb (fun x hx=>hlt x (by simp [hx])),BU hl hb (fun t' ht'=>hr t' (by simp [ht'])) h2 (fun x hx=>hlt x (by simp [hx])),rfl⟩
theorem TC{f:Func}{s:ChangeSpec}{W W':World}{args:Array Value}{ds gs:List (DataW H)}{before:List MemPlace}{tb:TypeId}
  (hW:DataW.Whole enc P f.params.toList s.vars false W args.toList ds gs before) (hl:laidOutB P=true) (hr:∀ t∈f.params.toList,P.readableRec t=true/\t < P.types.size)
  (hv:s.vars=[]) (ht:f.resultTypes=#[tb]) (hb0:P.underlying tb=some .bool) (hf:s.fn H (ds++gs) = { results:=[.lit (.bool true)],args:=ds })
  (hb:Below W.heap.size W W'):s.post enc P f false true false false W args (.bool true) W':=by
 have hlt:∀ p∈before,p.block < W.heap.size:=fun p hp=>hW.lt p hp;have hW2:=hW;obtain ⟨p,q,hA,hV,rfl,_,_⟩:=hW2;rw [hv] at hV;obtain ⟨rfl,rfl⟩:=trodVars_none hV;refine ⟨ds,[],p++[],[],p,[],hW,?_,?_,?_,?_,fun h=>by cases h⟩
 ·rw [hf,ht];exact trodAll_mk1 (shut_bool hb0 true)
 ·rw [hf];exact BU hl hb hr hA (fun x hx=>hlt x (by simp [hx]))
 ·rw [hf,hv];exact rfl
 ·exact World.keptBut_mono (fun x hx=>⟨hx,.inr (.inl (by simpa using hx))⟩) (hb.frame (·∈p++[]))
theorem TD{r:Reach}{b0:Nat}{t:TypeId}{W:World}{v:Value}{d:DataW H}{ps:List MemPlace}{base:Nat}{spare:Nat->Bool}{held:Bool}(ht:P.underlying t=some (.int .i64))
  (hval:Value.okWide P W r b0 t v) (hd:DataW.Trod enc P W base spare held t v d ps):∃ n:Int,v=.int .i64 n/\-9223372036854775808<=n/\n<=9223372036854775807:=by obtain ⟨n,rfl,_,_,hw⟩:=open_int ht hval hd;simp only [Lit.wf,Bool.and_eq_true,decide_eq_true_eq] at hw;exact ⟨n,rfl,by simpa [IntKind.min,IntKind.max,IntKind.signed,IntKind.bits] using hw⟩
theorem vu{W:World}{t e:TypeId}{fuel:Nat}{cs:List Value}{x:DataW H×List MemPlace}{base:Nat}{spare:Nat->Bool}{held:Bool}(ht:P.underlying t=some (.slice e))(he:P.underlying e=some (.int .u8))(hc:P.cellsOf e=1)
  (h:DataW.trod enc P W base spare held fuel t cs=some x) :
  ∃ (A:Option Addr) (l:List Nat) (cap:Nat),cs=[.slice A l.length cap]/\At W A (u8s l)/\(∀ b∈l,b < 256)/\l.length<=cap/\cap<=maxLen:=by
 rcases open_ints ht he hc h with ⟨rfl,_⟩ | ⟨a,len,cap,zs,rfl,_,hl,hm,hz,_,hcell,hwf⟩
 ·exact ⟨none,[],0,rfl,At.nil,by simp,by simp,by simp [maxLen]⟩
 ·have hle:len<=zs.length:=by rw [hz];split<;>omega
  have hnn:∀ n∈zs,0<=n/\n<=255:=fun n hn=>by have:=hwf n hn;simp only [Lit.wf,Bool.and_eq_true,decide_eq_true_eq] at this;simpa [IntKind.min,IntKind.max,IntKind.signed,IntKind.bits] using this
  have hlen:((zs.take len).map Int.toNat).length=len:=by simp;omega
  refine ⟨some a,(zs.take len).map Int.toNat,cap,by rw [hlen],fun j u hu=>⟨a,rfl,?_⟩,fun b hb=>?_,by omega,hm⟩
  ·rw [j8,List.getElem?_map,List.getElem?_take] at hu;split at hu
   ·rename_i hj;have hjl:j < zs.length:=by omega
    rw [hcell j hjl];rw [List.getElem?_eq_getElem hjl] at hu;simp only [Option.map_some,Option.some.injEq] at hu;subst hu;rw [Int.toNat_of_nonneg (hnn _ (List.getElem_mem hjl)).1];simp [List.getElem?_eq_getElem hjl]
   ·cases hu
  ·obtain ⟨n,hn,rfl⟩:=List.mem_map.1 hb;have:=hnn n (List.mem_of_mem_take hn);omega
theorem J4{W:World}{t e:TypeId}{r:Reach}{b0:Nat}{v:Value}{d:DataW H}{ps:List MemPlace}{base:Nat}{spare:Nat->Bool}{held:Bool}(ht:P.underlying t=some (.slice e))(he:P.underlying e=some (.int .u8))(hc:P.cellsOf e=1)
  (hval:Value.okWide P W r b0 t v) (hd:DataW.Trod enc P W base spare held t v d ps) :
  ∃ (A:Option Addr) (l:List Nat) (cap:Nat),v=.slice A l.length cap/\At W A (u8s l)/\(∀ b∈l,b < 256)/\l.length<=cap/\cap<=maxLen:=by obtain ⟨a0,len,cap,rfl⟩:=okWide_slice ht hval;obtain ⟨fuel,hf⟩:=hd;obtain ⟨A,l,c,h1,h2⟩:=vu ht he hc hf;simp only [Value.cells,List.cons.injEq,and_true] at h1;exact ⟨A,l,c,h1,h2⟩
end
namespace AM
open Go Go.RowKit Go.ChangeShapes Go.WideShapes Go.ChangeAt Go.Deep
section
variable{P:Program}{W:World}
structure Argd(W:World)(bs:List Blk)(X:Emb)(args vs:List Value):Prop where
 sim:Sim W X ⟨bs,bs.length,[],[]⟩ W
 rel:bg (aC X) args vs
theorem Argd.nil(W:World):Argd W [] ⟨fun _=>none,0⟩ [] []:=
 ⟨⟨Below.refl _ _,fun id bx h=>by (cases h),fun id bx h=>by (cases h),fun id bx g pl cs h=>by (cases h),fun i j bi bj h=>by (cases h),fun id bx h=>by (cases h),fun id bx h=>by (cases h),fun id bx es h=>by (cases h)⟩,bg.nil⟩
theorem bg.snoc{R:Value->Value->Prop}{l m:List Value}(h:bg R l m){v u:Value}(k:R v u):bg R (l++[v]) (m++[u]):=h.append (bg.nil.cons k)
theorem Argd.sc{bs:List Blk}{X:Emb}{args vs:List Value}(A:Argd W bs X args vs){v:Value}(h:AM.sc v=true):Argd W bs X (args++[v]) (vs++[v]):=
 ⟨A.sim,bg.snoc A.rel ((bp h).2 rfl)⟩
theorem Argd.bytes{bs:List Blk}{X:Emb}{args vs:List Value}(A:Argd W bs X args vs){ad:Option Addr}{l:List Nat}{cap:Nat}(ha:At W ad (u8s l))(hb:By l)(hc:l.length<=cap)(hd:cap<=maxLen)
  (h0:ad=none->l=[]/\cap=0) (hs:∀ a,ad=some a->a.spot=none/\a.block < W.heap.size) :
  ∃ X' bs' v',Argd W (bs++bs') X' (args++[v']) (vs++[.slice ad l.length cap])/\Rd ⟨bs++bs',(bs++bs').length,[],[]⟩ v' l:=by
 cases ad with
 | none=>
  obtain ⟨rfl,rfl⟩:=h0 rfl;refine ⟨X,[],.slice none 0 0,?_,⟨By.nil,.inl ⟨rfl,rfl⟩⟩⟩;have:=A.sc (v:=.slice none 0 0) rfl;simpa using this
 | some a=>
  obtain ⟨hsp,hbk⟩:=hs a rfl;obtain ⟨ab,ao,asp⟩:=a;simp only at hsp hbk;subst hsp;have S:=A.sim;let X':Emb:=⟨fun id=>if id=bs.length then some ⟨ab,ao,false,0,l.length,l.length⟩ else X id,X.y⟩;have ev:Evo X X':=Evo.mk' rfl fun id bx hx=>by have hlt:=S.dom id bx hx;simp only at hlt;exact ⟨bx,by simp only [X'];rw [if_neg (by omega)];exact hx,.inl rfl⟩
  have hnew:X' bs.length=some ⟨ab,ao,false,0,l.length,l.length⟩:=by simp [X']
  have hold:∀ id bx,X' id=some bx->(id=bs.length/\bx=⟨ab,ao,false,0,l.length,l.length⟩)\/(id≠bs.length/\X id=some bx):=fun id bx h=>by
   simp only [X'] at h;split at h
   ·rename_i e;exact .inl ⟨e,(by cases h;rfl)⟩
   ·rename_i e;exact .inr ⟨e,h⟩
  refine ⟨X',[.cells 0 true (u8s l)],.slice (some ⟨bs.length,0,some 0⟩) l.length 0,⟨⟨S.bel,fun id bx h=>?_,fun id bx h=>?_,fun id bx g pl cs h hh hcs=>?_,fun i j bi bj hi hj oi oj e=>?_,fun id bx h hl=>?_,fun id bx h h0=>by
   rcases hold id bx h with ⟨rfl,rfl⟩ | ⟨_,h⟩
   ·exact h0
   ·exact S.zero id bx h h0,fun id bx es h hh hcs=>by
   rcases hold id bx h with ⟨rfl,rfl⟩ | ⟨_,h⟩
   ·rw [show (bs++[Blk.cells 0 true (u8s l)])[bs.length]?=some (.cells 0 true (u8s l)) by simp] at hcs;cases hcs
   ·have hlt:=S.dom id bx h;rw [show (bs++[Blk.cells 0 true (u8s l)])[id]?=bs[id]? from List.getElem?_append_left hlt] at hcs;obtain ⟨a1,a2,res,ck,a3,a4⟩:=S.eC id bx es h hh hcs;exact ⟨a1,a2,res,ck,a3,a4.evo ev⟩⟩,bg.snoc (A.rel.mono fun v _ u h=>h.evo ev) ?_⟩,⟨hb,.inr ⟨bs.length,0,0,0,true,u8s l,rfl,.inl rfl,rfl,by simp,by simp [u8s],by rw [List.drop_zero,List.take_of_length_le (by simp [u8s])]⟩⟩⟩
  ·rcases hold id bx h with ⟨rfl,_⟩ | ⟨_,h⟩
   ·simp
   ·have:=S.dom id bx h;simp only [List.length_append,List.length_cons,List.length_nil] at this ⊢;omega
  ·rcases hold id bx h with ⟨rfl,rfl⟩ | ⟨_,h⟩
   ·exact ⟨hbk,hbk⟩
   ·exact S.place id bx h
  ·rcases hold id bx h with ⟨rfl,rfl⟩ | ⟨hne,h⟩
   ·simp only [List.getElem?_concat_length,Option.some.injEq,Blk.cells.injEq] at hcs;obtain ⟨rfl,rfl,rfl⟩:=hcs;refine ⟨rfl,by simp [u8s],by simp,fun _=>qB l,fun j v hv=>?_,fun ho=>(by cases ho)⟩;obtain ⟨ad',e1,e2⟩:=ha j v hv;cases e1;rw [add_lit] at e2;refine ⟨v,e2,(cK ?_).2 rfl⟩;have:=List.all_eq_true.1 (qB l) v (List.mem_of_getElem? hv);exact this
   ·have hlt:=S.dom id bx h;simp only at hlt;have Zf:bs[id]?=some (.cells g pl cs):=by simp only at hcs;rw [List.getElem?_append_left hlt] at hcs;exact hcs
    obtain ⟨a1,a2,a3,a4,a5,a6⟩:=S.cell id bx g pl cs h (by simp) Zf;exact ⟨a1,a2,a3,a4,fun j v hj=>by obtain ⟨u,hu,hr⟩:=a5 j v hj;exact ⟨u,hu,hr.evo ev⟩,a6⟩
  ·rcases hold i bi hi with ⟨rfl,rfl⟩ | ⟨_,hi⟩
   ·cases oi
   ·rcases hold j bj hj with ⟨rfl,rfl⟩ | ⟨_,hj⟩
    ·cases oj
    ·exact S.inj i j bi bj hi hj oi oj e
  ·simp only [List.length_append,List.length_cons,List.length_nil] at hl;rcases hold id bx h with ⟨rfl,rfl⟩ | ⟨_,h⟩
   ·omega
   ·have:=S.dom id bx h;simp only at this;omega
  ·exact ⟨⟨ab,ao,none⟩,cap,rfl,hc,hd,_,hnew,0,rfl,Nat.le_refl _,fun _=>⟨fun _=>by simp,fun h=>by omega⟩⟩
theorem V6{env:Env}(he:aJ P env)(hm:P.follows .mixedOrders=true){f:Nat}{args vs:List Value}{bs:List Blk}{X:Emb}(A:Argd W bs X args vs)(h:∃ σ',aN env (.func f) args ⟨bs,bs.length,[],[]⟩=some (.bool true,σ')) :
  Calls P f vs.toArray W fun e W'=>e=.returned (.bool true)/\Below W.heap.size W W':=by obtain ⟨σ',h⟩:=h;obtain ⟨n,h⟩:=oZ.1 h;obtain ⟨f',e,_,hc⟩:=((xU (w0:=W) he hm n).call _ _ _ _ _ h).resolve_right (fun ⟨k,e,_⟩=>by cases e);cases e;refine (hc X W vs.toArray A.sim (by simp) (by simp) (by simpa using A.rel)).mono fun e W' ⟨u,X',h1,h2,h3,h4⟩=>?_;rw [eO h2] at h1;exact ⟨h1,h3.bel⟩
theorem TE{w:World}{b:Nat}{p:TypeId×Nat}(h:w.shape? b=some p):b < w.heap.size:=by
 rcases Nat.lt_or_ge b w.heap.size with h1 | h1
 ·exact h1
 ·simp [World.shape?,Array.getElem?_eq_none h1] at h
variable{H:Type}{enc:TypeId×Value->H}
theorem Ad{t e:TypeId}{r:Reach}{b0:Nat}{v:Value}{d:DataW H}{ps:List MemPlace}{base:Nat}{spare:Nat->Bool}{held:Bool}(ht:P.underlying t=some (.slice e))(he:P.underlying e=some (.int .u8))(hc:P.cellsOf e=1)
  (hval:Value.okWide P W r b0 t v) (hd:DataW.Trod enc P W base spare held t v d ps) :
  ∃ (A:Option Addr) (l:List Nat) (cap:Nat),v=.slice A l.length cap/\At W A (u8s l)/\By l/\l.length<=cap/\cap<=maxLen/\(A=none->l=[]/\cap=0)/\(∀ a,A=some a->a.spot=none/\a.block < W.heap.size):=by
 obtain ⟨A,l,cap,rfl,h1,h2,h3,h4⟩:=J4 ht he hc hval hd;refine ⟨A,l,cap,rfl,h1,h2,h3,h4,fun e=>?_,fun a e=>?_⟩
 ·subst e;simp only [Value.okWide,ht,Cell.okWide,Cell.ok] at hval;split at hval<;>simp_all
 ·subst e;simp only [Value.okWide,ht,Cell.okWide,Cell.ok] at hval;obtain ⟨_,_,h5⟩:=hval;obtain ⟨_,h6,row,cells,h7,_⟩:=h5;exact ⟨h6,TE h7⟩
end
end AM
namespace AM
open Go Go.RowKit Go.ChangeShapes Go.WideShapes Go.ChangeAt Go.Deep
section
variable{P:Program}{W:World}
theorem Argd.cells{bs:List Blk}{X:Emb}{args vs:List Value}(A:Argd W bs X args vs){ad:Option Addr}{cs:List Value}{n cap:Nat}(ha:At W ad cs)(hsc:∀ v∈cs,AM.sc v=true)(hc:n<=cap)(hd:cap<=maxLen)
  (h0:ad=none->n=0/\cap=0) (hs:∀ a,ad=some a->a.spot=none/\a.block < W.heap.size) :
  ∃ X' bs' v',Argd W (bs++bs') X' (args++[v']) (vs++[.slice ad n cap])/\((v'=.slice none 0 0/\n=0/\bs'=[])\/(v'=.slice (some ⟨bs.length,0,some 0⟩) n 0/\bs'=[.cells 0 true cs])):=by
 cases ad with
 | none=>
  obtain ⟨rfl,rfl⟩:=h0 rfl;refine ⟨X,[],.slice none 0 0,?_,.inl ⟨rfl,rfl,rfl⟩⟩;have:=A.sc (v:=.slice none 0 0) rfl;simpa using this
 | some a=>
  obtain ⟨hsp,hbk⟩:=hs a rfl;obtain ⟨ab,ao,asp⟩:=a;simp only at hsp hbk;subst hsp;have S:=A.sim;let X':Emb:=⟨fun id=>if id=bs.length then some ⟨ab,ao,false,0,cs.length,cs.length⟩ else X id,X.y⟩;have ev:Evo X X':=Evo.mk' rfl fun id bx hx=>by have hlt:=S.dom id bx hx;simp only at hlt;exact ⟨bx,by simp only [X'];rw [if_neg (by omega)];exact hx,.inl rfl⟩
  have hnew:X' bs.length=some ⟨ab,ao,false,0,cs.length,cs.length⟩:=by simp [X']
  have hold:∀ id bx,X' id=some bx->(id=bs.length/\bx=⟨ab,ao,false,0,cs.length,cs.length⟩)\/(id≠bs.length/\X id=some bx):=fun id bx h=>by
   simp only [X'] at h;split at h
   ·rename_i e;exact .inl ⟨e,(by cases h;rfl)⟩
   ·rename_i e;exact .inr ⟨e,h⟩
  refine ⟨X',[.cells 0 true cs],.slice (some ⟨bs.length,0,some 0⟩) n 0,⟨⟨S.bel,fun id bx h=>?_,fun id bx h=>?_,fun id bx g pl cs2 h hh hcs=>?_,fun i j bi bj hi hj oi oj e=>?_,fun id bx h hl=>?_,fun id bx h h0=>by
   rcases hold id bx h with ⟨rfl,rfl⟩ | ⟨_,h⟩
   ·exact h0
   ·exact S.zero id bx h h0,fun id bx es h hh hcs=>by
   rcases hold id bx h with ⟨rfl,rfl⟩ | ⟨_,h⟩
   ·simp only [List.getElem?_concat_length,Option.some.injEq] at hcs;cases hcs
   ·have hlt:=S.dom id bx h;simp only at hlt hcs;rw [List.getElem?_append_left hlt] at hcs;obtain ⟨a1,a2,res,ck,a3,a4⟩:=S.eC id bx es h (by simp) hcs;exact ⟨a1,a2,res,ck,a3,a4.evo ev⟩⟩,bg.snoc (A.rel.mono fun v _ u h=>h.evo ev) ?_⟩,.inr ⟨rfl,rfl⟩⟩
  ·rcases hold id bx h with ⟨rfl,_⟩ | ⟨_,h⟩
   ·simp
   ·have:=S.dom id bx h;simp only [List.length_append,List.length_cons,List.length_nil] at this ⊢;omega
  ·rcases hold id bx h with ⟨rfl,rfl⟩ | ⟨_,h⟩
   ·exact ⟨hbk,hbk⟩
   ·exact S.place id bx h
  ·rcases hold id bx h with ⟨rfl,rfl⟩ | ⟨hne,h⟩
   ·simp only [List.getElem?_concat_length,Option.some.injEq,Blk.cells.injEq] at hcs;obtain ⟨rfl,rfl,rfl⟩:=hcs;refine ⟨rfl,rfl,Nat.zero_le _,fun _=>List.all_eq_true.2 hsc,fun j v hv=>?_,fun ho=>(by cases ho)⟩;obtain ⟨ad',e1,e2⟩:=ha j v hv;cases e1;rw [add_lit] at e2;exact ⟨v,e2,(cK (hsc v (List.mem_of_getElem? hv))).2 rfl⟩
   ·have hlt:=S.dom id bx h;simp only at hlt;have Zf:bs[id]?=some (.cells g pl cs2):=by simp only at hcs;rw [List.getElem?_append_left hlt] at hcs;exact hcs
    obtain ⟨a1,a2,a3,a4,a5,a6⟩:=S.cell id bx g pl cs2 h (by simp) Zf;exact ⟨a1,a2,a3,a4,fun j v hj=>by obtain ⟨u,hu,hr⟩:=a5 j v hj;exact ⟨u,hu,hr.evo ev⟩,a6⟩
  ·rcases hold i bi hi with ⟨rfl,rfl⟩ | ⟨_,hi⟩
   ·cases oi
   ·rcases hold j bj hj with ⟨rfl,rfl⟩ | ⟨_,hj⟩
    ·cases oj
    ·exact S.inj i j bi bj hi hj oi oj e
  ·simp only [List.length_append,List.length_cons,List.length_nil] at hl;rcases hold id bx h with ⟨rfl,rfl⟩ | ⟨_,h⟩
   ·omega
   ·have:=S.dom id bx h;simp only at this;omega
  ·exact ⟨⟨ab,ao,none⟩,cap,rfl,hc,hd,_,hnew,0,rfl,Nat.le_refl _,fun _=>⟨fun _=>by simp,fun h=>by omega⟩⟩
variable{H:Type}{enc:TypeId×Value->H}
end
end AM
end Go.Proofs.YtgdpefeomemllaaGreat
section
namespace Go.Proofs.YtgdpefeomemllaaGreat
namespace Bt
open Go Go.RowKit AM aE
def Rw(hp:List Blk)(H:List Nat)(v:Value)(ds:List Dd):Prop:=
 (v=.slice none 0 0/\ds=[])\/∃ b,v=.slice (some ⟨b,0,some 0⟩) ds.length 0/\H.contains b=false/\hp[b]?=some (.cells 0 true (ds.map acW).flatten)
theorem Rw.refs{hp:List Blk}{H:List Nat}{v:Value}{ds:List Dd}(h:Rw hp H v ds):∀ r∈refs v,r < hp.length:=by
 rcases h with ⟨rfl,rfl⟩ | ⟨b,rfl,_,hb⟩
 ·simp [AM.refs,bw,aI]
 ·have:=(List.getElem?_eq_some_iff.1 hb).1;intro r hr;simp [AM.refs,bw,aI] at hr;omega
end Bt
end Go.Proofs.YtgdpefeomemllaaGreat
end
section
namespace Go.Proofs.YtgdpefeomemllaaGreat
namespace Bt
open Go Go.RowKit AM aE
end Bt
end Go.Proofs.YtgdpefeomemllaaGreat
end
section
namespace Go.Proofs.YtgdpefeomemllaaGreat
namespace Bt
open Go Go.RowKit AM aE
end Bt
end Go.Proofs.YtgdpefeomemllaaGreat
end
section
namespace Go.Proofs.YtgdpefeomemllaaGreat
namespace Bt
open Go Go.RowKit AM aE
def Rr(k:Nat)(l:List Nat):Blk:=.cells 0 false [slI k l]
def Ib(l:List Nat):Blk:=.cells l.length true (is l)
structure Rs(hp:List Blk)(L:Nat)(H:List Nat)(a k:Nat)(l:List Nat):Prop where
 w:hp[a]?=some (Rr k l)
 b:l.length≠0->hp[k]?=some (Ib l)
 k0:l.length=0->k=hp.length
 aL:L<=a
 kL:L<=k
 aH:H.contains a=false
 kH:H.contains k=false
 ne:a≠k
 bits:iE l
section
variable{hp hq:List Blk}{L:Nat}{H:List Nat}{a k:Nat}{l m:List Nat}
theorem Rs.lt(w:Rs hp L H a k l):a < hp.length:=(List.getElem?_eq_some_iff.1 w.w).1
end
end Bt
end Go.Proofs.YtgdpefeomemllaaGreat
end
section
namespace Go.Proofs.YtgdpefeomemllaaGreat
namespace Bt
open Go Go.RowKit AM aE
variable{hp:List Blk}{L:Nat}{H:List Nat}{a k:Nat}{l m:List Nat}
end Bt
end Go.Proofs.YtgdpefeomemllaaGreat
end
section
namespace Go.Proofs.YtgdpefeomemllaaGreat
namespace Bt
open Go Go.RowKit AM aE
variable{hp:List Blk}{L:Nat}{H:List Nat}{s:Nat}{l:List Nat}
end Bt
end Go.Proofs.YtgdpefeomemllaaGreat
end
section
namespace Go.Proofs.YtgdpefeomemllaaGreat
namespace LtA
open Go Go.RowKit AM aE Bt
variable{hp hq:List Blk}{L:Nat}{H d:List Nat}{a k:Nat}{l:List Nat}
def rep(way:Nat):Nat->List Nat
 | 0=>[]
 | n+1=>1::way::rep way n
def chg(was now:Nat):List Nat:=(if now < was then rep 1 (was - now) else rep 0 (now - was))++[0]
theorem oS{way:Nat}(h:way < 2):∀ n,iE (rep way n)
 | 0=>iE.nil
 | n+1=>(iE.one (by omega)).append ((iE.one h).append (oS h n))
theorem zB(way:Nat):∀ n,(rep way n).length=2*n
 | 0=>rfl
 | n+1=>by simp [rep,zB way n];omega
theorem TF(was now:Nat):iE (chg was now):=by
 unfold chg;split
 ·exact (oS (by omega) _).append (iE.one (by omega))
 ·exact (oS (by omega) _).append (iE.one (by omega))
def adj(x:List Nat):Nat->Nat->Nat->List Nat
 | 0,_,_=>[]
 | n+1,i,was=>chg was (x.getD i 0)++adj x n (i+1) (x.getD i 0)
def f4(was i:Nat):List Nat:=(List.range i).map fun j=>was / 2 ^ (3 - j)%2
theorem V7(was i:Nat):iE (f4 was i):=fun b hb=>by obtain ⟨j,_,rfl⟩:=List.mem_map.1 hb;exact Nat.mod_lt _ (by decide)
end LtA
end Go.Proofs.YtgdpefeomemllaaGreat
end
section
namespace Go.Proofs.YtgdpefeomemllaaGreat
namespace LtA
open Go Go.RowKit AM aE Bt
variable{q:List Blk}{L:Nat}{H:List Nat}{a k s:Nat}{l:List Nat}
theorem Hg(x:List Nat):∀ n i was,iE (adj x n i was)
 | 0,_,_=>iE.nil
 | n+1,i,was=>(TF _ _).append (Hg x n (i+1) _)
end LtA
end Go.Proofs.YtgdpefeomemllaaGreat
end
