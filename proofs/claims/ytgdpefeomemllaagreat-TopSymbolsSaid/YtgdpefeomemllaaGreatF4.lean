/- Conditions: none. -/
import Derived.Test.YtgdpefeomemllaaGreatF3
set_option linter.all false
set_option maxRecDepth 100000
namespace Go.Proofs.YtgdpefeomemllaaGreat
namespace AM
open Go Go.RowKit
section
variable{aa:ay}{fr:Fr}{σ:St}
def Yn(σ:St):Option Value->Option (Value×St)
 | some (.int .i64 k)=>if 0 < k/\k<=1048576 then some (.slice (some ⟨σ.heap.length,0,some 0⟩) k.toNat 1048577,⟨σ.heap++[.cells 0 false (List.replicate k.toNat BY)],σ.lock,σ.hid,σ.ak⟩) else none
 | _=>none
theorem yF(k:Int):Yn σ (some (.int .i64 k))=if 0 < k/\k<=1048576 then some (.slice (some ⟨σ.heap.length,0,some 0⟩) k.toNat 1048577,⟨σ.heap++[.cells 0 false (List.replicate k.toNat BY)],σ.lock,σ.hid,σ.ak⟩) else none:=rfl
theorem Gm(n:Operand):aop aa (.zJ n) fr σ=Yn σ (ev fr n):=by
 simp only [aop]
 cases ev fr n with
 | none=>rfl
 | some v=>cases v<;>rfl
end
end AM
namespace TsB
open Go Go.RowKit AM af LtA SyP TmM TsA
theorem C3(g:Nat)(pl:Bool)(l:List Nat):kj (.cells g pl (u8s l)):=by
 cases pl with
 | true=>exact kj.plain g _
 | false=>
  refine ⟨cK l,fun f=>?_⟩
  show Blk.cells g false ((u8s l).map (cQ f))=_
  congr 1
  unfold u8s
  rw [List.map_map]
  exact List.map_congr_left fun x _=>rfl
theorem C4{h nw:List Blk}{b:Blk}(k:Nat)(hk:nw[k]?=some b)(hb:kj b)(s:Option Nat)(n e:Nat)(L:Nat)(H:List Nat) :
  gcY h nw (.slice (some ⟨h.length+k,0,s⟩) n e) L H false=some ([.slice (some ⟨h.length,0,s⟩) n e],⟨h++[b],L,H,[]⟩):=by
 have g0:(h++nw)[h.length+k]?=some b:=by rw [b7];exact hk
 unfold gcY
 rw [rN (R:=[h.length+k]) rfl (by simp) (by simp [refs,aT,aG]) (by simp) (by simp) (fun r hr=>by
  simp only [List.mem_cons,List.not_mem_nil,or_false] at hr
  subst hr
  exact ⟨_,g0,hb⟩)]
 have hf:firsts [h.length+k] []=[h.length+k]:=rfl
 rw [hf]
 have p0:plc h.length [h.length+k] (h.length+k)=h.length:=by simp [plc];omega
 simp only [List.map_cons,List.map_nil,ren,fm,cQ,p0,dy,List.getD_eq_getElem?_getD,g0,Option.getD_some]
theorem oS{h:List Blk}{b:Blk}(hb:kj b)(s:Option Nat)(n e:Nat)(L:Nat)(H:List Nat) :
  gcY h [b] (.slice (some ⟨h.length,0,s⟩) n e) L H false=some ([.slice (some ⟨h.length,0,s⟩) n e],⟨h++[b],L,H,[]⟩):=C4 0 rfl hb s n e L H
section
variable{hp:List Blk}{L:Nat}{H d:List Nat}
theorem ab7{n:Int}(h0:0<=n)(h1:n < 4294967296):yg 64 n 4294967295=n:=by
 have:=mask 64 n 32 h0 (by omega) (by omega)
 unfold yg
 rw [show (4294967295:Int)=((2 ^ 32 - 1:Nat):Int) by decide,this]
 have:((2 ^ 32:Nat):Int)=4294967296:=by decide
 omega
theorem Jx{n:Nat}(h:n < 4294967296)(hF:Fit hp.length L H):aN env (.func 281) [.int .u64 1,.int .u64 n] ⟨hp,L,H,d⟩=some (.tuple #[.int .u64 0,.int .u64 n],⟨hp,L,H,d⟩):=by
 rw [aA 281 _ _ abV]
 have h1:yg 64 1 4294967295=1:=by decide +kernel
 have h2:yg 64 (n:Int) 4294967295=n:=ab7 (by omega) (by omega)
 have h3:(n:Int).fdiv 4294967296=0:=by rw [yf _ (by decide)];omega
 have h4:(1:Int).fdiv 4294967296=0:=by decide
 have h5:yg 64 0 4294967295=0:=by decide +kernel
 have h6:(0:Int).fdiv 4294967296=0:=by decide
 have h7:min (32:Nat) 64=32:=by decide
 simp (disch:=first | exact AM.dis | fail) only [af.sy,simprocAttr,-List.reduceReplicate,hF.all,Lt,h1,h2,h3,h4,h5,h6,h7,Int.zero_mul,Int.mul_zero]
theorem Ta{n:Nat}(h:n < 4294967296)(hF:Fit hp.length L H):aN env (.func 258) [.int .u64 1,.int .u64 n] ⟨hp,L,H,d⟩=some (.tuple #[.int .u64 0,.int .u64 n],⟨hp,L,H,d⟩):=by
 rw [aA 258 _ _ abI]
 have h1:=fun d=>Jx (hp:=hp) (d:=d) h hF
 simp (disch:=first | exact AM.dis | fail) only [af.sy,simprocAttr,-List.reduceReplicate,hF.all,Lm,h1]
def rO(c n i:Nat):List Value:=u8s (List.replicate i c)++List.replicate (n - i) BY
theorem Gn{c n i:Nat}(h:i<=n):(rO c n i).length=n:=by simp [rO,u8s];omega
theorem Tb{c n:Nat} : rO c n n=u8s (List.replicate n c):=by simp [rO]
theorem Og{c n i m:Nat}(h:m<=i):(rO c n i).take m=u8s (List.replicate m c):=by
 unfold rO
 rw [List.take_append_of_le_length (by simp [u8s];exact h)]
 simp only [u8s,<- List.map_take,List.take_replicate,Nat.min_eq_left h]
theorem Gp{c n i m:Nat}(h:i+m<=n):putAt (rO c n i) i (u8s (List.replicate m c))=rO c n (i+m):=by
 apply List.ext_getElem?
 intro j
 rw [dJ _ _ _ _ (by rw [Gn (by omega),aq,List.length_replicate];exact h)]
 rw [aq,List.length_replicate]
 have g:∀ i,i<=n->∀ j,(rO c n i)[j]?=if j < i then some (.int .u8 c) else if j < n then some BY else none:=fun i hi j=>by
  unfold rO
  rw [List.getElem?_append]
  simp only [aq,List.length_replicate]
  by_cases h1:j < i
  ·rw [if_pos h1,if_pos h1,eo,List.getElem?_replicate,if_pos h1];rfl
  ·rw [if_neg h1,if_neg h1,List.getElem?_replicate]
   by_cases h2:j < n
   ·rw [if_pos (by omega),if_pos h2]
   ·rw [if_neg (by omega),if_neg h2]
 rw [g i (by omega),g (i+m) (by omega),eo,List.getElem?_replicate]
 by_cases h1:i<=j/\j < i+m
 ·rw [if_pos h1,if_pos (by omega),if_pos (by omega)];rfl
 ·rw [if_neg h1]
  by_cases h2:j < i
  ·rw [if_pos h2,if_pos (by omega)]
  ·rw [if_neg h2,if_neg (show ¬ j < i+m by omega)]
def rsl(g n:Nat):Value:=.slice (some ⟨g,0,some 0⟩) n 1048578
theorem Gr{c n:Nat}(hn:n<=1048576){q:Nat}(hq:0 < q)(hF:Fit hp.length L H):∀ k i:Nat,i<=n->0 < i->n - i<=k->∃ fr,
  aX env vU [10,7,8,9] (hp.length+1) [(10,.int .i64 i),(7,.int .i64 n),(8,.int .i64 q),(9,rsl hp.length n)] ⟨hp++[.cells 0 false (rO c n i)],L,H,[]⟩ =
  some (.exit 0,fr,⟨hp++[.cells 0 false (rO c n n)],L,H,[]⟩)/\fr.get 9=some (rsl hp.length n)
 | k,i,hi,h0,hk=>by
  by_cases e:i=n
  ·subst e
   rw [aB vU.eq_1]
   have h1:¬ (i:Int) < i:=by omega
   simp (disch:=first | exact AM.dis | fail) only [af.sy,simprocAttr,-List.reduceReplicate,hF.all,h1]
   exact ⟨_,rfl,rfl⟩
  ·cases k with
   | zero=>omega
   | succ k=>
    obtain ⟨fr,e1,e2⟩:=Gr (c:=c) hn hq hF k (i+min (min i q) (n - i)) (by omega) (by omega) (by omega)
    have h1:(i:Int) < n:=by omega
    rw [aB vU.eq_1]
    simp only [rsl] at e1 e2
    have hm0:min (i:Int) (q:Int)=((min i q:Nat):Int):=by omega
    generalize hm:min i q=m at *
    generalize ht:min m (n - i)=t at *
    have c1:eT n (some (.int .i64 (i:Int))) none none=some (i,n,none):=by
     simp only [eT,cr,Option.bind_some]
     rw [if_pos (by omega)];rfl
    have c2:eT n none (some (.int .i64 (m:Int))) none=some (0,m,none):=by
     simp only [eT,cr]
     rw [if_pos (by omega)];simp
    have hl:=Gn (c:=c) hi
    have htk:(rO c n i).take m=u8s (List.replicate m c):=Og (by omega)
    have adz:(u8s (List.replicate m c)).take t=u8s (List.replicate t c):=by
     simp only [u8s,<- List.map_take,List.take_replicate];congr 2;omega
    have hpu:=Gp (c:=c) (n:=n) (i:=i) (m:=t) (by omega)
    have ht0:¬ t=0:=by omega
    have hlt:(u8s (List.replicate t c)).length=t:=by rw [aq,List.length_replicate]
    have h5:i+t<=n:=by omega
    have h6:m<=n:=by omega
    have h7:(i:Int)+(t:Int)=((i+t:Nat):Int):=by omega
    simp (disch:=first | exact AM.dis | fail) only [af.sy,simprocAttr,-List.reduceReplicate,hF.all,h1,rsl,hm0,mF,c1,c2,ht,hl,htk,adz,hpu,ht0,hlt,h5,h6,h7,Nat.sub_zero,cP,bW,e1]
    exact ⟨fr,rfl,e2⟩
theorem Tc{c n:Nat}(hc:c < 256)(hn0:0 < n)(hn:n<=65536){b o e:Nat}{g:Nat}{pl:Bool}{cs:List Value}(hb:hp[b]?=some (.cells g pl cs))(hh:H.contains b=false)(ho:cs[o]?=some (.int .u8 c))(hF:Fit hp.length L H) :
  aN env (.func 230) [.slice (some ⟨b,o,some g⟩) 1 e,.int .i64 n] ⟨hp,L,H,d⟩=some (rsl hp.length n,⟨hp++[.cells 0 false (u8s (List.replicate n c))],L,H,d⟩):=by
 rw [aA 230 _ _ Ym]
 have hol:o < cs.length:=(List.getElem?_eq_some_iff.1 ho).1
 have hd:(cs.drop o).take 1=[.int .u8 c]:=by
  rw [List.drop_eq_getElem_cons hol,List.take_succ_cons,List.take_zero,(List.getElem?_eq_some_iff.1 ho).2]
 have h0:¬ (n:Int)=0:=by omega
 have h1:¬ (n:Int) < 0:=by omega
 have h2:=fun hp d hF=>Ta (hp:=hp) (L:=L) (H:=H) (d:=d) (n:=n) (by omega) hF
 have h3:E8 .u64 (.int .i64 (n:Int))=some (.int .u64 (n:Int)):=by rw [oR,Zb]<;>omega
 have h4:¬ (n:Int) > 9223372036854775807:=by omega
 have h5:E8 .i64 (.int .u64 (n:Int))=some (.int .i64 (n:Int)):=by rw [oR,w64]<;>omega
 have h6:0 < (n:Int)/\(n:Int)<=1048576:=by omega
 have c1:eT n none (some (.int .i64 (n:Int))) (some (.int .i64 (n:Int)))=some (0,n,some n):=by
  simp only [eT,cr]
  rw [if_pos (by omega)]
  simp only [Option.bind_some,Int.toNat_natCast]
  rw [if_pos (by omega)];rfl
 have hj:(List.replicate n BY).length=n:=List.length_replicate
 have h7:min 1 n=1:=by omega
 have h8:¬ n=0:=by omega
 have h9:1<=n:=by omega
 have hbl:=(List.getElem?_eq_some_iff.1 hb).1
 have ab8:o+1<=cs.length:=hol
 have hdv:Int.tdiv 8192 1=8192:=rfl
 have hsl:eA 1 (.slice (some ⟨hp.length,0,some 0⟩) n 1048577) none (some (.int .i64 (n:Int))) (some (.int .i64 (n:Int)))=some (.slice (some ⟨hp.length,0,some 0⟩) n 1048578):=by
  simp [eA,mF,c1]
 have hpu:(List.replicate n BY).set 0 (.int .u8 c)=rO c n 1:=by
  have:=Gp (c:=c) (n:=n) (i:=0) (m:=1) (by omega)
  exact this
 have hq:∃ q:Nat,0 < q/\((n:Int) > 8192->q=8192)/\(¬ (n:Int) > 8192->q=n):=by
  by_cases h:(n:Int) > 8192
  ·exact ⟨8192,by decide,fun _=>rfl,fun h'=>absurd h h'⟩
  ·exact ⟨n,hn0,fun h'=>absurd h' h,fun _=>rfl⟩
 obtain ⟨q,hq0,hq1,hq2⟩:=hq
 obtain ⟨fr,e1,e2⟩:=Gr (c:=c) (show n<=1048576 by omega) hq0 hF (n - 1) 1 h9 (by decide) (Nat.le_refl _)
 rw [Tb] at e1
 simp only [rsl,Int.natCast_one] at e1 e2
 by_cases hbig:(n:Int) > 8192
 ·rw [hq1 hbig] at e1
  simp only [Int.cast_ofNat_Int] at e1
  simp (disch:=first | exact AM.dis | fail) only [af.sy,simprocAttr,-List.reduceReplicate,hF.all,AX,rsl,h0,h1,h2,h3,h4,h5,h6,hbig,Gm,yF,mF,c1,hb,hh,hd,ab8,hj,h7,h8,h9,hpu,Nat.sub_zero,hdv,hsl,e1,e2,oS (C3 _ _ _)]
 ·rw [hq2 hbig] at e1
  simp (disch:=first | exact AM.dis | fail) only [af.sy,simprocAttr,-List.reduceReplicate,hF.all,AX,rsl,h0,h1,h2,h3,h4,h5,h6,hbig,Gm,yF,mF,c1,hb,hh,hd,ab8,hj,h7,h8,h9,hpu,Nat.sub_zero,hdv,hsl,e1,e2,oS (C3 _ _ _)]
theorem Td{s:Value}(hF:Fit hp.length L H) :
  aN env (.func 230) [s,.int .i64 0] ⟨hp,L,H,d⟩=some (.slice (some ⟨hp.length,0,some 0⟩) 0 1,⟨hp++[.cells 0 true []],L,H,d⟩):=by
 rw [aA 230 _ _ Ym]
 have h0:small 0=true:=rfl
 simp (disch:=first | exact AM.dis | fail) only [af.sy,simprocAttr,-List.reduceReplicate,hF.all,AX,h0,oS (kj.plain 0 [])]
end
end TsB
end Go.Proofs.YtgdpefeomemllaaGreat
section
namespace Go.Proofs.YtgdpefeomemllaaGreat
namespace AM
open Go
def iL(l:List Nat):Prop:=∀ b∈l,b < 2
theorem iL.nil:iL []:=fun b h=>by cases h
theorem iL.append{l m:List Nat}(h:iL l)(k:iL m):iL (l++m):=fun x hx=>(List.mem_append.1 hx).elim (h x) (k x)
theorem iL.one{b:Nat}(h:b < 2):iL [b]:=fun x hx=>by simp at hx;omega
def g(l:List Nat)(p:Nat):Nat:=l.getD p 0
def byt(l:List Nat)(i:Nat):Nat:=128*g l (8*i)+64*g l (8*i+1)+32*g l (8*i+2)+16*g l (8*i+3)+8*g l (8*i+4)+4*g l (8*i+5)+2*g l (8*i+6)+g l (8*i+7)
def nb(l:List Nat):Nat:=(l.length+7) / 8
def ab9(l:List Nat)(n:Nat):List Nat:=(List.range n).map (byt l)
def adA(l:List Nat):List Nat:=ab9 l (nb l)
end AM
end Go.Proofs.YtgdpefeomemllaaGreat
end
section
namespace Go.Proofs.YtgdpefeomemllaaGreat
namespace Bt
open Go Go.RowKit AM af
def Wr(k:Nat)(l:List Nat):Blk:=.cells 0 false [if l.length=0 then .slice none 0 0 else .slice (some ⟨k,0,some (nb l)⟩) (nb l) 1,.int .i64 l.length]
def Wb(l:List Nat):Blk:=.cells (nb l) true (u8s (adA l))
theorem LC(n k:Nat):plc n [n+k] (n+k)=n:=by
 have:¬ n+k < n:=by omega
 simp [plc,this]
structure Ws(hp:List Blk)(L:Nat)(H:List Nat)(a k:Nat)(l:List Nat):Prop where
 w:hp[a]?=some (Wr k l)
 b:l.length≠0->hp[k]?=some (Wb l)
 k0:l.length=0->k=hp.length
 aL:L<=a
 kL:L<=k
 aH:H.contains a=false
 kH:H.contains k=false
 ne:a≠k
 bits:iL l
end Bt
end Go.Proofs.YtgdpefeomemllaaGreat
end
section
namespace Go.Proofs.YtgdpefeomemllaaGreat
namespace Bt
open Go Go.RowKit AM af
section
variable{hp:List Blk}{L:Nat}{H:List Nat}{a k:Nat}{l m:List Nat}
theorem Ws.lt(w:Ws hp L H a k l):a < hp.length:=(List.getElem?_eq_some_iff.1 w.w).1
end
end Bt
end Go.Proofs.YtgdpefeomemllaaGreat
end
section
namespace Go.Proofs.YtgdpefeomemllaaGreat
namespace Bt
open Go Go.RowKit AM af
section
variable{hq:List Blk}{L:Nat}{H:List Nat}{a k:Nat}{l m:List Nat}
theorem Te(fr:Fr):(fr.map (·.1)).zip (fr.map (·.2))=fr:=by
 induction fr with
 | nil=>rfl
 | cons x fr ih=>simp only [List.map_cons,List.zip_cons_cons,ih]
end
end Bt
end Go.Proofs.YtgdpefeomemllaaGreat
end
section
namespace Go.Proofs.YtgdpefeomemllaaGreat
namespace Bt
open Go Go.RowKit AM af
variable{hp:List Blk}{L:Nat}{H:List Nat}{a k:Nat}{l m:List Nat}
end Bt
end Go.Proofs.YtgdpefeomemllaaGreat
end
section
namespace Go.Proofs.YtgdpefeomemllaaGreat
namespace Bt
open Go Go.RowKit AM af
variable{hp:List Blk}{L:Nat}{H:List Nat}{a k:Nat}{l m:List Nat}
structure Wv(hp:List Blk)(H:List Nat)(a k:Nat)(l:List Nat):Prop where
 w:hp[a]?=some (Wr k l)
 b:l.length≠0->hp[k]?=some (Wb l)
 aH:H.contains a=false
 kH:l.length≠0->H.contains k=false
 bits:iL l
end Bt
end Go.Proofs.YtgdpefeomemllaaGreat
end
section
namespace Go.Proofs.YtgdpefeomemllaaGreat
namespace Bt
open Go Go.RowKit AM af
variable{hp:List Blk}{L:Nat}{H:List Nat}{a k:Nat}{l m:List Nat}
def is(l:List Nat):List Value:=l.map fun n:Nat=>.int .i64 (n:Int)
theorem oT(l:List Nat):(is l).length=l.length:=by simp [is]
theorem Yo(l:List Nat):(is l).all sc=true:=by simp [is,AM.sc]
theorem Gt(l:List Nat):(is l).all aW=true:=by simp [is,aW,AM.sc]
def slI(k:Nat)(l:List Nat):Value:=if l.length=0 then .slice none 0 0 else .slice (some ⟨k,0,some l.length⟩) l.length 1
def ji(l:List Nat):List Blk:=if l.length=0 then [] else [.cells l.length true (is l)]
theorem mR{L:Nat}{H d:List Nat}{m:List Nat}(h0:m.length≠0)(hs:m.length<=1048576):St.append ⟨hp,L,H,d⟩ true 1 (.slice none 0 0) m.length (is m)=some (.slice (some ⟨hp.length,0,some m.length⟩) m.length 1,⟨hp++[.cells m.length true (is m)],L,H,d⟩):=by
 have hsm:small m.length=true:=by simp [small,hs]
 simp [St.append,h0,hsm,Yo,Gt]
theorem jL{L:Nat}{H d:List Nat}{b:Nat}{l m:List Nat}(hb:hp[b]?=some (.cells l.length true (is l)))(hL:L<=b)(hh:H.contains b=false)(h0:m.length≠0)(hs:l.length+m.length<=1048576) :
  St.append ⟨hp,L,H,d⟩ true 1 (.slice (some ⟨b,0,some l.length⟩) l.length 1) m.length (is m)=some (.slice (some ⟨b,0,some (l.length+m.length)⟩) (l.length+m.length) 1,⟨hp.set b (.cells (l.length+m.length) true (is (l++m))),L,H,d⟩):=by
 have hsm:small (l.length+m.length)=true:=by simp [small,hs]
 have hbl:St.blk ⟨hp,L,H,d⟩ ⟨b,0,some l.length⟩=some (true,is l):=by unfold St.blk;rw [hh,hb];simp
 have hnl:¬ b < L:=by omega
 simp [St.append,h0,hsm,Yo,Gt,hbl,hnl,oT,bA]
 simp [is]
end Bt
end Go.Proofs.YtgdpefeomemllaaGreat
end
namespace Go.Proofs.YtgdpefeomemllaaGreat
namespace TsC
open Go Go.RowKit AM af LtA SyP TmM TsA TsB Bt
def dgA:aC:=.region [D 4 (.mv (T 13))]
def dgB:aC:=.block 1 (.region [D 14 (.load none (T 2)),D 15 (.mv (T 4)),D 16 (.bS true 1 1 [(.int .i64 0)] [(0,1,(T 15))]),D 17 (.append true 1 (T 14) (T 16)),E (.store 1 (T 2) (T 17))])
section
variable{hp:List Blk}{L:Nat}{H d:List Nat}
theorem Oh(n:Nat)(hF:Fit hp.length L H) :
  aN env (.func 189) [.int .i64 n] ⟨hp,L,H,d⟩=some (.func (.func 232) #[] #[.pointer (some ⟨hp.length,0,some 0⟩)],⟨hp++[.cells 0 true [.int .i64 n]],L,H,d⟩):=by
 rw [aA 189 _ _ abq]
 simp (disch:=first | exact AM.dis | fail) only [af.sy,simprocAttr,-List.reduceReplicate,hF.all,Ld]
 rw [gA 0 rfl (by simp [refs,aT,aG]) (by simp [refs,aT,aG])]
 have h1:AM.one hp.length hp.length hp.length=hp.length:=Rz
 simp only [Nat.add_zero,ren,fm,cQ,List.map_cons,List.map_nil,h1]
 simp (disch:=first | exact AM.dis | fail) only [af.sy,simprocAttr,-List.reduceReplicate]
def dgS(hp:List Blk)(l:List Nat)(v:Nat):List Blk:=hp++.cells 0 false [slI (hp.length+2) l]::.cells 0 true [.int .i64 v]::ji l
def dgD(b:Nat)(l:List Nat):List Nat:=if l.length=0 then [] else [b]
theorem fS(k:Nat):slI k []=.slice none 0 0:=rfl
theorem eC:ji []=[]:=rfl
theorem Gu{x v:Nat}{fr:Fr}(hF:Fit hp.length L H)(h2:fr.get 2=some (.pointer (some ⟨hp.length,0,some 0⟩))) :
  aN (.yl env [13] dgA dgB fr) (.yield 0) [.int .i64 x] ⟨hp++[.cells 0 false [.slice none 0 0],.cells 0 true [.int .i64 v]],L,H,[]⟩=some (.bool true,⟨hp++[.cells 0 false [.slice (some ⟨hp.length+2,0,some 1⟩) 1 1],.cells 0 true [.int .i64 v],.cells 1 true [.int .i64 x]],L,H,[hp.length]⟩):=by
 rw [AD _ _ _ _ _ _ _ ⟨rfl,rfl⟩]
 have hs1:small 1=true:=by decide
 have ha:=fun nw=>mR (hp:=hp++nw) (L:=L) (H:=H) (d:=[]) (m:=[x]) (by simp) (by simp)
 simp only [is,List.map_cons,List.map_nil,List.length_cons,List.length_nil,Nat.zero_add,List.length_append] at ha
 simp (disch:=first | exact AM.dis | fail) only [af.sy,simprocAttr,-List.reduceReplicate,hF.all,dgA,dgB,List.zip_cons_cons,List.zip_nil_left,h2,ha,hs1]
 have G:=LB (base:=hp.length+2) (a:=hp.length) (k:=1) (vs:=[]) (L:=L) (H:=H) (h:=hp++[.cells 0 false [.slice (some ⟨hp.length+3,0,some 1⟩) 1 1],.cells 0 true [.int .i64 v]]) (nw:=[.cells 0 true [.int .i64 x],.cells 1 true [.int .i64 x]]) (by simp) (by simp) (bY _) (by simp [cN,aG]) rfl
 have hr:fB (plc (hp.length+2) [hp.length+2+1]) (.cells 0 false [.slice (some ⟨hp.length+3,0,some 1⟩) 1 1])=.cells 0 false [.slice (some ⟨hp.length+2,0,some 1⟩) 1 1]:=by
  simp only [fB,List.map_cons,List.map_nil,cQ]
  rw [show hp.length+3=hp.length+2+1 by omega,LC]
 rw [hr,fL,List.append_assoc,List.append_assoc] at G
 simp only [List.cons_append,List.nil_append] at G
 rw [G]
 rfl
theorem Jy{x v:Nat}{l:List Nat}{fr:Fr}(hl:l≠[])(hs:l.length<=100)(hF:Fit hp.length L H)(h2:fr.get 2=some (.pointer (some ⟨hp.length,0,some 0⟩))) :
  aN (.yl env [13] dgA dgB fr) (.yield 0) [.int .i64 x] ⟨dgS hp l v,L,H,[hp.length]⟩=some (.bool true,⟨dgS hp (l++[x]) v,L,H,[hp.length]⟩):=by
 have h0:¬ l.length=0:=by cases l<;>simp at hl ⊢
 have h0':¬ (l++[x]).length=0:=by simp
 unfold dgS slI ji
 rw [if_neg h0,if_neg h0,if_neg h0',if_neg h0']
 rw [AD _ _ _ _ _ _ _ ⟨rfl,rfl⟩]
 have hs1:small 1=true:=by decide
 have ha:=fun nw d=>jL (hp:=hp++.cells 0 false [.slice (some ⟨hp.length+2,0,some l.length⟩) l.length 1]::.cells 0 true [.int .i64 v]::.cells l.length true (is l)::nw) (L:=L) (H:=H) (d:=d) (b:=hp.length+2) (l:=l) (m:=[x]) (by rw [b7];rfl) (by have:=hF.1;omega) (hF.jB 2) (by simp) (by simp;omega)
 simp only [is,List.map_cons,List.map_nil,List.length_cons,List.length_nil,Nat.zero_add,List.length_append] at ha
 simp (disch:=first | exact AM.dis | fail) only [af.sy,simprocAttr,-List.reduceReplicate,hF.all,dgA,dgB,List.zip_cons_cons,List.zip_nil_left,h2,is,ha,hs1]
 have G:=S9 (base:=hp.length+3) (vs:=[]) (d:=[hp.length]) (L:=L) (H:=H) (h:=hp++[.cells 0 false [.slice (some ⟨hp.length+2,0,some (l.length+1)⟩) (l.length+1) 1],.cells 0 true [.int .i64 v],.cells (l.length+1) true (List.map (fun n:Nat=>Value.int IntKind.i64 (n:Int)) (l++[x]))]) (nw:=[.cells 0 true [.int .i64 x]]) (by simp) (by simp) (by simp) (by
  intro t ht r hr
  simp only [List.mem_cons,List.not_mem_nil,or_false] at ht
  subst ht
  unfold aQ at hr
  rw [bY] at hr
  simp [cN,aG] at hr
  omega)
 rw [List.append_assoc] at G
 simp only [List.cons_append,List.nil_append] at G
 rw [G]
 simp only [Cv,aR,List.contains_cons,BEq.rfl,Bool.true_or,if_true]
theorem Yq{m:List Nat}{w:Nat}(hm:m≠[]){vs:List Value}(hv:∀ v∈vs,∀ r∈refs v,r < hp.length+2) :
  gc (hp.length+2) vs ⟨hp++[.cells 0 false [.slice (some ⟨hp.length+2,0,some m.length⟩) m.length 1],.cells 0 true [.int .i64 w],.cells m.length true (is m)],L,H,[hp.length]⟩=some (vs,⟨hp++[.cells 0 false [.slice (some ⟨hp.length+2,0,some m.length⟩) m.length 1],.cells 0 true [.int .i64 w],.cells m.length true (is m)],L,H,[hp.length]⟩):=by
 have G:=LB (base:=hp.length+2) (a:=hp.length) (k:=0) (vs:=vs) (L:=L) (H:=H) (h:=hp++[.cells 0 false [.slice (some ⟨hp.length+2,0,some m.length⟩) m.length 1],.cells 0 true [.int .i64 w]]) (nw:=[.cells m.length true (is m)]) (by simp) hv (bY _) (by simp [cN,aG]) rfl
 have hr:fB (plc (hp.length+2) [hp.length+2+0]) (.cells 0 false [.slice (some ⟨hp.length+2,0,some m.length⟩) m.length 1])=.cells 0 false [.slice (some ⟨hp.length+2,0,some m.length⟩) m.length 1]:=by
  simp only [fB,List.map_cons,List.map_nil,cQ]
  rw [show hp.length+2=hp.length+2+0 by omega,LC]
 rw [hr,fL,List.append_assoc] at G
 simp only [List.cons_append,List.nil_append] at G
 exact G
theorem Wl{m:List Nat}{w:Nat}(hm:m≠[]){fr:Fr}(hv:∀ p∈fr,∀ r∈refs p.2,r < hp.length+2) :
  gQ (hp.length+2) fr ⟨dgS hp m w,L,H,[hp.length]⟩=some (fr,⟨dgS hp m w,L,H,[hp.length]⟩):=by
 have h0:¬ m.length=0:=by cases m<;>simp at hm ⊢
 unfold dgS slI ji
 rw [if_neg h0,if_neg h0]
 unfold gQ
 rw [Yq hm (fun v h1 r h2=>by
  obtain ⟨p,hp',rfl⟩:=List.mem_map.1 h1
  exact hv p hp' r h2)]
 simp only [Option.map_some,Te]
theorem Wm(n:Nat)(h:n<=2147483647):yg 64 (n:Int) 1=(n%2:Nat):=by
 have:=mask 64 (n:Int) 1 (by omega) (by omega) (by omega)
 unfold yg
 rw [show (1:Int)=((2 ^ 1 - 1:Nat):Int) by decide,this]
 omega
def dgF(hp:List Blk):Fr:=[(1,.pointer (some ⟨hp.length+1,0,some 0⟩)),(0,.func (.yield 0) #[] #[])]
theorem LD{fr:Fr}(hF:Fit hp.length L H)(h2:fr.get 2=some (.pointer (some ⟨hp.length,0,some 0⟩))):∀ (k v:Nat) (l:List Nat),v < 2 ^ k->v<=2147483647->l.length+k<=100->∃ fr',
  aX (.yl env [13] dgA dgB fr) vP [1,0] (hp.length+2) (dgF hp) ⟨dgS hp l v,L,H,dgD hp.length l⟩=some (.exit 0,fr',⟨dgS hp (l++dF v) 0,L,H,dgD hp.length (l++dF v)⟩)
 | k,0,l,_,_,_=>by
  rw [gK,List.append_nil]
  unfold dgF dgS
  rw [aB vP.eq_1]
  simp (disch:=first | exact AM.dis | fail) only [af.sy,simprocAttr,-List.reduceReplicate,hF.all]
  exact ⟨_,rfl⟩
 | 0,v+1,l,h,_,_=>by omega
 | k+1,v+1,l,h,hm,hk=>by
  rw [fR]
  obtain ⟨fr',ih⟩:=LD hF h2 k (v / 2) (l++[v%2]) (by omega) (by omega) (by simp;omega)
  refine ⟨fr',?_⟩
  rw [List.append_assoc] at ih
  have h1:(0:Int) < ((v+1:Nat):Int):=by omega
  have e1:((v+1:Nat):Int) - 1=(v:Int):=by omega
  have e2:=Wm v (by omega)
  have e3:(v:Int).fdiv 2=(v / 2:Nat):=by rw [yf _ (by decide)];omega
  have hd:dgD hp.length (l++[v%2])=[hp.length]:=by unfold dgD;rw [if_neg (by simp)]
  rw [hd] at ih
  have hg:=Wl (hp:=hp) (L:=L) (H:=H) (m:=l++[v%2]) (w:=v / 2) (by simp) (fr:=dgF hp) (by
   intro p hp' r hr
   simp only [dgF,List.mem_cons,List.not_mem_nil,or_false] at hp'
   rcases hp' with rfl | rfl
   ·simp [refs,aT,aG] at hr;omega
   ·simp [refs,aT] at hr)
  rw [aB vP.eq_1]
  by_cases hl:l=[]
  ·subst hl
   have hr:=fun w=>Gu (L:=L) (H:=H) (x:=v%2) (v:=w) hF h2
   simp only [List.nil_append,List.cons_append,dgS,dgF,ji,slI,dgD,List.length_cons,List.length_nil,Nat.zero_add,is,List.map_cons,List.map_nil,if_true,Nat.one_ne_zero,if_false] at hg ih hr ⊢
   simp (disch:=first | exact AM.dis | fail) only [af.sy,simprocAttr,-List.reduceReplicate,hF.all,h1,e1,e2,e3,hr,hg]
   have h9:¬ (dF (v / 2)).length+1=0:=by omega
   simp only [if_neg h9] at ih
   exact ih
  ·have hr:=fun w=>Jy (L:=L) (H:=H) (x:=v%2) (v:=w) hl (by omega) hF h2
   have h0:¬ l.length=0:=by cases l<;>simp at hl ⊢
   have h0':¬ (l++[v%2]).length=0:=by simp
   have hd0:dgD hp.length l=[hp.length]:=by unfold dgD;rw [if_neg h0]
   rw [hd0]
   have h9:¬ l.length+((dF (v / 2)).length+1)=0:=by omega
   have h9':¬ l.length+1=0:=by omega
   have hd1:dgD hp.length (l++v%2::dF (v / 2))=[hp.length]:=by unfold dgD;rw [if_neg (by simp)]
   simp only [List.cons_append,List.nil_append,hd1] at ih ⊢
   unfold dgS slI ji at hg hr ih ⊢
   unfold dgF at hg ih ⊢
   simp only [List.cons_append,List.nil_append,List.length_append,List.length_cons,List.length_nil,Nat.zero_add,if_neg h0,if_neg h9',if_neg h9,Int.natCast_zero] at hg hr ih ⊢
   simp (disch:=first | exact AM.dis | fail) only [af.sy,simprocAttr,-List.reduceReplicate,hF.all,h1,e1,e2,e3,hr,hg]
   exact ih
theorem Wn{base:Nat}{vs:List Value}{h:List Blk}{D:List Nat}(hD:∀ t∈D,base<=t)(hl:base < h.length):gc base vs ⟨h,L,H,D⟩=gc base vs ⟨h,L,H,[]⟩:=by
 have e:D.filter (· < base)=[]:=List.filter_eq_nil_iff.2 fun t ht=>by have:=hD t ht;simp;omega
 have e2:([]:List Nat).filter (· < base)=[]:=rfl
 unfold gc lX
 simp only [e,e2]
 rw [if_neg (by omega),if_neg (by omega)]
theorem uR{n:Nat}(hn:n<=2147483647)(hF:Fit hp.length L H) :
  aN env (.func 141) [.int .i64 n] ⟨hp,L,H,d⟩=some (.tuple #[slI hp.length (dF n),.int .i64 0],⟨hp++ji (dF n),L,H,d⟩):=by
 rw [aA 141 _ _ abe]
 have hdn:=fun hp d hF=>Oh (hp:=hp) (L:=L) (H:=H) (d:=d) n hF
 have h1:¬ (n:Int) < 0:=by omega
 have h2:¬ (n:Int) > 2147483647:=by omega
 have hl:=fun fr h2=>LD (fr:=fr) (hp:=hp) (L:=L) (H:=H) hF h2 31 n [] (by omega) hn (by decide)
 simp only [dgS,fS,eC,List.nil_append,dgF,dgA,dgB,D,T,E] at hl
 have hd0:dgD hp.length []=[]:=rfl
 rw [hd0] at hl
 simp (disch:=first | exact AM.dis | fail) only [af.sy,simprocAttr,-List.reduceReplicate,hF.all,La,h1,h2,hdn]
 obtain ⟨fr',hl⟩:=hl [(12,.func (.func 232) #[] #[.pointer (some ⟨hp.length+1,0,some 0⟩)]),(11,.int .i64 n),(10,.bool false),(9,.bool false),(8,.int .i64 n),(7,.bool false),(6,.bool false),(5,.int .i64 n),(3,.int .i64 0),(2,.pointer (some ⟨hp.length,0,some 0⟩)),(0,.int .i64 n)] rfl
 rw [hl]
 by_cases h0:(dF n).length=0
 ·have:dF n=[]:=List.eq_nil_of_length_eq_zero h0
  rw [this]
  simp (disch:=first | exact AM.dis | fail) only [af.sy,simprocAttr,-List.reduceReplicate,hF.all,fS,eC,dgD]
 ·have hd1:dgD hp.length (dF n)=[hp.length]:=by unfold dgD;rw [if_neg h0]
  rw [hd1]
  unfold slI ji
  rw [if_neg h0,if_neg h0,if_neg h0]
  have hj:aR [] [hp.length]=[hp.length]:=rfl
  have G:=Yq (hp:=hp) (L:=L) (H:=H) (m:=dF n) (w:=0) (vs:=[]) (by intro h;rw [h] at h0;exact h0 rfl) (by simp)
  simp only [Int.natCast_zero] at G
  simp (disch:=first | exact AM.dis | fail) only [af.sy,simprocAttr,-List.reduceReplicate,hF.all,hj,G]
  have hc:(if [hp.length].contains hp.length=true then [hp.length] else [hp.length,hp.length])=[hp.length]:=by simp
  rw [hc,Wn (by simp) (by simp),qt (k:=2) (g:=(dF n).length) (cs:=is (dF n)) rfl (by simp [refs,aT,aG]) (by simp [refs,aT,aG]) rfl]
  have h1:AM.one hp.length (hp.length+2) (hp.length+2)=hp.length:=dD
  simp only [ren,fm,cQ,List.map_cons,List.map_nil,h1]
  simp (disch:=first | exact AM.dis | fail) only [af.sy,simprocAttr,-List.reduceReplicate]
end
end TsC
namespace TsD
open Go Go.RowKit AM af LtA SyP TmM TsA TsB TsC Bt
def dm(l:List Nat)(r:Nat):List Value:=u8s l++[.int .i64 r]
section
variable{hp:List Blk}{L:Nat}{H d:List Nat}{l:List Nat}{r:Nat}
theorem dU(hl:l.length=256):(dm l r).length=257:=by simp [dm,u8s,hl]
theorem eR:(dm l r).all aW=true:=by simp [dm,cP,AM.aW,AM.sc]
theorem dA:(dm l r).all AM.sc=true:=by simp [dm,bW,AM.sc]
theorem eD:(dm l r).flatMap aG=[]:=by simp [dm,cK,aG]
theorem n4(hl:l.length=256):(dm l r)[256]?=some (.int .i64 r):=by
 unfold dm;rw [List.getElem?_append_right (by rw [aq];omega),aq,hl];rfl
theorem tG(hl:l.length=256):(dm l r).take 256=u8s l:=by
 unfold dm;rw [List.take_append_of_le_length (by rw [aq];omega),List.take_of_length_le (by rw [aq];omega)]
theorem Gv(hl:l.length=256){q:Nat} : (dm l r).set 256 (.int .i64 q)=dm l q:=by
 unfold dm;rw [List.set_append_right _ _ (by rw [aq];omega),aq,hl];rfl
theorem yG(hl:l.length=256){m:List Nat}(hm:m.length=256):putAt (dm l r) 0 (u8s m)=dm m r:=by
 apply List.ext_getElem?
 intro j
 rw [dJ _ _ _ _ (by rw [dU hl,aq];omega),aq,hm,Nat.zero_add]
 unfold dm
 by_cases h:j < 256
 ·rw [if_pos ⟨Nat.zero_le _,h⟩,Nat.sub_zero,List.getElem?_append_left (by rw [aq];omega)]
 ·rw [if_neg (by omega),List.getElem?_append_right (by rw [aq];omega),List.getElem?_append_right (by rw [aq];omega),aq,aq,hl,hm]
theorem tH:∃ z:List Value,List.replicate 256 (Value.int .u8 0)++[.int .i64 0]=z/\z.length=257:=⟨_,rfl,by rw [List.length_append,List.length_replicate];rfl⟩
theorem Bb:∀ (xs ys:List Nat) (n:Nat) (r q:Nat),xs.length=n->ys.length=n->∃ b,bD (List.replicate (n+1) .nu) (u8s xs++[.int .i64 r]) (u8s ys++[.int .i64 q])=some b
 | [],[],0,r,q,_,_=>⟨((r:Int)==(q:Int))&&true,by simp only [u8s,List.map_nil,List.nil_append,List.replicate_succ,List.replicate_zero,bD,jk,if_true,Option.bind_some,Option.map_some]⟩
 | [],[],n+1,_,_,h,_=>by simp at h
 | x::xs,[],n,_,_,h,h'=>by simp at h h';omega
 | [],y::ys,n,_,_,h,h'=>by simp at h h';omega
 | x::xs,y::ys,0,_,_,h,_=>by simp at h
 | x::xs,y::ys,n+1,r,q,h,h'=>by
  obtain ⟨b,hb⟩:=Bb xs ys n r q (by simpa using h) (by simpa using h')
  refine ⟨((x:Int)==(y:Int))&&b,?_⟩
  have e:∀ k (v w:Value) vs ws,bD (List.replicate (k+1) .nu) (v::vs) (w::ws)=bD (.nu::List.replicate k .nu) (v::vs) (w::ws):=fun _ _ _ _ _=>rfl
  show bD (List.replicate (n+1+1) .nu) (.int .u8 (x:Int)::(u8s xs++[.int .i64 (r:Int)])) (.int .u8 (y:Int)::(u8s ys++[.int .i64 (q:Int)]))=_
  rw [e]
  simp only [bD,jk,if_true,Option.bind_some]
  rw [hb,Option.map_some]
theorem eE:bP.length=256:=by simp [bP]
theorem uS(hF:Fit hp.length L H):aN env (.func 72) [] ⟨hp,L,H,d⟩=some (.agg (dm bP 0).toArray,⟨hp,L,H,d⟩):=by
 rw [aA 72 _ _ adw]
 have hn:=fun hp d hF=>TsA.Gl (hp:=hp) (L:=L) (H:=H) (d:=d) hF
 have hu:(u8s bP).length=256:=by rw [aq,eE]
 obtain ⟨z,hz,hzl⟩:=tH
 have e0:u8s (List.replicate 256 0)=List.replicate 256 (.int .u8 0):=by unfold u8s;rw [List.map_replicate];rfl
 have e1:dm (List.replicate 256 0) 0=z:=by rw [<- hz,<- e0];rfl
 have hp0:putAt z 0 (u8s bP)=dm bP 0:=by
  have:=yG (l:=List.replicate 256 0) (r:=0) (m:=bP) List.length_replicate eE
  rw [e1] at this
  exact this
 have hp1:putAt z 0 (dm bP 0)=dm bP 0:=aS (by rw [hzl,dU eE])
 have hl:=dU (l:=bP) (r:=0) eE
 simp (disch:=first | exact AM.dis | fail) only [af.sy,simprocAttr,-List.reduceReplicate,hF.all,VY,hn,hz,hzl,hu,hp0,hp1,hl,av hl,av hu,cP,bW,eR,dA,eD]
theorem pM(hl:l.length=256)(h8:By l)(hv:vb l=true)(hr:r<=2147483647)(hF:Fit hp.length L H):aN env (.func 139) [.agg (dm l r).toArray] ⟨hp,L,H,d⟩=some (.bool true,⟨hp,L,H,d⟩):=by
 rw [aA 139 _ _ abc]
 have hn:=fun hp L H d hF=>uS (hp:=hp) (L:=L) (H:=H) (d:=d) hF
 have hm:=fun hp L H d hF=>nY (hp:=hp) (L:=L) (H:=H) (d:=d) hl h8 hF
 have hel:=dU (r:=r) hl
 have hrun:=n4 (r:=r) hl
 have pO:=tG (r:=r) hl
 have h1:(0:Int)<=(r:Int):=by omega
 have h2:(r:Int)<=2147483647:=by omega
 obtain ⟨b,hb⟩:=Bb l bP 256 r 0 hl eE
 have hb:bD (List.replicate 257 .nu) (dm l r) (dm bP 0)=some b:=hb
 have hu:(u8s l).length=256:=by rw [aq,hl]
 rw [hv] at hm
 cases b
 ·simp (disch:=first | exact AM.dis | fail) only [af.sy,simprocAttr,-List.reduceReplicate,hF.all,FO,hn,hm,hel,av hel,hrun,pO,h1,h2,hb,hu,av hu,eR,dA,eD,cP,bW,cK]
 ·simp (disch:=first | exact AM.dis | fail) only [af.sy,simprocAttr,-List.reduceReplicate,hF.all,FO,hn,hm,hel,av hel,hrun,pO,h1,h2,hb,hu,av hu,eR,dA,eD,cP,bW,cK]
end
end TsD
namespace TsE
open Go Go.RowKit AM af LtA SyP TmM TsA TsB TsC TsD Bt
section
variable{hp:List Blk}{L:Nat}{H d:List Nat}
theorem yH{x:Nat} : St.append ⟨hp,L,H,d⟩ true 1 (.slice none 0 0) 1 [.int .i64 (x:Int)]=some (.slice (some ⟨hp.length,0,some 1⟩) 1 1,⟨hp++[.cells 1 true (is [x])],L,H,d⟩):=
 mR (m:=[x]) (by simp) (by simp)
theorem rP{b n x:Nat}{l:List Nat}(hn:l.length=n)(hb:hp[b]?=some (.cells n true (is l)))(hL:L<=b)(hh:H.contains b=false)(hs:n+1<=1048576) :
  St.append ⟨hp,L,H,d⟩ true 1 (.slice (some ⟨b,0,some n⟩) n 1) 1 [.int .i64 (x:Int)]=some (.slice (some ⟨b,0,some (n+1)⟩) (n+1) 1,⟨hp.set b (.cells (n+1) true (is (l++[x]))),L,H,d⟩):=by
 subst hn
 exact jL (m:=[x]) hb hL hh (by simp) hs
theorem n5{a b k n:Nat}{cs:List Value}{c0 c1:Blk}{nw:List Blk}{v:Value}{i j:Int}(hk:nw[k]?=some (.cells n true cs))(hv:∀ r∈refs v,r < hp.length) :
  gQ (hp.length+2) [(27,.int .i64 i),(26,.int .i64 j),(4,.pointer (some ⟨hp.length+1,0,some 0⟩)),(25,v),(7,.slice (some ⟨hp.length+2+k,0,some n⟩) n 1),(2,.pointer (some ⟨hp.length,0,some 0⟩))] ⟨hp++c0::c1::nw,L,H,[]⟩
   = some ([(27,.int .i64 i),(26,.int .i64 j),(4,.pointer (some ⟨hp.length+1,0,some 0⟩)),(25,v),(7,.slice (some ⟨hp.length+2,0,some n⟩) n 1),(2,.pointer (some ⟨hp.length,0,some 0⟩))],⟨hp++[c0,c1,.cells n true cs],L,H,[]⟩):=by
 unfold gQ
 have e:hp++c0::c1::nw=(hp++[c0,c1])++nw:=by simp
 have hl:(hp++[c0,c1]).length=hp.length+2:=by simp
 have G:=qt (h:=hp++[c0,c1]) (nw:=nw) (k:=k) (L:=L) (H:=H) (d:=[]) (vs:=List.map (·.2) [(27,.int .i64 i),(26,.int .i64 j),(4,.pointer (some ⟨hp.length+1,0,some 0⟩)),(25,v),(7,.slice (some ⟨hp.length+2+k,0,some n⟩) n 1),(2,.pointer (some ⟨hp.length,0,some 0⟩))]) hk (by
  intro u hu r hr
  rw [hl]
  simp only [List.map_cons,List.map_nil,List.mem_cons,List.not_mem_nil,or_false] at hu
  rcases hu with rfl | rfl | rfl | rfl | rfl | rfl
  ·simp [refs,aT,aG] at hr
  ·simp [refs,aT,aG] at hr
  ·simp [refs,aT,aG] at hr;omega
  ·have:=hv r hr;omega
  ·simp [refs,aT,aG] at hr;omega
  ·simp [refs,aT,aG] at hr;omega) ⟨.slice (some ⟨hp.length+2+k,0,some n⟩) n 1,by simp,by rw [hl];simp [refs,aT,aG]⟩ rfl
 rw [hl] at G
 rw [e,G]
 have o1:AM.one (hp.length+2) (hp.length+2+k) (hp.length+1)=hp.length+1:=iW (by omega)
 have o0:AM.one (hp.length+2) (hp.length+2+k) hp.length=hp.length:=iW (by omega)
 have o2:AM.one (hp.length+2) (hp.length+2+k) (hp.length+2+k)=hp.length+2:=dD
 have o3:ren (AM.one (hp.length+2) (hp.length+2+k)) v=v:=yE fun r hr=>iW (by have:=hv r hr;omega)
 simp only [Option.map_some,List.map_cons,List.map_nil,List.zip_cons_cons,List.zip_nil_left,o3]
 simp only [ren,fm,cQ,o0,o1,o2,List.append_assoc,List.cons_append,List.nil_append]
def C5(hp:List Blk)(v:Value)(n:Nat)(i:Nat)(sl:Value):Fr:=[(27,.int .i64 i),(26,.int .i64 n),(4,.pointer (some ⟨hp.length+1,0,some 0⟩)),(25,v),(7,sl),(2,.pointer (some ⟨hp.length,0,some 0⟩))]
theorem Tg{x:List Nat}{a:Option Addr}{e n:Nat}(hR:Rd ⟨hp,L,H,[]⟩ (.slice a n e) x)(hxs:x.length<=1000000){i:Nat}(hi:i < x.length){l:List Nat}(hl:Bl l){r:Nat}(hr:r<=2147483000){o:List Nat}(ho:o.length<=500000){c1:Blk}(hF:Fit hp.length L H)
  (hp0:(SyP.ef l (x[i])).2=0) :
  aX env mH [27,26,4,25,7,2] (hp.length+2) (C5 hp (.slice a n e) n i (slI (hp.length+2) o)) ⟨hp++.cells 0 true (dm l r)::c1::ji o,L,H,[]⟩
  = aX env mH [27,26,4,25,7,2] (hp.length+2) (C5 hp (.slice a n e) n (i+1) (slI (hp.length+2) o)) ⟨hp++.cells 0 true (dm (SyP.ef l (x[i])).1 (r+1))::c1::ji o,L,H,[]⟩:=by
 obtain ⟨b,of,g,pl,cs,rfl,rfl,hh,hb,hc⟩:=hR.at_ hi
 have hbl:=(List.getElem?_eq_some_iff.1 hb).1
 have hx:x[i] < 256:=hR.by_ _ (List.getElem_mem hi)
 have hp1:=fun hp L H d hF=>Gi (hp:=hp) (L:=L) (H:=H) (d:=d) hl.len (fun b hb=>hl.mem.1 hb) hx (hl.mem.2 hx) hF
 have h1:(i:Int) < x.length:=by omega
 have h2:0<=(i:Int)/\(i:Int) < x.length:=by omega
 have hml:(SyP.ef l x[i]).1.length=256:=mO hl.len (hl.idx hx)
 have hel:=dU (r:=r) hl.len
 have bN:=dU (r:=r) hml
 have vo:=dU (r:=r+1) hml
 have pO:=tG (r:=r) hl.len
 have hput:=yG (r:=r) hl.len hml
 have hrun:=n4 (r:=r) hml
 have cY:=Gv (r:=r) (q:=r+1) hml
 have hu:(u8s (SyP.ef l x[i]).1).length=256:=by rw [aq,hml]
 rw [hp0] at hp1
 generalize (SyP.ef l x[i]).1=l' at *
 generalize x[i]=c at *
 unfold C5
 rw [aB mH.eq_1]
 simp only [Int.natCast_add,Int.natCast_one] at cY ⊢
 by_cases h0:o=[]
 ·subst h0
  simp (disch:=first | exact AM.dis | fail) only [af.sy,simprocAttr,-List.reduceReplicate,hF.all,fS,eC,h1,h2,hb,hh,hc,hp1,hel,bN,pO,hput,hrun,cY,hu,av hu,cP,bW,eR,dA]
 ·have ho0:¬ o.length=0:=by cases o<;>simp at h0 ⊢
  have hv:∀ r∈refs (.slice (some ⟨b,of,some g⟩) x.length e),r < hp.length:=hR.refs
  unfold slI ji
  simp only [if_neg ho0]
  have hg:=fun c0 c1 i'=>n5 (hp:=hp) (L:=L) (H:=H) (a:=0) (b:=0) (k:=0) (n:=o.length) (cs:=is o) (c0:=c0) (c1:=c1) (nw:=[.cells o.length true (is o)]) (i:=i') (j:=(x.length:Int)) rfl hv
  simp only [Nat.add_zero] at hg
  simp (disch:=first | exact AM.dis | fail) only [af.sy,simprocAttr,-List.reduceReplicate,hF.all,h1,h2,hb,hh,hc,hp1,hel,bN,pO,hput,hrun,cY,hu,av hu,cP,bW,eR,dA,hg]
theorem gM{k N:Nat}{W:List Nat}(h:W.length=N)(h0:N≠0):slI k W=.slice (some ⟨k,0,some N⟩) N 1:=by
 subst h;unfold slI;rw [if_neg h0]
theorem eF{N:Nat}{W:List Nat}(h:W.length=N)(h0:N≠0):ji W=[.cells N true (is W)]:=by
 subst h;unfold ji;rw [if_neg h0]
theorem Oi{x:List Nat}{a:Option Addr}{e n:Nat}(hR:Rd ⟨hp,L,H,[]⟩ (.slice a n e) x)(hxs:x.length<=1000000){i:Nat}(hi:i < x.length){l:List Nat}(hl:Bl l){r:Nat}(hr:r<=2147483000){o:List Nat}(ho:o.length+(dF r).length<=1000000){c1:Blk}(hF:Fit hp.length L H)
  (hp0:(SyP.ef l (x[i])).2≠0) :
  aX env mH [27,26,4,25,7,2] (hp.length+2) (C5 hp (.slice a n e) n i (slI (hp.length+2) o)) ⟨hp++.cells 0 true (dm l r)::c1::ji o,L,H,[]⟩
  = aX env mH [27,26,4,25,7,2] (hp.length+2) (C5 hp (.slice a n e) n (i+1) (slI (hp.length+2) (o++(dF r++[(SyP.ef l (x[i])).2+1])))) ⟨hp++.cells 0 true (dm (SyP.ef l (x[i])).1 0)::c1::ji (o++(dF r++[(SyP.ef l (x[i])).2+1])),L,H,[]⟩:=by
 obtain ⟨b,of,g,pl,cs,rfl,rfl,hh,hb,hc⟩:=hR.at_ hi
 have hbl:=(List.getElem?_eq_some_iff.1 hb).1
 have hx:x[i] < 256:=hR.by_ _ (List.getElem_mem hi)
 have hp1:=fun hp L H d hF=>Gi (hp:=hp) (L:=L) (H:=H) (d:=d) hl.len (fun b hb=>hl.mem.1 hb) hx (hl.mem.2 hx) hF
 have h1:(i:Int) < x.length:=by omega
 have h2:0<=(i:Int)/\(i:Int) < x.length:=by omega
 have hml:(SyP.ef l x[i]).1.length=256:=mO hl.len (hl.idx hx)
 have hpl:(SyP.ef l x[i]).2 < 256:=hl.idx hx
 have hel:=dU (r:=r) hl.len
 have bN:=dU (r:=r) hml
 have vo:=dU (r:=0) hml
 have pO:=tG (r:=r) hl.len
 have hput:=yG (r:=r) hl.len hml
 have hrun:=n4 (r:=r) hml
 have cY:=Gv (r:=r) (q:=0) hml
 have hu:(u8s (SyP.ef l x[i]).1).length=256:=by rw [aq,hml]
 have hdg:=fun hp d hF=>uR (hp:=hp) (L:=L) (H:=H) (d:=d) (n:=r) (by omega) hF
 have hv:∀ r∈refs (.slice (some ⟨b,of,some g⟩) x.length e),r < hp.length:=hR.refs
 have hs1:small 1=true:=by decide
 have hF2:=hF.1
 generalize (SyP.ef l x[i]).1=l' at *
 generalize (SyP.ef l x[i]).2=p at *
 generalize x[i]=c at *
 generalize dF r=G at *
 have Wo:(p:Int)+1=((p+1:Nat):Int):=by omega
 have hpz:¬ (p:Int)=0:=by omega
 have hil:=oT G
 unfold C5
 rw [aB mH.eq_1]
 simp only [Int.natCast_add,Int.natCast_one,Int.natCast_zero] at cY ⊢
 by_cases h0:o=[]
 ·subst h0
  by_cases hG:G=[]
  ·subst hG
   have hN:([]++([]++[p+1]):List Nat).length=1:=rfl
   rw [gM hN (by decide),eF hN (by decide)]
   have ha:=fun nw=>yH (hp:=hp++nw) (L:=L) (H:=H) (d:=[]) (x:=p+1)
   simp only [List.length_append] at ha
   have hg:=fun c0 c1 i' c2=>n5 (hp:=hp) (L:=L) (H:=H) (a:=0) (b:=0) (k:=1) (n:=1) (cs:=is [p+1]) (c0:=c0) (c1:=c1) (nw:=[c2,.cells 1 true (is [p+1])]) (i:=i') (j:=(x.length:Int)) rfl hv
   simp only [Nat.add_assoc,Nat.reduceAdd] at hg
   simp (disch:=first | exact AM.dis | fail) only [af.sy,simprocAttr,-List.reduceReplicate,hF.all,fS,eC,h1,h2,hb,hh,hc,hp1,hel,bN,pO,hput,hrun,cY,hu,av hu,cP,bW,eR,dA,hdg,hpz,Wo,hs1,ha,jg,hg]
  ·have hG0:¬ G.length=0:=by cases G<;>simp at hG ⊢
   have hN:([]++(G++[p+1]):List Nat).length=G.length+1:=by simp
   rw [gM hN (by omega),eF hN (by omega)]
   unfold slI ji at hdg
   simp only [if_neg hG0] at hdg
   have ha0:=fun nw=>mR (hp:=hp++nw) (L:=L) (H:=H) (d:=[]) (m:=G) hG0 (by simp at ho;omega)
   have ha:=fun c0 c2 nw=>rP (hp:=hp++c0::c1::c2::.cells G.length true (is G)::nw) (L:=L) (H:=H) (d:=[]) (x:=p+1) (b:=hp.length+3) (l:=G) rfl (by rw [b7];rfl) (by omega) (hF.jB 3) (by simp at ho;omega)
   simp only [List.length_append] at ha0
   have hg:=fun c0 c1 i' c2 c3=>n5 (hp:=hp) (L:=L) (H:=H) (a:=0) (b:=0) (k:=1) (n:=G.length+1) (cs:=is (G++[p+1])) (c0:=c0) (c1:=c1) (nw:=[c2,.cells (G.length+1) true (is (G++[p+1])),c3]) (i:=i') (j:=(x.length:Int)) rfl hv
   simp only [Nat.add_assoc,Nat.reduceAdd] at hg
   simp (disch:=first | exact AM.dis | fail) only [af.sy,simprocAttr,-List.reduceReplicate,hF.all,fS,eC,h1,h2,hb,hh,hc,hp1,hel,bN,pO,hput,hrun,cY,hu,av hu,cP,bW,eR,dA,hdg,hpz,Wo,hs1,hil,av hil,ha0,ha,hg]
 ·have ho0:¬ o.length=0:=by cases o<;>simp at h0 ⊢
  have hio:=oT o
  by_cases hG:G=[]
  ·subst hG
   have hN:(o++([]++[p+1]):List Nat).length=o.length+1:=by simp
   rw [gM hN (by omega),eF hN (by omega),gM rfl ho0,eF rfl ho0]
   have ha:=fun c0 nw=>rP (hp:=hp++c0::c1::.cells o.length true (is o)::nw) (L:=L) (H:=H) (d:=[]) (x:=p+1) (b:=hp.length+2) (l:=o) rfl (by rw [b7];rfl) (by omega) (hF.jB 2) (by simp at ho;omega)
   have hg:=fun c0 c1 i' c3=>n5 (hp:=hp) (L:=L) (H:=H) (a:=0) (b:=0) (k:=0) (n:=o.length+1) (cs:=is (o++[p+1])) (c0:=c0) (c1:=c1) (nw:=[.cells (o.length+1) true (is (o++[p+1])),c3]) (i:=i') (j:=(x.length:Int)) rfl hv
   simp only [Nat.add_zero] at hg
   simp (disch:=first | exact AM.dis | fail) only [af.sy,simprocAttr,-List.reduceReplicate,hF.all,fS,eC,h1,h2,hb,hh,hc,hp1,hel,bN,pO,hput,hrun,cY,hu,av hu,cP,bW,eR,dA,hdg,hpz,Wo,hs1,jh,ha,hg]
  ·have hG0:¬ G.length=0:=by cases G<;>simp at hG ⊢
   have hN:(o++(G++[p+1]):List Nat).length=o.length+G.length+1:=by simp;omega
   rw [gM hN (by omega),eF hN (by omega),gM rfl ho0,eF rfl ho0]
   unfold slI ji at hdg
   simp only [if_neg hG0] at hdg
   have ha0:=fun c0 nw=>jL (hp:=hp++c0::c1::.cells o.length true (is o)::nw) (L:=L) (H:=H) (d:=[]) (b:=hp.length+2) (l:=o) (m:=G) (by rw [b7];rfl) (by omega) (hF.jB 2) hG0 (by omega)
   have hoG:(o++G).length=o.length+G.length:=List.length_append
   have ha:=fun c0 nw=>rP (hp:=hp++c0::c1::.cells (o.length+G.length) true (is (o++G))::nw) (L:=L) (H:=H) (d:=[]) (x:=p+1) (b:=hp.length+2) (l:=o++G) hoG (by rw [b7];rfl) (by omega) (hF.jB 2) (by omega)
   have hg:=fun c0 c1 i' c2 c3=>n5 (hp:=hp) (L:=L) (H:=H) (a:=0) (b:=0) (k:=0) (n:=o.length+G.length+1) (cs:=is (o++(G++[p+1]))) (c0:=c0) (c1:=c1) (nw:=[.cells (o.length+G.length+1) true (is (o++(G++[p+1]))),c2,c3]) (i:=i') (j:=(x.length:Int)) rfl hv
   simp only [Nat.add_zero] at hg
   rw [List.append_assoc] at ha
   simp (disch:=first | exact AM.dis | fail) only [af.sy,simprocAttr,-List.reduceReplicate,hF.all,fS,eC,h1,h2,hb,hh,hc,hp1,hel,bN,pO,hput,hrun,cY,hu,av hu,cP,bW,eR,dA,hdg,hpz,Wo,hs1,hil,av hil,ha0,ha,hg]
end
end TsE
namespace TsF
open Go Go.RowKit AM af LtA SyP TmM TsA TsB TsC TsD TsE Bt
theorem lM:∀ (k n:Nat),n<=k->(dF n).length<=n
 | k,0,_=>by rw [gK];simp
 | 0,n+1,h=>by omega
 | k+1,n+1,h=>by
  rw [fR]
  have:=lM k (n / 2) (by omega)
  simp only [List.length_cons]
  omega
theorem rQ:∀ (x l:List Nat) (r:Nat),Bl l->(∀ c∈x,c < 256)->Bl (eI l r x).2.1/\(eI l r x).2.2<=r+x.length/\(eI l r x).1.length+(eI l r x).2.2<=r+x.length
 | [],l,r,hl,_=>⟨hl,Nat.le_refl _,by simp [eI]⟩
 | c::x,l,r,hl,hx=>by
  have hc:=hx c (by simp)
  have hx':∀ c∈x,c < 256:=fun b hb=>hx b (by simp [hb])
  unfold eI
  split
  ·obtain ⟨h1,h2,h3⟩:=rQ x _ (r+1) (hl.take (hl.idx hc)) hx'
   exact ⟨h1,by simp only [List.length_cons];omega,by simp only [List.length_cons];omega⟩
  ·obtain ⟨h1,h2,h3⟩:=rQ x _ 0 (hl.take (hl.idx hc)) hx'
   have:=lM r r (Nat.le_refl _)
   exact ⟨h1,by simp only [List.length_cons];omega,by simp only [List.length_cons,List.length_append];omega⟩
section
variable{hp:List Blk}{L:Nat}{H d:List Nat}
theorem yI{x:List Nat}{a:Option Addr}{e n:Nat}(hR:Rd ⟨hp,L,H,[]⟩ (.slice a n e) x)(hxs:x.length<=100000){c1:Blk}(hF:Fit hp.length L H):∀ (k i:Nat) (l:List Nat) (r:Nat) (o:List Nat),i+k=x.length->Bl l->o.length+r+k<=500000->∃ fr,
  aX env mH [27,26,4,25,7,2] (hp.length+2) (C5 hp (.slice a n e) n i (slI (hp.length+2) o)) ⟨hp++.cells 0 true (dm l r)::c1::ji o,L,H,[]⟩
  = some (.exit 0,fr,⟨hp++.cells 0 true (dm (eI l r (x.drop i)).2.1 (eI l r (x.drop i)).2.2)::c1::ji (o++(eI l r (x.drop i)).1),L,H,[]⟩)
   /\ fr.get 7=some (slI (hp.length+2) (o++(eI l r (x.drop i)).1))/\fr.get 2=some (.pointer (some ⟨hp.length,0,some 0⟩))/\fr.get 4=some (.pointer (some ⟨hp.length+1,0,some 0⟩))
 | 0,i,l,r,o,e1,hl,hb=>by
  have hn:=hR.n_eq
  rw [List.drop_of_length_le (by omega)]
  simp only [eI,List.append_nil]
  subst hn
  have hi:¬ (i:Int) < x.length:=by omega
  unfold C5
  rw [aB mH.eq_1]
  simp (disch:=first | exact AM.dis | fail) only [af.sy,simprocAttr,-List.reduceReplicate,hF.all,hi]
  exact ⟨_,rfl,rfl,rfl,rfl⟩
 | k+1,i,l,r,o,e1,hl,hb=>by
  have hi:i < x.length:=by omega
  have hc:x[i] < 256:=hR.by_ _ (List.getElem_mem hi)
  have hdl:=lM r r (Nat.le_refl _)
  rw [List.drop_eq_getElem_cons hi]
  unfold eI
  by_cases h0:l.idxOf x[i]=0
  ·obtain ⟨fr,ih⟩:=yI hR hxs (c1:=c1) hF k (i+1) (bC l (l.idxOf x[i])) (r+1) o (by omega) (hl.take (hl.idx hc)) (by omega)
   rw [if_pos h0]
   refine ⟨fr,?_⟩
   rw [Tg hR (by omega) hi hl (by omega) (by omega) hF h0]
   exact ih
  ·obtain ⟨fr,ih⟩:=yI hR hxs (c1:=c1) hF k (i+1) (bC l (l.idxOf x[i])) 0 (o++(dF r++[l.idxOf x[i]+1])) (by omega) (hl.take (hl.idx hc)) (by simp only [List.length_append,List.length_cons,List.length_nil];omega)
   rw [if_neg h0]
   refine ⟨fr,?_⟩
   rw [Oi hR (by omega) hi hl (by omega) (by omega) hF h0]
   simp only [List.append_assoc,List.cons_append,List.nil_append] at ih ⊢
   exact ih
theorem tI{x:List Nat}{v:Value}(hR:Rd ⟨hp,L,H,[]⟩ v x)(hxs:x.length<=100000){l:List Nat}{r:Nat}(hl:Bl l)(hr:r<=100000)(hF:Fit hp.length L H) :
  aN env (.func 71) [.agg (dm l r).toArray,v] ⟨hp,L,H,d⟩=some (.tuple #[.agg (dm (eI l r x).2.1 (eI l r x).2.2).toArray,slI hp.length (eI l r x).1,.int .i64 0],⟨hp++ji (eI l r x).1,L,H,d⟩):=by
 rw [aA 71 _ _ adv]
 obtain ⟨a,e,rfl⟩:=hR.len
 have h8:By l:=fun b hb=>hl.mem.1 hb
 have hva:=fun hp L H d hF=>pM (hp:=hp) (L:=L) (H:=H) (d:=d) hl.len h8 (SZ hl) (show r<=2147483647 by omega) hF
 have hel:=dU (r:=r) hl.len
 have hrun:=n4 (r:=r) hl.len
 have h1:¬ (x.length:Int) > 2147483647 - (r:Int):=by omega
 obtain ⟨z,hz,hzl⟩:=tH
 obtain ⟨fr,e1,e2,e3,e4⟩:=yI hR hxs (c1:=.cells 0 true z) hF x.length 0 l r [] (by omega) hl (by simp;omega)
 rw [List.drop_zero] at e1 e2
 obtain ⟨hb1,hb2,hb3⟩:=rQ x l r hl hR.by_
 generalize eI l r x=Q at *
 obtain ⟨q,l',r'⟩:=Q
 have bN:=dU (r:=r') hb1.len
 have hp1:putAt z 0 (dm l' r')=dm l' r':=aS (by rw [hzl,bN])
 have hp2:putAt (dm l' r') 0 (dm l' r')=dm l' r':=aS rfl
 simp only [List.nil_append,fS,eC,C5,Int.natCast_zero] at e1 e2 bN hp1 hp2 ⊢
 by_cases hq:q=[]
 ·subst hq
  simp (disch:=first | exact AM.dis | fail) only [af.sy,simprocAttr,-List.reduceReplicate,hF.all,RE,fS,eC,hva,hel,av hel,hrun,h1,hz,hzl,eR,dA,eD,e1,e2,e3,e4,bN,av bN,hp1,hp2]
 ·have hq0:¬ q.length=0:=by cases q<;>simp at hq ⊢
  rw [gM rfl hq0,eF rfl hq0]
  rw [eF rfl hq0] at e1
  rw [gM rfl hq0] at e2
  have hG:=gA (h:=hp) (nw:=[.cells 0 true (dm l' r'),.cells 0 true (dm l' r'),.cells q.length true (is q)]) (L:=L) (H:=H) (v:=.tuple #[.agg (dm l' r').toArray,.slice (some ⟨hp.length+2,0,some q.length⟩) q.length 1,.int .i64 0]) 2 rfl (by simp [refs,aT,aG,eD]) (by simp [refs,aT,aG,eD])
  have o2:AM.one hp.length (hp.length+2) (hp.length+2)=hp.length:=dD
  have U8:(dm l' r').map (cQ (AM.one hp.length (hp.length+2)))=dm l' r':=by
   unfold dm
   rw [List.map_append]
   congr 1
   unfold u8s
   rw [List.map_map]
   exact List.map_congr_left fun x _=>rfl
  simp (disch:=first | exact AM.dis | fail) only [af.sy,simprocAttr,-List.reduceReplicate,hF.all,RE,hva,hel,av hel,hrun,h1,hz,hzl,eR,dA,eD,e1,e2,e3,e4,bN,av bN,hp1,hp2,hG,ren,fm,cQ,o2,List.map_cons,List.map_nil,U8]
theorem Th{l:List Nat}{r:Nat}(hl:Bl l)(hr:r<=100000)(hF:Fit hp.length L H) :
  aN env (.func 73) [.agg (dm l r).toArray] ⟨hp,L,H,d⟩=some (.tuple #[slI hp.length (dF r++[257]),.int .i64 0],⟨hp++ji (dF r++[257]),L,H,d⟩):=by
 rw [aA 73 _ _ adx]
 have h8:By l:=fun b hb=>hl.mem.1 hb
 have hva:=fun hp L H d hF=>pM (hp:=hp) (L:=L) (H:=H) (d:=d) hl.len h8 (SZ hl) (show r<=2147483647 by omega) hF
 have hel:=dU (r:=r) hl.len
 have hrun:=n4 (r:=r) hl.len
 have hdl:=lM r r (Nat.le_refl _)
 have hdg:=fun hp d hF=>uR (hp:=hp) (L:=L) (H:=H) (d:=d) (n:=r) (by omega) hF
 have hs1:small 1=true:=by decide
 have hF2:=hF.1
 generalize dF r=G at *
 by_cases hG:G=[]
 ·subst hG
  have hN:([]++[257]:List Nat).length=1:=rfl
  rw [gM hN (by decide),eF hN (by decide)]
  have ha:=fun nw=>yH (hp:=hp++nw) (L:=L) (H:=H) (d:=[]) (x:=257)
  simp only [List.length_append,Int.cast_ofNat_Int] at ha
  have hG:=fun c0 c1=>gA (h:=hp) (nw:=[c0,c1,.cells 1 true (is [257])]) (L:=L) (H:=H) (v:=.tuple #[.slice (some ⟨hp.length+2,0,some 1⟩) 1 1,.int .i64 0]) 2 rfl (by simp [refs,aT,aG]) (by simp [refs,aT,aG])
  have o2:AM.one hp.length (hp.length+2) (hp.length+2)=hp.length:=dD
  simp (disch:=first | exact AM.dis | fail) only [af.sy,simprocAttr,-List.reduceReplicate,hF.all,RF,fS,eC,hva,hel,av hel,hrun,hdg,eR,dA,eD,hs1,jg,ha,hG,ren,fm,cQ,o2,List.map_cons,List.map_nil]
 ·have hG0:¬ G.length=0:=by cases G<;>simp at hG ⊢
  have hN:(G++[257]:List Nat).length=G.length+1:=by simp
  rw [gM hN (by omega),eF hN (by omega)]
  unfold slI ji at hdg
  simp only [if_neg hG0] at hdg
  have ha:=fun c0 nw=>rP (hp:=hp++c0::.cells G.length true (is G)::nw) (L:=L) (H:=H) (d:=[]) (x:=257) (b:=hp.length+1) (l:=G) rfl (by rw [b7];rfl) (by omega) (hF.jB 1) (by omega)
  simp only [Int.cast_ofNat_Int] at ha
  have hG:=fun c0 c1=>gA (h:=hp) (nw:=[c0,.cells (G.length+1) true (is (G++[257])),c1]) (L:=L) (H:=H) (v:=.tuple #[.slice (some ⟨hp.length+1,0,some (G.length+1)⟩) (G.length+1) 1,.int .i64 0]) 1 rfl (by simp [refs,aT,aG]) (by simp [refs,aT,aG])
  have o2:AM.one hp.length (hp.length+1) (hp.length+1)=hp.length:=dD
  simp (disch:=first | exact AM.dis | fail) only [af.sy,simprocAttr,-List.reduceReplicate,hF.all,RF,hva,hel,av hel,hrun,hdg,eR,dA,eD,hs1,ha,hG,ren,fm,cQ,o2,List.map_cons,List.map_nil]
theorem Gw{x:List Nat}{v:Value}(hR:Rd ⟨hp,L,H,[]⟩ v x)(hxs:x.length<=100000)(hF:Fit hp.length L H) :
  aN env (.func 26) [v] ⟨hp,L,H,d⟩=some (slI hp.length (enc x),⟨hp++ji (enc x),L,H,d⟩):=by
 rw [aA 26 _ _ adr]
 have hn:=fun d=>uS (hp:=hp) (L:=L) (H:=H) (d:=d) hF
 have hst:=fun d=>tI (d:=d) hR hxs Bl.zero (show 0<=100000 by omega) hF
 obtain ⟨hb1,hb2,hb3⟩:=rQ x bP 0 Bl.zero hR.by_
 have he:enc x=(eI bP 0 x).1++(dF (eI bP 0 x).2.2++[257]):=rfl
 rw [he]
 generalize eI bP 0 x=Q at *
 obtain ⟨q,l',r'⟩:=Q
 simp only at hb1 hb2 hb3 hst ⊢
 have hen:=fun hp d hF=>Th (hp:=hp) (L:=L) (H:=H) (d:=d) hb1 (show r'<=100000 by omega) hF
 have hdl:=lM r' r' (Nat.le_refl _)
 have hel:=dU (r:=r') hb1.len
 obtain ⟨z,hz,hzl⟩:=tH
 have hp1:putAt z 0 (dm l' r')=dm l' r':=aS (by rw [hzl,hel])
 have hE:(dF r'++[257]).length=(dF r').length+1:=by simp
 have hEl:=oT (dF r'++[257])
 generalize dF r'++[257]=Z at *
 have hE0:¬ Z.length=0:=by omega
 have hF2:=hF.1
 simp only [gM (W:=Z) rfl hE0,eF (W:=Z) rfl hE0] at hen
 by_cases hq:q=[]
 ·subst hq
  have ha:=fun nw=>mR (hp:=hp++nw) (L:=L) (H:=H) (d:=[]) (m:=Z) hE0 (by omega)
  simp only [List.length_append] at ha
  rw [List.nil_append,gM rfl hE0,eF rfl hE0]
  have hG:=fun c0 c1=>C4 (h:=hp) (nw:=[c0,c1,.cells Z.length true (is Z)]) 2 rfl (kj.plain _ _) (some Z.length) Z.length 1 L H
  simp (disch:=first | exact AM.dis | fail) only [af.sy,simprocAttr,-List.reduceReplicate,hF.all,RD,fS,eC,hn,hst,hen,hz,hzl,hel,av hel,eR,dA,eD,hp1,hEl,av hEl,ha,hG]
 ·have hq0:¬ q.length=0:=by cases q<;>simp at hq ⊢
  have ha:=fun nw=>jL (hp:=hp++.cells q.length true (is q)::nw) (L:=L) (H:=H) (d:=[]) (b:=hp.length) (l:=q) (m:=Z) (bY _) (by omega) hF.kg hE0 (by omega)
  have hN:(q++Z).length=q.length+Z.length:=List.length_append
  rw [gM hN (by omega),eF hN (by omega)]
  simp only [gM (W:=q) rfl hq0,eF (W:=q) rfl hq0] at hst
  have hG:=fun c0 c1=>C4 (h:=hp) (nw:=[.cells (q.length+Z.length) true (is (q++Z)),c0,c1]) 0 rfl (kj.plain _ _) (some (q.length+Z.length)) (q.length+Z.length) 1 L H
  simp only [Nat.add_zero] at hG
  simp (disch:=first | exact AM.dis | fail) only [af.sy,simprocAttr,-List.reduceReplicate,hF.all,RD,hn,hst,hen,hz,hzl,hel,av hel,eR,dA,eD,hp1,hEl,av hEl,ha,hG]
end
end TsF
namespace TsG
open Go Go.RowKit AM af LtA SyP TmM TsA TsB TsC TsD TsE TsF Bt
def aU(l:List Nat)(m r k:Nat)(f:Bool):List Value:=u8s l++[.int .i64 m,.int .i64 r,.int .i64 k,.bool f]
section
variable{hp:List Blk}{L:Nat}{H d:List Nat}{l:List Nat}{m r k:Nat}{f:Bool}
theorem bH(hl:l.length=256):(aU l m r k f).length=260:=by simp [aU,u8s,hl]
theorem bJ:(aU l m r k f).all aW=true:=by simp [aU,cP,AM.aW,AM.sc]
theorem bt:(aU l m r k f).all AM.sc=true:=by simp [aU,bW,AM.sc]
theorem bM:(aU l m r k f).flatMap aG=[]:=by simp [aU,cK,aG]
theorem lN(hl:l.length=256):(aU l m r k f)[256]?=some (.int .i64 m):=by
 unfold aU;rw [List.getElem?_append_right (by rw [aq];omega),aq,hl];rfl
theorem j0(hl:l.length=256):(aU l m r k f)[257]?=some (.int .i64 r):=by
 unfold aU;rw [List.getElem?_append_right (by rw [aq];omega),aq,hl];rfl
theorem tJ(hl:l.length=256):(aU l m r k f)[258]?=some (.int .i64 k):=by
 unfold aU;rw [List.getElem?_append_right (by rw [aq];omega),aq,hl];rfl
theorem gN(hl:l.length=256):(aU l m r k f)[259]?=some (.bool f):=by
 unfold aU;rw [List.getElem?_append_right (by rw [aq];omega),aq,hl];rfl
theorem tK(hl:l.length=256):(aU l m r k f).take 256=u8s l:=by
 unfold aU;rw [List.take_append_of_le_length (by rw [aq];omega),List.take_of_length_le (by rw [aq];omega)]
theorem Jz(hl:l.length=256):(aU l m r k f)[0]?=some (.int .u8 (l.getD 0 0:Nat)):=by
 unfold aU
 rw [List.getElem?_append_left (by rw [aq];omega),eo,List.getD_eq_getElem?_getD,List.getElem?_eq_getElem (by omega)];rfl
theorem Gx(hl:l.length=256){q:Nat} : (aU l m r k f).set 257 (.int .i64 q)=aU l m q k f:=by
 unfold aU;rw [List.set_append_right _ _ (by rw [aq];omega),aq,hl];rfl
theorem C6(hl:l.length=256){q:Nat} : (aU l m r k f).set 258 (.int .i64 q)=aU l m r q f:=by
 unfold aU;rw [List.set_append_right _ _ (by rw [aq];omega),aq,hl];rfl
theorem cS:∃ z:List Value,List.replicate 256 (Value.int .u8 0)++[.int .i64 0,.int .i64 0,.int .i64 0,.bool false]=z/\z.length=260/\∀ l:List Nat,l.length=256->putAt z 0 (u8s l)=aU l 0 0 0 false:=by
 refine ⟨_,rfl,by rw [List.length_append,List.length_replicate];rfl,fun l hl=>?_⟩
 apply List.ext_getElem?
 intro j
 rw [dJ _ _ _ _ (by rw [List.length_append,List.length_replicate,aq,hl];decide),aq,hl,Nat.zero_add]
 unfold aU
 by_cases h:j < 256
 ·rw [if_pos ⟨Nat.zero_le _,h⟩,Nat.sub_zero,List.getElem?_append_left (by rw [aq];omega)]
 ·rw [if_neg (by omega),List.getElem?_append_right (by rw [List.length_replicate];omega),List.getElem?_append_right (by rw [aq];omega),aq,List.length_replicate,hl];rfl
theorem rR(hl:l.length=256){q:Nat} : (aU l m r k f).set 256 (.int .i64 q)=aU l q r k f:=by
 unfold aU;rw [List.set_append_right _ _ (by rw [aq];omega),aq,hl];rfl
theorem C7(hl:l.length=256){q:Bool} : (aU l m r k f).set 259 (.bool q)=aU l m r k q:=by
 unfold aU;rw [List.set_append_right _ _ (by rw [aq];omega),aq,hl];rfl
theorem Gy(h1:1<=m)(h2:m<=65536)(hF:Fit hp.length L H):aN env (.func 69) [.int .i64 m] ⟨hp,L,H,d⟩=some (.agg (aU bP m 0 0 false).toArray,⟨hp,L,H,d⟩):=by
 rw [aA 69 _ _ adu]
 have hn:=fun hp d hF=>TsA.Gl (hp:=hp) (L:=L) (H:=H) (d:=d) hF
 have hu:(u8s bP).length=256:=by rw [aq,eE]
 obtain ⟨z,hz,hzl,hzp⟩:=cS
 have hp0:=hzp bP eE
 have hl:=bH (l:=bP) (m:=m) (r:=0) (k:=0) (f:=false) eE
 have hl0:=bH (l:=bP) (m:=0) (r:=0) (k:=0) (f:=false) eE
 have hp1:putAt z 0 (aU bP m 0 0 false)=aU bP m 0 0 false:=aS (by rw [hzl,hl])
 have hs:=rR (l:=bP) (m:=0) (r:=0) (k:=0) (f:=false) (q:=m) eE
 have g1:¬ (m:Int) < 1:=by omega
 have g2:¬ (m:Int) > 65536:=by omega
 simp (disch:=first | exact AM.dis | fail) only [af.sy,simprocAttr,-List.reduceReplicate,hF.all,VU,hn,hz,hzl,hu,g1,g2,hp0,hs,hp1,hl,hl0,av hl,av hu,cP,bW,bJ,bt,bM]
structure DOk(l:List Nat)(m r k:Nat):Prop where
 bl:Bl l
 hm:m<=65536
 hr:r<=m
 hk:k<=16
 lo:2 ^ k - 1<=r
 hi:r<=2*(2 ^ k - 1)
set_option maxRecDepth 100000 in
theorem iX(h:DOk l m r k)(hF:Fit hp.length L H):aN env (.func 137) [.agg (aU l m r k false).toArray] ⟨hp,L,H,d⟩=some (.bool true,⟨hp,L,H,d⟩):=by
 rw [aA 137 _ _ abb]
 have hl:=h.bl.len
 have h8:By l:=fun b hb=>h.bl.mem.1 hb
 have hm:=fun hp L H d hF=>nY (hp:=hp) (L:=L) (H:=H) (d:=d) hl h8 hF
 rw [SZ h.bl] at hm
 have hel:=bH (m:=m) (r:=r) (k:=k) (f:=false) hl
 have e1:=lN (m:=m) (r:=r) (k:=k) (f:=false) hl
 have e2:=j0 (m:=m) (r:=r) (k:=k) (f:=false) hl
 have e3:=tJ (m:=m) (r:=r) (k:=k) (f:=false) hl
 have e4:=gN (m:=m) (r:=r) (k:=k) (f:=false) hl
 have e5:=tK (m:=m) (r:=r) (k:=k) (f:=false) hl
 have hu:(u8s l).length=256:=by rw [aq,hl]
 obtain ⟨b1,b2,b3,b4,b5,b6⟩:=h
 have g1:¬ (m:Int) < 0:=by omega
 have g2:¬ (m:Int) > 65536:=by omega
 have g3:¬ (r:Int) < 0:=by omega
 have g4:¬ (r:Int) > (m:Int):=by omega
 have g5:¬ (k:Int) < 0:=by omega
 have g6:¬ (k:Int) > 16:=by omega
 have h2:(2:Nat) ^ k<=2 ^ 16:=Nat.pow_le_pow_right (by decide) b4
 have h16:(2:Nat) ^ 16=65536:=by decide
 have hpos:1<=(2:Nat) ^ k:=Nat.one_le_two_pow
 have hpw:((2:Int) ^ k)=((2 ^ k:Nat):Int):=by push_cast;rfl
 have g7:min k 64=k:=by omega
 generalize (2:Nat) ^ k=P at *
 have g8:¬ (r:Int) < (P:Int) - 1:=by omega
 have g9:¬ (r:Int) > 2*((P:Int) - 1):=by omega
 simp (disch:=first | exact AM.dis | fail) only [af.sy,simprocAttr,-List.reduceReplicate,hF.all,FN,hm,hel,av hel,e1,e2,e3,e4,e5,hu,av hu,g1,g2,g3,g4,g5,g6,g7,hpw,g8,g9,bJ,bt,bM,cP,bW,cK]
def Gz(b n:Nat):Value:=if n=0 then .slice (some ⟨b,0,some 0⟩) 0 1 else rsl b n
def fy(n c:Nat):Blk:=if n=0 then .cells 0 true [] else .cells 0 false (u8s (List.replicate n c))
theorem tL(n c:Nat):kj (TsG.fy n c):=by
 unfold TsG.fy;split
 ·exact kj.plain 0 []
 ·exact C3 _ _ _
theorem GA(hl:l.length=256)(h8:By l)(hr:r<=65536)(hF:Fit hp.length L H):aN env (.func 186) [.agg (aU l m r k f).toArray] ⟨hp,L,H,d⟩=some (Gz hp.length r,⟨hp++[TsG.fy r (l.getD 0 0)],L,H,d⟩):=by
 rw [aA 186 _ _ abn]
 have hel:=bH (m:=m) (r:=r) (k:=k) (f:=f) hl
 have e2:=j0 (m:=m) (r:=r) (k:=k) (f:=f) hl
 have e0:=Jz (m:=m) (r:=r) (k:=k) (f:=f) hl
 have c1:eT 256 none (some (.int .i64 1)) none=some (0,1,none):=rfl
 have hc:l.getD 0 0 < 256:=h8 _ (by rw [List.getD_eq_getElem?_getD,List.getElem?_eq_getElem (show 0 < l.length by omega)];exact List.getElem_mem _)
 have hG:=fun c0=>C4 (h:=hp) (nw:=[c0,TsG.fy r (l.getD 0 0)]) 1 rfl (tL _ _)
 unfold TsG.fy Gz at *
 by_cases h0:r=0
 ·subst h0
  have hz:=fun s hp d H L hF=>Td (hp:=hp) (L:=L) (H:=H) (d:=d) (s:=s) hF
  simp only [if_true,Int.natCast_zero] at hG e2 ⊢
  simp (disch:=first | exact AM.dis | fail) only [af.sy,simprocAttr,-List.reduceReplicate,hF.all,FV,hel,av hel,e2,c1,hz,hG,bJ,bt]
 ·simp only [if_neg h0] at hG ⊢
  have hz:∀ e d L',Fit (hp++[Blk.cells 0 true (aU l m r k f)]).length L' H->aN env (.func 230) [.slice (some ⟨hp.length,0,some 0⟩) 1 e,.int .i64 r] ⟨hp++[.cells 0 true (aU l m r k f)],L',H,d⟩=some (.slice (some ⟨hp.length+1,0,some 0⟩) r 1048578,⟨hp++[.cells 0 true (aU l m r k f),.cells 0 false (u8s (List.replicate r (l.getD 0 0)))],L',H,d⟩):=fun e d L' hF'=>by
   have:=Tc (hp:=hp++[.cells 0 true (aU l m r k f)]) (L:=L') (H:=H) (d:=d) hc (show 0 < r by omega) hr (b:=hp.length) (o:=0) (e:=e) (bY _) hF.kg e0 hF'
   simp only [List.append_assoc,List.cons_append,List.nil_append,List.length_append,List.length_cons,List.length_nil,Nat.zero_add,rsl] at this
   exact this
  simp (disch:=first | exact AM.dis | fail) only [af.sy,simprocAttr,-List.reduceReplicate,hF.all,FV,rsl,hel,av hel,e2,c1,hz,hG,bJ,bt]
end
end TsG
namespace TsH
open Go Go.RowKit AM af LtA SyP TmM TsA TsB TsC TsD TsE TsF TsG Bt
section
variable{hp:List Blk}{L:Nat}{H d:List Nat}{l:List Nat}{m r k:Nat}{f:Bool}
theorem n6{g:Nat->Nat} : (aU l m r k f).map (cQ g)=aU l m r k f:=by
 unfold aU
 rw [List.map_append]
 congr 1
 unfold u8s
 rw [List.map_map]
 exact List.map_congr_left fun x _=>rfl
theorem Ti{b c:Nat}(hb:hp[b]?=some (.cells 0 true []))(hL:L<=b)(hh:H.contains b=false) :
  St.append ⟨hp,L,H,d⟩ true 1 (.slice (some ⟨b,0,some 0⟩) 0 1) 1 [.int .u8 (c:Int)]=some (.slice (some ⟨b,0,some 1⟩) 1 1,⟨hp.set b (.cells 1 true (u8s [c])),L,H,d⟩):=by
 have hbl:St.blk ⟨hp,L,H,d⟩ ⟨b,0,some 0⟩=some (true,[]):=by unfold St.blk;rw [hh,hb];simp
 have hnl:¬ b < L:=by omega
 simp [St.append,hbl,hnl,small,AM.aW,AM.sc,bA,u8s]
theorem Tj{b c n:Nat}{t:List Nat}(hn:t.length=n)(hn1:n<=65536)(hb:hp[b]?=some (.cells 0 false (u8s t)))(hh:H.contains b=false) :
  St.append ⟨hp,L,H,d⟩ true 1 (.slice (some ⟨b,0,some 0⟩) n 1048578) 1 [.int .u8 (c:Int)]=some (.slice (some ⟨hp.length,0,some (n+1)⟩) (n+1) 1,⟨hp++[.cells (n+1) true (u8s (t++[c]))],L,H,d⟩):=by
 have hbl:St.blk ⟨hp,L,H,d⟩ ⟨b,0,some 0⟩=some (false,u8s t):=by unfold St.blk;rw [hh,hb];simp
 have hu:(u8s t).length=n:=by rw [aq,hn]
 have hsm:small (n+1)=true:=by simp [small];omega
 have ht:(u8s t).take n=u8s t:=List.take_of_length_le (by omega)
 have hap:u8s t++[.int .u8 (c:Int)]=u8s (t++[c]):=by simp [u8s]
 have hcv:=cP (t++[c])
 have hsc:=bW (t++[c])
 simp only [St.append,hbl,hsm,hu,ht,hap,hcv,hsc,Nat.mul_one,Nat.one_ne_zero,if_false,List.drop_zero,Nat.zero_add,Option.bind_some,Nat.le_refl,decide_true,Bool.true_and,Bool.not_true,Bool.false_or,if_true]
 rw [if_pos (by simp)]
 rw [if_neg (by simp)]
theorem JA{h nw:List Blk}{b:Blk}{cs:List Value}(k:Nat)(hk:nw[k]?=some b)(hb:kj b)(hc:cs.flatMap aG=[])(hr:∀ g,cs.map (cQ g)=cs)(s:Option Nat)(n e:Nat)(x:Bool)(L:Nat)(H:List Nat) :
  gcY h nw (.tuple #[.agg cs.toArray,.slice (some ⟨h.length+k,0,s⟩) n e,.bool x]) L H false=some ([.tuple #[.agg cs.toArray,.slice (some ⟨h.length,0,s⟩) n e,.bool x]],⟨h++[b],L,H,[]⟩):=by
 have g0:(h++nw)[h.length+k]?=some b:=by rw [b7];exact hk
 unfold gcY
 rw [rN (R:=[h.length+k]) rfl (by simp) (by simp [refs,aT,aG,hc]) (by simp) (by simp) (fun r hr=>by
  simp only [List.mem_cons,List.not_mem_nil,or_false] at hr
  subst hr
  exact ⟨_,g0,hb⟩)]
 have hf:firsts [h.length+k] []=[h.length+k]:=rfl
 rw [hf]
 have p0:plc h.length [h.length+k] (h.length+k)=h.length:=by simp [plc];omega
 simp only [List.map_cons,List.map_nil,ren,fm,cQ,p0,dy,List.getD_eq_getElem?_getD,g0,Option.getD_some,hr]
theorem JB{s:Nat}(h:DOk l m r k)(hs:s < 2)(hF:Fit hp.length L H) :
  aN env (.func 138) [.agg (aU l m r k false).toArray,.int .i64 s] ⟨hp,L,H,d⟩=some (.tuple #[.agg (aU l m (r+(1+s)*2 ^ k) (k+1) false).toArray,.slice none 0 0,.bool (decide (r+(1+s)*2 ^ k<=m))],⟨hp,L,H,d⟩):=by
 rw [aA 138 _ _ Ly]
 obtain ⟨b1,b2,b3,b4,b5,b6⟩:=h
 have hl:=b1.len
 have ha:=fun hp d hF=>S8 (hp:=hp) (L:=L) (H:=H) (d:=d) (r:=r) (k:=k) (s:=s) (by omega) b4 hs hF
 have hel:=bH (m:=m) (r:=r) (k:=k) (f:=false) hl
 have e2:=j0 (m:=m) (r:=r) (k:=k) (f:=false) hl
 have e3:=tJ (m:=m) (r:=r) (k:=k) (f:=false) hl
 have e2s:=fun q=>Gx (m:=m) (r:=r) (k:=k) (f:=false) (q:=q) hl
 generalize hq:r+(1+s)*2 ^ k=q at *
 have e3':=tJ (m:=m) (r:=q) (k:=k) (f:=false) hl
 have e3s:=C6 (m:=m) (r:=q) (k:=k) (f:=false) (q:=k+1) hl
 have bN:=bH (m:=m) (r:=q) (k:=k+1) (f:=false) hl
 have vo:=bH (m:=m) (r:=q) (k:=k) (f:=false) hl
 have e1':=lN (m:=m) (r:=q) (k:=k+1) (f:=false) hl
 have e2':=j0 (m:=m) (r:=q) (k:=k+1) (f:=false) hl
 obtain ⟨z,hz,hzl,_⟩:=cS
 have hpz:putAt z 0 (aU l m q (k+1) false)=aU l m q (k+1) false:=aS (by rw [hzl,bN])
 simp only [Int.natCast_add,Int.natCast_one] at e3s
 have hle:decide ((q:Int)<=(m:Int))=decide (q<=m):=by simp
 rcases (show s=0\/s=1 by omega) with rfl | rfl
 ·simp only [Int.natCast_zero] at ha ⊢
  simp (disch:=first | exact AM.dis | fail) only [af.sy,simprocAttr,-List.reduceReplicate,hF.all,nW,hz,hzl,ha,hel,av hel,bN,av bN,vo,av vo,e2,e3,e2s,e3',e3s,e1',e2',hpz,hle,bJ,bt,bM]
 ·simp only [Int.natCast_one] at ha ⊢
  simp (disch:=first | exact AM.dis | fail) only [af.sy,simprocAttr,-List.reduceReplicate,hF.all,nW,hz,hzl,ha,hel,av hel,bN,av bN,vo,av vo,e2,e3,e2s,e3',e3s,e1',e2',hpz,hle,bJ,bt,bM]
theorem Oj{s:Nat}(h:DOk l m r k)(hs:2<=s)(hs2:s<=256)(hr:r=m)(hF:Fit hp.length L H) :
  aN env (.func 138) [.agg (aU l m r k false).toArray,.int .i64 s] ⟨hp,L,H,d⟩=some (.tuple #[.agg (aU l m r k false).toArray,.slice none 0 0,.bool false],⟨hp,L,H,d⟩):=by
 rw [aA 138 _ _ Ly]
 obtain ⟨b1,b2,b3,b4,b5,b6⟩:=h
 have hl:=b1.len
 subst hr
 have hel:=bH (m:=r) (r:=r) (k:=k) (f:=false) hl
 have e1:=lN (m:=r) (r:=r) (k:=k) (f:=false) hl
 have e2:=j0 (m:=r) (r:=r) (k:=k) (f:=false) hl
 obtain ⟨z,hz,hzl,_⟩:=cS
 have hpz:putAt z 0 (aU l r r k false)=aU l r r k false:=aS (by rw [hzl,hel])
 have g0:¬ (s:Int)=0:=by omega
 have g1:¬ (s:Int)=1:=by omega
 have g2:¬ (s:Int)=257:=by omega
 simp (disch:=first | exact AM.dis | fail) only [af.sy,simprocAttr,-List.reduceReplicate,hF.all,nW,hz,hzl,hel,av hel,e1,e2,g0,g1,g2,hpz,bJ,bt,bM]
theorem step_done(h:DOk l m r k)(hF:Fit hp.length L H) :
  aN env (.func 138) [.agg (aU l m r k false).toArray,.int .i64 257] ⟨hp,L,H,d⟩=some (.tuple #[.agg (aU l 0 0 0 true).toArray,Gz hp.length r,.bool (decide (r=m))],⟨hp++[TsG.fy r (l.getD 0 0)],L,H,d⟩):=by
 rw [aA 138 _ _ Ly]
 obtain ⟨b1,b2,b3,b4,b5,b6⟩:=h
 have hl:=b1.len
 have h8:By l:=fun b hb=>b1.mem.1 hb
 have hrun:=fun hp L H d hF=>GA (hp:=hp) (L:=L) (H:=H) (d:=d) (l:=l) (m:=m) (r:=r) (k:=k) (f:=false) hl h8 (by omega) hF
 have hel:=bH (m:=m) (r:=r) (k:=k) (f:=false) hl
 have e0:=tK (m:=m) (r:=r) (k:=k) (f:=false) hl
 have e1:=lN (m:=m) (r:=r) (k:=k) (f:=false) hl
 have e2:=j0 (m:=m) (r:=r) (k:=k) (f:=false) hl
 have hu:(u8s l).length=256:=by rw [aq,hl]
 obtain ⟨z,hz,hzl,hzp⟩:=cS
 have hz0:=hzp l hl
 have hsd:=C7 (m:=0) (r:=0) (k:=0) (f:=false) (q:=true) hl
 have bN:=bH (m:=0) (r:=0) (k:=0) (f:=true) hl
 have vo:=bH (m:=0) (r:=0) (k:=0) (f:=false) hl
 have hpz:putAt z 0 (aU l 0 0 0 true)=aU l 0 0 0 true:=aS (by rw [hzl,bN])
 have heq:((r:Int)==(m:Int))=decide (r=m):=by rw [Bool.eq_iff_iff];simp;omega
 have hG:=fun c0 c1=>JA (h:=hp) (nw:=[c0,c1,TsG.fy r (l.getD 0 0)]) 2 rfl (tL _ _) (bM (l:=l) (m:=0) (r:=0) (k:=0) (f:=true)) (fun g=>n6)
 unfold Gz at *
 by_cases h0:r=0
 ·simp only [if_pos h0] at hrun ⊢
  simp (disch:=first | exact AM.dis | fail) only [af.sy,simprocAttr,-List.reduceReplicate,hF.all,nW,hz,hzl,hrun,hel,av hel,bN,av bN,vo,hu,av hu,e0,e1,e2,hz0,hsd,hpz,heq,bJ,bt,bM,cP,bW,hG]
 ·simp only [if_neg h0,rsl] at hrun ⊢
  simp (disch:=first | exact AM.dis | fail) only [af.sy,simprocAttr,-List.reduceReplicate,hF.all,nW,hz,hzl,hrun,hel,av hel,bN,av bN,vo,hu,av hu,e0,e1,e2,hz0,hsd,hpz,heq,bJ,bt,bM,cP,bW,hG]
theorem Ol{s:Nat}(h:DOk l m r k)(hs:2<=s)(hs2:s<=256)(hr:r≠m)(hF:Fit hp.length L H) :
  aN env (.func 138) [.agg (aU l m r k false).toArray,.int .i64 s] ⟨hp,L,H,d⟩=some (.tuple #[.agg (aU (bC l (s - 1)) (m - (r+1)) 0 0 false).toArray,.slice (some ⟨hp.length,0,some (r+1)⟩) (r+1) 1,.bool true],⟨hp++[.cells (r+1) true (u8s (List.replicate r (l.getD 0 0)++[l.getD (s - 1) 0]))],L,H,d⟩):=by
 rw [aA 138 _ _ Ly]
 obtain ⟨b1,b2,b3,b4,b5,b6⟩:=h
 have hl:=b1.len
 have h8:By l:=fun b hb=>b1.mem.1 hb
 have hrun:=fun hp L H d hF=>GA (hp:=hp) (L:=L) (H:=H) (d:=d) (l:=l) (m:=m) (r:=r) (k:=k) (f:=false) hl h8 (by omega) hF
 have htk:=fun hp d hF=>Ba (hp:=hp) (L:=L) (H:=H) (d:=d) hl h8 (p:=s - 1) (by omega) hF
 have hel:=bH (m:=m) (r:=r) (k:=k) (f:=false) hl
 have e0:=tK (m:=m) (r:=r) (k:=k) (f:=false) hl
 have e1:=lN (m:=m) (r:=r) (k:=k) (f:=false) hl
 have e2:=j0 (m:=m) (r:=r) (k:=k) (f:=false) hl
 have hu:(u8s l).length=256:=by rw [aq,hl]
 have hml:=mO hl (show s - 1 < 256 by omega)
 have hu2:(u8s (bC l (s - 1))).length=256:=by rw [aq,hml]
 obtain ⟨z,hz,hzl,hzp⟩:=cS
 obtain ⟨y,hy,hyl⟩:=Zp 256
 rw [hy] at hz
 have hpy:putAt y 0 (u8s (bC l (s - 1)))=u8s (bC l (s - 1)):=aS (by rw [hyl,hu2])
 have hz0:=hzp (bC l (s - 1)) hml
 have hsd:=rR (l:=bC l (s - 1)) (m:=0) (r:=0) (k:=0) (f:=false) (q:=m - (r+1)) hml
 have bN:=bH (l:=bC l (s - 1)) (m:=m - (r+1)) (r:=0) (k:=0) (f:=false) hml
 have vo:=bH (l:=bC l (s - 1)) (m:=0) (r:=0) (k:=0) (f:=false) hml
 have hpz:putAt z 0 (aU (bC l (s - 1)) (m - (r+1)) 0 0 false)=aU (bC l (s - 1)) (m - (r+1)) 0 0 false:=aS (by rw [hzl,bN])
 have g0:¬ (s:Int)=0:=by omega
 have g1:¬ (s:Int)=1:=by omega
 have g2:¬ (s:Int)=257:=by omega
 have g3:¬ (r:Int)=(m:Int):=by omega
 have g4:(s:Int) - 1=((s - 1:Nat):Int):=by omega
 have g5:(m:Int) - ((r+1:Nat):Int)=((m - (r+1):Nat):Int):=by omega
 have g6:(m:Int) - ((r:Int)+1)=((m - (r+1):Nat):Int):=by omega
 have hs1:small 1=true:=by decide
 have hF2:=hF.1
 have hcv:=bJ (l:=bC l (s - 1)) (m:=m - (r+1)) (r:=0) (k:=0) (f:=false)
 generalize l.getD (s - 1) 0=cc at *
 generalize bC l (s - 1)=l' at *
 unfold Gz TsG.fy at hrun
 by_cases h0:r=0
 ·subst h0
  simp only [if_true] at hrun
  have ha:=fun c0 c1 c2 nw=>Ti (hp:=hp++c0::c1::c2::.cells 0 true []::nw) (L:=L) (H:=H) (d:=[]) (b:=hp.length+3) (c:=cc) (by rw [b7];rfl) (by omega) (hF.jB 3)
  have hG:=fun c0 c1 c2 c3=>JA (h:=hp) (nw:=[c0,c1,c2,.cells 1 true (u8s [cc]),c3]) 3 rfl (kj.plain _ _) (bM (l:=l') (m:=m - 1) (r:=0) (k:=0) (f:=false)) (fun g=>n6)
  simp only [Nat.zero_add,Int.natCast_zero] at *
  have g7:(m:Int) - 1=((m - 1:Nat):Int):=by omega
  simp (disch:=first | exact AM.dis | fail) only [af.sy,simprocAttr,-List.reduceReplicate,hF.all,nW,hz,hzl,hy,hyl,hpy,htk,hrun,hel,av hel,bN,av bN,vo,hu,av hu,hu2,av hu2,e0,e1,e2,hz0,hsd,hpz,g0,g1,g2,g3,g4,g7,hs1,ha,bJ,bt,bM,cP,bW,hG,List.replicate_zero]
 ·simp only [if_neg h0,rsl] at hrun
  have ha:=fun c0 c1 c2 nw=>Tj (hp:=hp++c0::c1::c2::.cells 0 false (u8s (List.replicate r (l.getD 0 0)))::nw) (L:=L) (H:=H) (d:=[]) (b:=hp.length+3) (c:=cc) (n:=r) List.length_replicate (by omega) (by rw [b7];rfl) (hF.jB 3)
  simp only [List.length_append,List.length_cons] at ha
  have hG:=fun c0 c1 c2 c3 c4=>JA (h:=hp) (nw:=[c0,c1,c2,c3,c4,.cells (r+1) true (u8s (List.replicate r (l.getD 0 0)++[cc]))]) 5 rfl (kj.plain _ _) (bM (l:=l') (m:=m - (r+1)) (r:=0) (k:=0) (f:=false)) (fun g=>n6)
  simp (disch:=first | exact AM.dis | fail) only [af.sy,simprocAttr,-List.reduceReplicate,hF.all,nW,hz,hzl,hy,hyl,hpy,htk,hrun,hel,av hel,bN,av bN,vo,hu,av hu,hu2,av hu2,e0,e1,e2,hz0,hsd,hpz,g0,g1,g2,g3,g4,g5,g6,hs1,ha,bJ,bt,bM,cP,bW,hG]
end
end TsH
namespace TsI
open Go Go.RowKit AM af LtA SyP TmM TsA TsB TsC TsD TsE TsF TsG TsH Bt
def sl8(k:Nat)(l:List Nat):Value:=if l.length=0 then .slice none 0 0 else .slice (some ⟨k,0,some l.length⟩) l.length 1
def qu(l:List Nat):List Blk:=if l.length=0 then [] else [.cells l.length true (u8s l)]
section
variable{hp:List Blk}{L:Nat}{H d:List Nat}{l:List Nat}{m r k:Nat}{f:Bool}
theorem Tk{h nw:List Blk}{b:Blk}{cs:List Value}(k:Nat)(hk:nw[k]?=some b)(hb:kj b)(hc:cs.flatMap aG=[])(hr:∀ g,cs.map (cQ g)=cs)(s:Option Nat)(n e:Nat)(x:Bool)(y:Int)(L:Nat)(H:List Nat) :
  gcY h nw (.tuple #[.agg cs.toArray,.slice (some ⟨h.length+k,0,s⟩) n e,.bool x,.int .i64 y]) L H false=some ([.tuple #[.agg cs.toArray,.slice (some ⟨h.length,0,s⟩) n e,.bool x,.int .i64 y]],⟨h++[b],L,H,[]⟩):=by
 have g0:(h++nw)[h.length+k]?=some b:=by rw [b7];exact hk
 unfold gcY
 rw [rN (R:=[h.length+k]) rfl (by simp) (by simp [refs,aT,aG,hc]) (by simp) (by simp) (fun r hr=>by
  simp only [List.mem_cons,List.not_mem_nil,or_false] at hr
  subst hr
  exact ⟨_,g0,hb⟩)]
 have hf:firsts [h.length+k] []=[h.length+k]:=rfl
 rw [hf]
 have p0:plc h.length [h.length+k] (h.length+k)=h.length:=by simp [plc];omega
 simp only [List.map_cons,List.map_nil,ren,fm,cQ,p0,dy,List.getD_eq_getElem?_getD,g0,Option.getD_some,hr]
theorem yJ{s:Nat}(h:DOk l m r k)(hs:s < 2)(hF:Fit hp.length L H) :
  aN env (.func 70) [.agg (aU l m r k false).toArray,.int .i64 s] ⟨hp,L,H,d⟩=some (if r+(1+s)*2 ^ k<=m then .tuple #[.agg (aU l m (r+(1+s)*2 ^ k) (k+1) false).toArray,.slice none 0 0,.bool false,.int .i64 0] else .tuple #[.agg (aU l m r k false).toArray,.slice none 0 0,.bool false,.int .i64 160],⟨hp,L,H,d⟩):=by
 rw [aA 70 _ _ V5]
 have hva:=fun hp L H d hF=>iX (hp:=hp) (L:=L) (H:=H) (d:=d) h hF
 have hst:=fun hp d hF=>JB (hp:=hp) (L:=L) (H:=H) (d:=d) h hs hF
 have hl:=h.bl.len
 have hel:=bH (m:=m) (r:=r) (k:=k) (f:=false) hl
 have e4:=gN (m:=m) (r:=r) (k:=k) (f:=false) hl
 generalize r+(1+s)*2 ^ k=q at *
 have bN:=bH (m:=m) (r:=q) (k:=k+1) (f:=false) hl
 have e4':=gN (m:=m) (r:=q) (k:=k+1) (f:=false) hl
 obtain ⟨z,hz,hzl,_⟩:=cS
 have hpz:putAt z 0 (aU l m q (k+1) false)=aU l m q (k+1) false:=aS (by rw [hzl,bN])
 have qw:putAt (aU l m q (k+1) false) 0 (aU l m r k false)=aU l m r k false:=aS (by rw [hel,bN])
 have C8:putAt (aU l m q (k+1) false) 0 (aU l m q (k+1) false)=aU l m q (k+1) false:=aS rfl
 have g1:¬ (s:Int) < 0:=by omega
 have g2:¬ (s:Int) > 257:=by omega
 by_cases hq:q<=m
 ·have hqd:decide (q<=m)=true:=decide_eq_true hq
  rw [if_pos hq]
  rw [hqd] at hst
  simp (disch:=first | exact AM.dis | fail) only [af.sy,simprocAttr,-List.reduceReplicate,hF.all,vn,hz,hzl,hva,hst,hel,av hel,bN,av bN,e4,e4',hpz,qw,C8,g1,g2,bJ,bt,bM]
 ·have hqd:decide (q<=m)=false:=decide_eq_false hq
  rw [if_neg hq]
  rw [hqd] at hst
  simp (disch:=first | exact AM.dis | fail) only [af.sy,simprocAttr,-List.reduceReplicate,hF.all,vn,hz,hzl,hva,hst,hel,av hel,bN,av bN,e4,e4',hpz,qw,C8,g1,g2,bJ,bt,bM]
theorem Om{s:Nat}(h:DOk l m r k)(hs:2<=s)(hs2:s<=256)(hr:r=m)(hF:Fit hp.length L H) :
  aN env (.func 70) [.agg (aU l m r k false).toArray,.int .i64 s] ⟨hp,L,H,d⟩=some (.tuple #[.agg (aU l m r k false).toArray,.slice none 0 0,.bool false,.int .i64 160],⟨hp,L,H,d⟩):=by
 rw [aA 70 _ _ V5]
 have hva:=fun hp L H d hF=>iX (hp:=hp) (L:=L) (H:=H) (d:=d) h hF
 have hst:=fun hp d hF=>Oj (hp:=hp) (L:=L) (H:=H) (d:=d) h hs hs2 hr hF
 have hl:=h.bl.len
 have hel:=bH (m:=m) (r:=r) (k:=k) (f:=false) hl
 have e4:=gN (m:=m) (r:=r) (k:=k) (f:=false) hl
 obtain ⟨z,hz,hzl,_⟩:=cS
 have hpz:putAt z 0 (aU l m r k false)=aU l m r k false:=aS (by rw [hzl,hel])
 have qw:putAt (aU l m r k false) 0 (aU l m r k false)=aU l m r k false:=aS rfl
 have g1:¬ (s:Int) < 0:=by omega
 have g2:¬ (s:Int) > 257:=by omega
 simp (disch:=first | exact AM.dis | fail) only [af.sy,simprocAttr,-List.reduceReplicate,hF.all,vn,hz,hzl,hva,hst,hel,av hel,e4,hpz,qw,g1,g2,bJ,bt,bM]
theorem On{s:Nat}(h:DOk l m r k)(hs:2<=s)(hs2:s<=256)(hr:r≠m)(hF:Fit hp.length L H) :
  aN env (.func 70) [.agg (aU l m r k false).toArray,.int .i64 s] ⟨hp,L,H,d⟩=some (.tuple #[.agg (aU (bC l (s - 1)) (m - (r+1)) 0 0 false).toArray,.slice (some ⟨hp.length,0,some (r+1)⟩) (r+1) 1,.bool false,.int .i64 0],⟨hp++[.cells (r+1) true (u8s (List.replicate r (l.getD 0 0)++[l.getD (s - 1) 0]))],L,H,d⟩):=by
 rw [aA 70 _ _ V5]
 have hva:=fun hp L H d hF=>iX (hp:=hp) (L:=L) (H:=H) (d:=d) h hF
 have hst:=fun hp d hF=>Ol (hp:=hp) (L:=L) (H:=H) (d:=d) h hs hs2 hr hF
 have hl:=h.bl.len
 have hml:=mO hl (show s - 1 < 256 by omega)
 have hel:=bH (m:=m) (r:=r) (k:=k) (f:=false) hl
 have e4:=gN (m:=m) (r:=r) (k:=k) (f:=false) hl
 have bN:=bH (l:=bC l (s - 1)) (m:=m - (r+1)) (r:=0) (k:=0) (f:=false) hml
 have e4':=gN (l:=bC l (s - 1)) (m:=m - (r+1)) (r:=0) (k:=0) (f:=false) hml
 obtain ⟨z,hz,hzl,_⟩:=cS
 have hpz:putAt z 0 (aU (bC l (s - 1)) (m - (r+1)) 0 0 false)=aU (bC l (s - 1)) (m - (r+1)) 0 0 false:=aS (by rw [hzl,bN])
 have C8:putAt (aU (bC l (s - 1)) (m - (r+1)) 0 0 false) 0 (aU (bC l (s - 1)) (m - (r+1)) 0 0 false)=aU (bC l (s - 1)) (m - (r+1)) 0 0 false:=aS rfl
 have g1:¬ (s:Int) < 0:=by omega
 have g2:¬ (s:Int) > 257:=by omega
 generalize List.replicate r (l.getD 0 0)++[l.getD (s - 1) 0]=t at *
 generalize bC l (s - 1)=l' at *
 have hG:=fun c0 c1=>Tk (h:=hp) (nw:=[c0,c1,.cells (r+1) true (u8s t)]) 2 rfl (kj.plain _ _) (bM (l:=l') (m:=m - (r+1)) (r:=0) (k:=0) (f:=false)) (fun g=>n6)
 simp (disch:=first | exact AM.dis | fail) only [af.sy,simprocAttr,-List.reduceReplicate,hF.all,vn,hz,hzl,hva,hst,hel,av hel,bN,av bN,e4,e4',hpz,C8,g1,g2,bJ,bt,bM,hG]
theorem Bc(h:DOk l m r k)(hF:Fit hp.length L H) :
  aN env (.func 70) [.agg (aU l m r k false).toArray,.int .i64 257] ⟨hp,L,H,d⟩=some (if r=m then (.tuple #[.agg (aU l 0 0 0 true).toArray,Gz hp.length r,.bool true,.int .i64 0],⟨hp++[TsG.fy r (l.getD 0 0)],L,H,d⟩) else (.tuple #[.agg (aU l m r k false).toArray,.slice none 0 0,.bool false,.int .i64 160],⟨hp,L,H,d⟩)):=by
 rw [aA 70 _ _ V5]
 have hva:=fun hp L H d hF=>iX (hp:=hp) (L:=L) (H:=H) (d:=d) h hF
 have hst:=fun hp d hF=>step_done (hp:=hp) (L:=L) (H:=H) (d:=d) h hF
 have hl:=h.bl.len
 have hel:=bH (m:=m) (r:=r) (k:=k) (f:=false) hl
 have e4:=gN (m:=m) (r:=r) (k:=k) (f:=false) hl
 have bN:=bH (m:=0) (r:=0) (k:=0) (f:=true) hl
 have e4':=gN (m:=0) (r:=0) (k:=0) (f:=true) hl
 obtain ⟨z,hz,hzl,_⟩:=cS
 have hpz:putAt z 0 (aU l 0 0 0 true)=aU l 0 0 0 true:=aS (by rw [hzl,bN])
 have qw:putAt (aU l 0 0 0 true) 0 (aU l m r k false)=aU l m r k false:=aS (by rw [hel,bN])
 have C8:putAt (aU l 0 0 0 true) 0 (aU l 0 0 0 true)=aU l 0 0 0 true:=aS rfl
 have hG:=fun c0 c1=>Tk (h:=hp) (nw:=[c0,c1,TsG.fy r (l.getD 0 0)]) 2 rfl (tL _ _) (bM (l:=l) (m:=0) (r:=0) (k:=0) (f:=true)) (fun g=>n6)
 unfold Gz at *
 by_cases hq:r=m
 ·have hqd:decide (r=m)=true:=decide_eq_true hq
  rw [hqd] at hst
  rw [if_pos hq]
  by_cases h0:r=0
  ·simp only [if_pos h0] at hst ⊢
   simp (disch:=first | exact AM.dis | fail) only [af.sy,simprocAttr,-List.reduceReplicate,hF.all,vn,hz,hzl,hva,hst,hel,av hel,bN,av bN,e4,e4',hpz,qw,C8,bJ,bt,bM,hG]
  ·simp only [if_neg h0,rsl] at hst ⊢
   simp (disch:=first | exact AM.dis | fail) only [af.sy,simprocAttr,-List.reduceReplicate,hF.all,vn,hz,hzl,hva,hst,hel,av hel,bN,av bN,e4,e4',hpz,qw,C8,bJ,bt,bM,hG]
 ·have hqd:decide (r=m)=false:=decide_eq_false hq
  rw [hqd] at hst
  rw [if_neg hq]
  by_cases h0:r=0
  ·simp only [if_pos h0] at hst ⊢
   simp (disch:=first | exact AM.dis | fail) only [af.sy,simprocAttr,-List.reduceReplicate,hF.all,vn,hz,hzl,hva,hst,hel,av hel,bN,av bN,e4,e4',hpz,qw,C8,bJ,bt,bM]
  ·simp only [if_neg h0,rsl] at hst ⊢
   simp (disch:=first | exact AM.dis | fail) only [af.sy,simprocAttr,-List.reduceReplicate,hF.all,vn,hz,hzl,hva,hst,hel,av hel,bN,av bN,e4,e4',hpz,qw,C8,bJ,bt,bM]
end
end TsI
namespace TsJ
open Go Go.RowKit AM af LtA SyP TmM TsA TsB TsC TsD TsE TsF TsG TsH TsI Bt
def Si(hp:List Blk)(H:List Nat)(v:Value)(l:List Nat):Prop:=∃ b of g e pl cs,v=.slice (some ⟨b,of,some g⟩) l.length e/\H.contains b=false/\hp[b]?=some (.cells g pl cs)/\∀ i (h:i < l.length),cs[of+i]?=some (.int .i64 (l[i]:Nat))
theorem _root_.Go.Proofs.YtgdpefeomemllaaGreat.TsG.DOk.small{l:List Nat}{m r k s:Nat}(h:DOk l m r k)(hs:s < 2)(hq:r+(1+s)*2 ^ k<=m):DOk l m (r+(1+s)*2 ^ k) (k+1):=by
 obtain ⟨b1,b2,b3,b4,b5,b6⟩:=h
 have hpos:1<=(2:Nat) ^ k:=Nat.one_le_two_pow
 have hk:k+1<=16:=by
  rcases Nat.lt_or_ge k 16 with h | h
  ·exact h
  ·obtain rfl:k=16:=by omega
   have h16:(2:Nat) ^ 16=65536:=by decide
   rw [h16] at b5 hq
   rcases (show s=0\/s=1 by omega) with rfl | rfl<;>omega
 have e:(2:Nat) ^ (k+1)=2*2 ^ k:=by rw [Nat.pow_succ];omega
 refine ⟨b1,b2,hq,hk,?_,?_⟩<;>rw [e]<;>generalize (2:Nat) ^ k=P at*<;> rcases (show s=0\/s=1 by omega) with rfl | rfl<;>omega
theorem _root_.Go.Proofs.YtgdpefeomemllaaGreat.TsG.DOk.more{l:List Nat}{m r k s:Nat}(h:DOk l m r k)(hs:s<=256):DOk (bC l (s - 1)) (m - (r+1)) 0 0:=
 ⟨h.bl.take (by omega),by have:=h.hm;omega,Nat.zero_le _,by decide,by decide,by decide⟩
section
variable{hp:List Blk}{L:Nat}{H d:List Nat}{l:List Nat}{m r k:Nat}{f:Bool}
def tM(hp:List Blk)(v:Value)(n i:Nat)(sl:Value):Fr:=[(24,.int .i64 i),(23,.int .i64 n),(22,v),(7,.pointer (some ⟨hp.length,0,some 0⟩)),(4,sl)]
theorem C9{k n:Nat}{cs:List Value}{c0:Blk}{nw:List Blk}{v:Value}{i j:Int}(hk:nw[k]?=some (.cells n true cs))(hv:∀ r∈refs v,r < hp.length) :
  gQ (hp.length+1) [(24,.int .i64 i),(23,.int .i64 j),(22,v),(7,.pointer (some ⟨hp.length,0,some 0⟩)),(4,.slice (some ⟨hp.length+1+k,0,some n⟩) n 1)] ⟨hp++c0::nw,L,H,[]⟩
   = some ([(24,.int .i64 i),(23,.int .i64 j),(22,v),(7,.pointer (some ⟨hp.length,0,some 0⟩)),(4,.slice (some ⟨hp.length+1,0,some n⟩) n 1)],⟨hp++[c0,.cells n true cs],L,H,[]⟩):=by
 unfold gQ
 have e:hp++c0::nw=(hp++[c0])++nw:=by simp
 have hl:(hp++[c0]).length=hp.length+1:=by simp
 have G:=qt (h:=hp++[c0]) (nw:=nw) (k:=k) (L:=L) (H:=H) (d:=[]) (vs:=List.map (·.2) [(24,.int .i64 i),(23,.int .i64 j),(22,v),(7,.pointer (some ⟨hp.length,0,some 0⟩)),(4,.slice (some ⟨hp.length+1+k,0,some n⟩) n 1)]) hk (by
  intro u hu r hr
  rw [hl]
  simp only [List.map_cons,List.map_nil,List.mem_cons,List.not_mem_nil,or_false] at hu
  rcases hu with rfl | rfl | rfl | rfl | rfl
  ·simp [refs,aT,aG] at hr
  ·simp [refs,aT,aG] at hr
  ·have:=hv r hr;omega
  ·simp [refs,aT,aG] at hr;omega
  ·simp [refs,aT,aG] at hr;omega) ⟨.slice (some ⟨hp.length+1+k,0,some n⟩) n 1,by simp,by rw [hl];simp [refs,aT,aG]⟩ rfl
 rw [hl] at G
 rw [e,G]
 have o0:AM.one (hp.length+1) (hp.length+1+k) hp.length=hp.length:=iW (by omega)
 have o2:AM.one (hp.length+1) (hp.length+1+k) (hp.length+1+k)=hp.length+1:=dD
 have o3:ren (AM.one (hp.length+1) (hp.length+1+k)) v=v:=yE fun r hr=>iW (by have:=hv r hr;omega)
 simp only [Option.map_some,List.map_cons,List.map_nil,List.zip_cons_cons,List.zip_nil_left,o3]
 simp only [ren,fm,cQ,o0,o2,List.append_assoc,List.cons_append,List.nil_append]
theorem gZ{k N:Nat}{W:List Nat}(h:W.length=N)(h0:N≠0):sl8 k W=.slice (some ⟨k,0,some N⟩) N 1:=by
 subst h;unfold sl8;rw [if_neg h0]
theorem gF{N:Nat}{W:List Nat}(h:W.length=N)(h0:N≠0):qu W=[.cells N true (u8s W)]:=by
 subst h;unfold qu;rw [if_neg h0]
theorem ey(k:Nat):sl8 k []=.slice none 0 0:=rfl
theorem dB:qu []=[]:=rfl
theorem Tl{S:List Nat}{v:Value}(hS:Si hp H v S)(hSl:S.length<=1000000){i:Nat}(hi:i < S.length)(h:DOk l m r k)(hs:S[i] < 2)(hq:r+(1+S[i])*2 ^ k<=m){acc:List Nat}(hF:Fit hp.length L H) :
  aX env iK [24,23,22,7,4] (hp.length+1) (tM hp v S.length i (sl8 (hp.length+1) acc)) ⟨hp++.cells 0 true (aU l m r k false)::qu acc,L,H,[]⟩
  = aX env iK [24,23,22,7,4] (hp.length+1) (tM hp v S.length (i+1) (sl8 (hp.length+1) acc)) ⟨hp++.cells 0 true (aU l m (r+(1+S[i])*2 ^ k) (k+1) false)::qu acc,L,H,[]⟩:=by
 obtain ⟨b,of,g,e,pl,cs,rfl,hh,hb,hc⟩:=hS
 have hc:=hc i hi
 have hbl:=(List.getElem?_eq_some_iff.1 hb).1
 have hl:=h.bl.len
 have hst:=fun hp d hF=>yJ (hp:=hp) (L:=L) (H:=H) (d:=d) h hs hF
 rw [if_pos hq] at hst
 have h1:(i:Int) < S.length:=by omega
 have h2:0<=(i:Int)/\(i:Int) < S.length:=by omega
 generalize r+(1+S[i])*2 ^ k=q at *
 generalize S[i]=s at *
 have hel:=bH (m:=m) (r:=r) (k:=k) (f:=false) hl
 have bN:=bH (m:=m) (r:=q) (k:=k+1) (f:=false) hl
 obtain ⟨z,hz,hzl,_⟩:=cS
 have hpz:putAt z 0 (aU l m q (k+1) false)=aU l m q (k+1) false:=aS (by rw [hzl,bN])
 have qw:putAt (aU l m r k false) 0 (aU l m q (k+1) false)=aU l m q (k+1) false:=aS (by rw [hel,bN])
 have hv:∀ r∈refs (.slice (some ⟨b,of,some g⟩) S.length e),r < hp.length:=by simp [refs,aT,aG];exact hbl
 unfold tM
 rw [aB iK.eq_1]
 simp only [Int.natCast_add,Int.natCast_one]
 by_cases h0:acc=[]
 ·subst h0
  have hg:=fun c0 nw i'=>FI (hp:=hp) (nw:=c0::nw) (fr:=[(24,.int .i64 i'),(23,.int .i64 (S.length:Int)),(22,.slice (some ⟨b,of,some g⟩) S.length e),(7,.pointer (some ⟨hp.length,0,some 0⟩)),(4,.slice none 0 0)]) (L:=L) (H:=H) 1 (by simp) (by
   intro p hp' x hx
   simp only [List.mem_cons,List.not_mem_nil,or_false] at hp'
   rcases hp' with rfl | rfl | rfl | rfl | rfl
   ·simp [refs,aT,aG] at hx
   ·simp [refs,aT,aG] at hx
   ·have:=hv x hx;omega
   ·simp [refs,aT,aG] at hx;omega
   ·simp [refs,aT,aG] at hx)
  simp only [List.take_succ_cons,List.take_zero] at hg
  simp (disch:=first | exact AM.dis | fail) only [af.sy,simprocAttr,-List.reduceReplicate,hF.all,ey,dB,h1,h2,hb,hh,hc,hst,hz,hzl,hel,av hel,bN,av bN,hpz,qw,bJ,bt,jg,hg]
 ·have ho0:¬ acc.length=0:=by cases acc<;>simp at h0 ⊢
  rw [gZ rfl ho0,gF rfl ho0]
  have hg:=fun c0 c1 i'=>C9 (hp:=hp) (L:=L) (H:=H) (k:=0) (n:=acc.length) (cs:=u8s acc) (c0:=c0) (nw:=[.cells acc.length true (u8s acc),c1]) (i:=i') (j:=(S.length:Int)) rfl hv
  simp only [Nat.add_zero] at hg
  simp (disch:=first | exact AM.dis | fail) only [af.sy,simprocAttr,-List.reduceReplicate,hF.all,ey,dB,h1,h2,hb,hh,hc,hst,hz,hzl,hel,av hel,bN,av bN,hpz,qw,bJ,bt,jh,hg]
theorem yK{n:Nat}{t:List Nat}(hn:t.length=n)(h0:n≠0)(hs:n<=1048576):St.append ⟨hp,L,H,d⟩ true 1 (.slice none 0 0) n (u8s t)=some (.slice (some ⟨hp.length,0,some n⟩) n 1,⟨hp++[.cells n true (u8s t)],L,H,d⟩):=by
 subst hn
 exact FF (by intro h;rw [h] at h0;exact h0 rfl) hs
theorem Da{b n a:Nat}{t u:List Nat}(hn:t.length=n)(ha:u.length=a)(hb:hp[b]?=some (.cells a true (u8s u)))(hL:L<=b)(hh:H.contains b=false)(hs:a+n<=1048576) :
  St.append ⟨hp,L,H,d⟩ true 1 (.slice (some ⟨b,0,some a⟩) a 1) n (u8s t)=some (.slice (some ⟨b,0,some (a+n)⟩) (a+n) 1,⟨hp.set b (.cells (a+n) true (u8s (u++t))),L,H,d⟩):=by
 subst hn;subst ha
 have:=FH (d:=d) (l:=t) hb hL hh hs
 simp only [List.length_append] at this
 exact this
theorem Wp{S:List Nat}{v:Value}(hS:Si hp H v S)(hSl:S.length<=1000000){i:Nat}(hi:i < S.length)(h:DOk l m r k)(hs:2<=S[i])(hs2:S[i]<=256)(hr:r≠m){acc:List Nat}(hacc:acc.length+m<=100000)(hF:Fit hp.length L H) :
  aX env iK [24,23,22,7,4] (hp.length+1) (tM hp v S.length i (sl8 (hp.length+1) acc)) ⟨hp++.cells 0 true (aU l m r k false)::qu acc,L,H,[]⟩
  = aX env iK [24,23,22,7,4] (hp.length+1) (tM hp v S.length (i+1) (sl8 (hp.length+1) (acc++(List.replicate r (l.getD 0 0)++[l.getD (S[i] - 1) 0])))) ⟨hp++.cells 0 true (aU (bC l (S[i] - 1)) (m - (r+1)) 0 0 false)::qu (acc++(List.replicate r (l.getD 0 0)++[l.getD (S[i] - 1) 0])),L,H,[]⟩:=by
 obtain ⟨b,of,g,e,pl,cs,rfl,hh,hb,hc⟩:=hS
 have hc:=hc i hi
 have hbl:=(List.getElem?_eq_some_iff.1 hb).1
 have hl:=h.bl.len
 have hrm:=h.hr
 have hst:=fun hp d hF=>On (hp:=hp) (L:=L) (H:=H) (d:=d) h hs hs2 hr hF
 have hml:=mO hl (show S[i] - 1 < 256 by omega)
 have h1:(i:Int) < S.length:=by omega
 have h2:0<=(i:Int)/\(i:Int) < S.length:=by omega
 have htl:(List.replicate r (l.getD 0 0)++[l.getD (S[i] - 1) 0]).length=r+1:=by simp
 have hel:=bH (m:=m) (r:=r) (k:=k) (f:=false) hl
 have bN:=bH (l:=bC l (S[i] - 1)) (m:=m - (r+1)) (r:=0) (k:=0) (f:=false) hml
 generalize List.replicate r (l.getD 0 0)++[l.getD (S[i] - 1) 0]=t at *
 generalize bC l (S[i] - 1)=l' at *
 generalize S[i]=s at *
 obtain ⟨z,hz,hzl,_⟩:=cS
 have hpz:putAt z 0 (aU l' (m - (r+1)) 0 0 false)=aU l' (m - (r+1)) 0 0 false:=aS (by rw [hzl,bN])
 have qw:putAt (aU l m r k false) 0 (aU l' (m - (r+1)) 0 0 false)=aU l' (m - (r+1)) 0 0 false:=aS (by rw [hel,bN])
 have hv:∀ r∈refs (.slice (some ⟨b,of,some g⟩) S.length e),r < hp.length:=by simp [refs,aT,aG];exact hbl
 have hut:(u8s t).length=r+1:=by rw [aq,htl]
 have hF2:=hF.1
 unfold tM
 rw [aB iK.eq_1]
 simp only [Int.natCast_add,Int.natCast_one]
 by_cases h0:acc=[]
 ·subst h0
  have hN:([]++t:List Nat).length=r+1:=htl
  rw [gZ hN (by omega),gF hN (by omega)]
  have ha:=fun nw=>yK (hp:=hp++nw) (L:=L) (H:=H) (d:=[]) htl (by omega) (by omega)
  simp only [List.length_append] at ha
  have hg:=fun c0 c1 c2 i'=>C9 (hp:=hp) (L:=L) (H:=H) (k:=2) (n:=r+1) (cs:=u8s t) (c0:=c0) (nw:=[c1,c2,.cells (r+1) true (u8s t)]) (i:=i') (j:=(S.length:Int)) rfl hv
  simp only [Nat.add_assoc,Nat.reduceAdd] at hg
  simp (disch:=first | exact AM.dis | fail) only [af.sy,simprocAttr,-List.reduceReplicate,hF.all,ey,dB,h1,h2,hb,hh,hc,hst,hz,hzl,hel,av hel,bN,av bN,hpz,qw,bJ,bt,hut,av hut,ha,hg]
 ·have ho0:¬ acc.length=0:=by cases acc<;>simp at h0 ⊢
  have hN:(acc++t:List Nat).length=acc.length+(r+1):=by rw [List.length_append,htl]
  rw [gZ rfl ho0,gF rfl ho0,gZ hN (by omega),gF hN (by omega)]
  have ha:=fun c0 nw=>Da (hp:=hp++c0::.cells acc.length true (u8s acc)::nw) (L:=L) (H:=H) (d:=[]) (b:=hp.length+1) htl rfl (by rw [b7];rfl) (by omega) (hF.jB 1) (by omega)
  have hg:=fun c0 c1 c2 i'=>C9 (hp:=hp) (L:=L) (H:=H) (k:=0) (n:=acc.length+(r+1)) (cs:=u8s (acc++t)) (c0:=c0) (nw:=[.cells (acc.length+(r+1)) true (u8s (acc++t)),c1,c2]) (i:=i') (j:=(S.length:Int)) rfl hv
  simp only [Nat.add_zero] at hg
  simp (disch:=first | exact AM.dis | fail) only [af.sy,simprocAttr,-List.reduceReplicate,hF.all,ey,dB,h1,h2,hb,hh,hc,hst,hz,hzl,hel,av hel,bN,av bN,hpz,qw,bJ,bt,hut,av hut,ha,hg]
end
end TsJ
namespace TsK
open Go Go.RowKit AM af LtA SyP TmM TsA TsB TsC TsD TsE TsF TsG TsH TsI TsJ Bt
section
variable{hp:List Blk}{L:Nat}{H d:List Nat}{l:List Nat}{m r k:Nat}{f:Bool}
def Ends(hp:List Blk)(L:Nat)(H:List Nat)(acc:List Nat)(i:Nat)(D:Option (List Nat×Nat))(res:Option (Ex×Fr×St)):Prop:=∃ fr nw,match D with
 | none=>(res=some (.ret,fr,⟨hp++nw,L,H,[]⟩)/\fr.get 4=some (.slice none 0 0)/\fr.get 5=some (.int .i64 0)/\fr.get 6=some (.int .i64 160))\/res=some (.exit 0,fr,⟨hp++nw,L,H,[]⟩)
 | some (t,n)=>res=some (.ret,fr,⟨hp++nw,L,H,[]⟩)/\fr.get 5=some (.int .i64 (i+n:Nat))/\fr.get 6=some (.int .i64 0)/\∃ kk,fr.get 4=some (sl8 (hp.length+kk) (acc++t))/\((acc++t).length≠0->nw[kk]?=some (.cells (acc++t).length true (u8s (acc++t))))
theorem JC{S:List Nat}{v:Value}(hS:Si hp H v S)(hSl:S.length<=1000000){i:Nat}(hi:i < S.length)(h:DOk l m r k){acc:List Nat}(hF:Fit hp.length L H)
  (hst:∀ hp d,Fit hp.length L H->aN env (.func 70) [.agg (aU l m r k false).toArray,.int .i64 (S[i]:Nat)] ⟨hp,L,H,d⟩=some (.tuple #[.agg (aU l m r k false).toArray,.slice none 0 0,.bool false,.int .i64 160],⟨hp,L,H,d⟩)) :
  Ends hp L H acc i none (aX env iK [24,23,22,7,4] (hp.length+1) (tM hp v S.length i (sl8 (hp.length+1) acc)) ⟨hp++.cells 0 true (aU l m r k false)::qu acc,L,H,[]⟩):=by
 obtain ⟨b,of,g,e,pl,cs,rfl,hh,hb,hc⟩:=hS
 have hc:=hc i hi
 have hbl:=(List.getElem?_eq_some_iff.1 hb).1
 have hl:=h.bl.len
 have h1:(i:Int) < S.length:=by omega
 have h2:0<=(i:Int)/\(i:Int) < S.length:=by omega
 generalize S[i]=s at *
 have hel:=bH (m:=m) (r:=r) (k:=k) (f:=false) hl
 obtain ⟨z,hz,hzl,_⟩:=cS
 have hpz:putAt z 0 (aU l m r k false)=aU l m r k false:=aS (by rw [hzl,hel])
 unfold tM Ends
 rw [aB iK.eq_1]
 by_cases h0:acc=[]
 ·subst h0
  simp (disch:=first | exact AM.dis | fail) only [af.sy,simprocAttr,-List.reduceReplicate,hF.all,ey,dB,h1,h2,hb,hh,hc,hst,hz,hzl,hel,av hel,hpz,bJ,bt]
  exact ⟨_,_,.inl ⟨rfl,rfl,rfl,rfl⟩⟩
 ·have ho0:¬ acc.length=0:=by cases acc<;>simp at h0 ⊢
  rw [gZ rfl ho0,gF rfl ho0]
  simp (disch:=first | exact AM.dis | fail) only [af.sy,simprocAttr,-List.reduceReplicate,hF.all,ey,dB,h1,h2,hb,hh,hc,hst,hz,hzl,hel,av hel,hpz,bJ,bt]
  exact ⟨_,_,.inl ⟨rfl,rfl,rfl,rfl⟩⟩
theorem oU{acc t:List Nat}{i n:Nat}{res:Option (Ex×Fr×St)} : Ends hp L H acc i (some (t,n)) res↔∃ fr nw,res=some (.ret,fr,⟨hp++nw,L,H,[]⟩)/\fr.get 5=some (.int .i64 (i+n:Nat))/\fr.get 6=some (.int .i64 0)/\∃ kk,fr.get 4=some (sl8 (hp.length+kk) (acc++t))/\((acc++t).length≠0->nw[kk]?=some (.cells (acc++t).length true (u8s (acc++t)))):=Iff.rfl
theorem Wq{S:List Nat}{v:Value}(hS:Si hp H v S)(hSl:S.length<=1000000){i:Nat}(hi:i < S.length)(h:DOk l m r k)(hs:S[i]=257)(hr:r=m){acc:List Nat}(hacc:acc.length+m<=100000)(hF:Fit hp.length L H) :
  Ends hp L H acc i (some (List.replicate r (l.getD 0 0),1)) (aX env iK [24,23,22,7,4] (hp.length+1) (tM hp v S.length i (sl8 (hp.length+1) acc)) ⟨hp++.cells 0 true (aU l m r k false)::qu acc,L,H,[]⟩):=by
 obtain ⟨b,of,g,e,pl,cs,rfl,hh,hb,hc⟩:=hS
 have hc:=hc i hi
 have hbl:=(List.getElem?_eq_some_iff.1 hb).1
 have hl:=h.bl.len
 have hst:=fun hp d hF=>Bc (hp:=hp) (L:=L) (H:=H) (d:=d) h hF
 have hrm:=h.hr
 simp only [if_pos hr] at hst
 have h1:(i:Int) < S.length:=by omega
 have h2:0<=(i:Int)/\(i:Int) < S.length:=by omega
 rw [hs] at hc
 have hel:=bH (m:=m) (r:=r) (k:=k) (f:=false) hl
 have bN:=bH (m:=0) (r:=0) (k:=0) (f:=true) hl
 obtain ⟨z,hz,hzl,_⟩:=cS
 have hpz:putAt z 0 (aU l 0 0 0 true)=aU l 0 0 0 true:=aS (by rw [hzl,bN])
 have hF2:=hF.1
 have htl:(List.replicate r (l.getD 0 0)).length=r:=List.length_replicate
 have hut:(u8s (List.replicate r (l.getD 0 0))).length=r:=by rw [aq,htl]
 unfold Gz TsG.fy at hst
 rw [oU]
 unfold tM
 rw [aB iK.eq_1]
 simp only [Int.cast_ofNat_Int] at hc
 by_cases hr0:r=0
 ·simp only [if_pos hr0] at hst
  have ht0:List.replicate r (l.getD 0 0)=[]:=by rw [hr0];rfl
  simp only [ht0,List.append_nil]
  by_cases h0:acc=[]
  ·subst h0
   simp (disch:=first | exact AM.dis | fail) only [af.sy,simprocAttr,-List.reduceReplicate,hF.all,ey,dB,h1,h2,hb,hh,hc,hst,hz,hzl,hel,av hel,bN,av bN,hpz,bJ,bt,jg]
   exact ⟨_,_,rfl,rfl,rfl,0,rfl,fun h=>h.elim⟩
  ·have ho0:¬ acc.length=0:=by cases acc<;>simp at h0 ⊢
   rw [gZ rfl ho0,gF rfl ho0]
   simp (disch:=first | exact AM.dis | fail) only [af.sy,simprocAttr,-List.reduceReplicate,hF.all,ey,dB,h1,h2,hb,hh,hc,hst,hz,hzl,hel,av hel,bN,av bN,hpz,bJ,bt,jh]
   exact ⟨_,_,rfl,rfl,rfl,1,by rw [gZ rfl ho0];rfl,fun _=>rfl⟩
 ·simp only [if_neg hr0,rsl] at hst
  generalize List.replicate r (l.getD 0 0)=t at *
  by_cases h0:acc=[]
  ·subst h0
   have ha:=fun nw=>yK (hp:=hp++nw) (L:=L) (H:=H) (d:=[]) htl (by omega) (by omega)
   simp only [List.length_append] at ha
   simp (disch:=first | exact AM.dis | fail) only [af.sy,simprocAttr,-List.reduceReplicate,hF.all,ey,dB,h1,h2,hb,hh,hc,hst,hz,hzl,hel,av hel,bN,av bN,hpz,bJ,bt,hut,av hut,ha]
   exact ⟨_,_,rfl,rfl,rfl,3,by rw [gZ htl hr0];rfl,fun _=>by rw [htl];rfl⟩
  ·have ho0:¬ acc.length=0:=by cases acc<;>simp at h0 ⊢
   have hN:(acc++t:List Nat).length=acc.length+r:=by rw [List.length_append,htl]
   rw [gZ rfl ho0,gF rfl ho0]
   have ha:=fun c0 nw=>Da (hp:=hp++c0::.cells acc.length true (u8s acc)::nw) (L:=L) (H:=H) (d:=[]) (b:=hp.length+1) htl rfl (by rw [b7];rfl) (by omega) (hF.jB 1) (by omega)
   simp (disch:=first | exact AM.dis | fail) only [af.sy,simprocAttr,-List.reduceReplicate,hF.all,ey,dB,h1,h2,hb,hh,hc,hst,hz,hzl,hel,av hel,bN,av bN,hpz,bJ,bt,hut,av hut,ha]
   exact ⟨_,_,rfl,rfl,rfl,1,by rw [gZ hN (by omega)];rfl,fun _=>by rw [htl];rfl⟩
theorem GB{acc t:List Nat}{i:Nat}{D:Option (List Nat×Nat)}{res:Option (Ex×Fr×St)}(h:Ends hp L H (acc++t) (i+1) D res):Ends hp L H acc i (D.map fun q=>(t++q.1,q.2+1)) res:=by
 cases D with
 | none=>exact h
 | some q=>
  obtain ⟨u,n⟩:=q
  rw [oU] at h
  show Ends hp L H acc i (some (t++u,n+1)) res
  rw [oU]
  obtain ⟨fr,nw,h1,h2,h3,kk,h4,h5⟩:=h
  rw [List.append_assoc] at h4 h5
  exact ⟨fr,nw,h1,by rw [h2];congr 3;omega,h3,kk,h4,h5⟩
theorem Db{S:List Nat}{v:Value}(hS:Si hp H v S)(hSl:S.length<=1000000)(hs:∀ s∈S,s<=257)(hF:Fit hp.length L H):∀ (n i:Nat) (l:List Nat) (m r k:Nat) (acc:List Nat),i+n=S.length->DOk l m r k->acc.length+m<=100000 ->
  Ends hp L H acc i (dec ⟨l,m,r,k⟩ (S.drop i)) (aX env iK [24,23,22,7,4] (hp.length+1) (tM hp v S.length i (sl8 (hp.length+1) acc)) ⟨hp++.cells 0 true (aU l m r k false)::qu acc,L,H,[]⟩)
 | 0,i,l,m,r,k,acc,e1,h,hacc=>by
  rw [List.drop_of_length_le (by omega),dec]
  obtain ⟨b,of,g,e,pl,cs,rfl,hh,hb,hc⟩:=hS
  have h1:¬ (i:Int) < S.length:=by omega
  unfold tM Ends
  rw [aB iK.eq_1]
  simp (disch:=first | exact AM.dis | fail) only [af.sy,simprocAttr,-List.reduceReplicate,hF.all,h1]
  exact ⟨_,_,.inr rfl⟩
 | n+1,i,l,m,r,k,acc,e1,h,hacc=>by
  have hi:i < S.length:=by omega
  have hsi:=hs _ (List.getElem_mem hi)
  rw [List.drop_eq_getElem_cons hi,dec]
  have hrm:=h.hr
  unfold rK
  by_cases h2:S[i] < 2
  ·rw [if_pos h2]
   by_cases hq:r+(1+S[i])*2 ^ k<=m
   ·simp only [if_pos hq]
    rw [Tl hS hSl hi h h2 hq hF]
    have ih:=Db hS hSl hs hF n (i+1) l m (r+(1+S[i])*2 ^ k) (k+1) acc (by omega) (h.small h2 hq) hacc
    exact GB (t:=[]) (by rw [List.append_nil];exact ih)
   ·simp only [if_neg hq]
    refine JC hS hSl hi h hF fun hp d hF=>?_
    have:=yJ (hp:=hp) (L:=L) (H:=H) (d:=d) h h2 hF
    rw [if_neg hq] at this
    exact this
  ·rw [if_neg h2]
   by_cases h3:S[i]=257
   ·rw [if_pos h3]
    by_cases hq:r=m
    ·simp only [if_pos hq]
     exact Wq hS hSl hi h h3 hq hacc hF
    ·simp only [if_neg hq]
     refine JC hS hSl hi h hF fun hp d hF=>?_
     have:=Bc (hp:=hp) (L:=L) (H:=H) (d:=d) h hF
     rw [if_neg hq] at this
     rw [h3]
     exact this
   ·rw [if_neg h3]
    by_cases hq:r=m
    ·simp only [if_pos hq]
     exact JC hS hSl hi h hF fun hp d hF=>Om (hp:=hp) (L:=L) (H:=H) (d:=d) h (by omega) (by omega) hq hF
    ·simp only [if_neg hq]
     rw [Wp hS hSl hi h (by omega) (by omega) hq hacc hF]
     exact GB (Db hS hSl hs hF n (i+1) _ _ 0 0 _ (by omega) (h.more (by omega)) (by simp only [List.length_append,List.length_replicate,List.length_cons,List.length_nil];omega))
end
end TsK
namespace TsM
open Go Go.RowKit AM af LtA SyP TmM TsA TsB TsC TsD TsE TsF TsG TsH TsI TsJ TsK Bt
section
variable{hp:List Blk}{L:Nat}{H d:List Nat}
def Wt(hp:List Blk)(L:Nat)(H d:List Nat):Option (List Nat×Nat)->Value×St
 | none=>(.tuple #[.slice none 0 0,.int .i64 0,.int .i64 160],⟨hp,L,H,d⟩)
 | some (t,n)=>(.tuple #[sl8 hp.length t,.int .i64 n,.int .i64 0],⟨hp++qu t,L,H,d⟩)
theorem n7{S:List Nat}{v:Value}(hS:Si hp H v S)(hSl:S.length<=1000000)(hs:∀ s∈S,s<=257){m:Nat}(h1:1<=m)(h2:m<=65536)(hF:Fit hp.length L H) :
  aN env (.func 24) [.int .i64 m,v] ⟨hp,L,H,d⟩=some (Wt hp L H d (tE m S)):=by
 rw [aA 24 _ _ adp]
 have hn:=fun hp d hF=>Gy (hp:=hp) (L:=L) (H:=H) (d:=d) h1 h2 hF
 have hlen:(aU bP m 0 0 false).length=260:=bH eE
 obtain ⟨z,hz,hzl,_⟩:=cS
 have hpz:putAt z 0 (aU bP m 0 0 false)=aU bP m 0 0 false:=aS (by rw [hzl,hlen])
 have hD:DOk bP m 0 0:=⟨Bl.zero,h2,Nat.zero_le _,by decide,by decide,by decide⟩
 have hlp:=Db (L:=L) (H:=H) hS hSl hs hF S.length 0 bP m 0 0 [] (by omega) hD (by simp;omega)
 rw [List.drop_zero] at hlp
 change TsK.Ends hp L H [] 0 (tE m S) _ at hlp
 have hS':=hS
 obtain ⟨b,of,g,e,pl,cs,rfl,hh,hb,hc⟩:=hS'
 have g1:¬ (m:Int) < 1:=by omega
 have g2:¬ (m:Int) > 65536:=by omega
 unfold tM at hlp
 simp only [ey,dB,Int.natCast_zero] at hlp
 cases hD0:tE m S with
 | none=>
  rw [hD0] at hlp
  obtain ⟨fr,nw,⟨e1,e2,e3,e4⟩ | e1⟩:=hlp
  ·show _=some (Value.tuple #[.slice none 0 0,.int .i64 0,.int .i64 160],_)
   simp (disch:=first | exact AM.dis | fail) only [af.sy,simprocAttr,-List.reduceReplicate,hF.all,Jr,hn,hz,hzl,hpz,hlen,av hlen,bJ,bt,g1,g2,e1,e2,e3,e4]
  ·show _=some (Value.tuple #[.slice none 0 0,.int .i64 0,.int .i64 160],_)
   simp (disch:=first | exact AM.dis | fail) only [af.sy,simprocAttr,-List.reduceReplicate,hF.all,Jr,hn,hz,hzl,hpz,hlen,av hlen,bJ,bt,g1,g2,e1]
 | some q=>
  obtain ⟨t,n⟩:=q
  rw [hD0,oU] at hlp
  obtain ⟨fr,nw,e1,e3,e4,kk,e2,e5⟩:=hlp
  simp only [List.nil_append,Nat.zero_add] at e2 e3 e5
  show _=some (Value.tuple #[sl8 hp.length t,.int .i64 n,.int .i64 0],(⟨hp++qu t,L,H,d⟩:St))
  by_cases h0:t.length=0
  ·have:t=[]:=List.eq_nil_of_length_eq_zero h0
   subst this
   rw [ey] at e2
   simp (disch:=first | exact AM.dis | fail) only [af.sy,simprocAttr,-List.reduceReplicate,hF.all,Jr,ey,dB,hn,hz,hzl,hpz,hlen,av hlen,bJ,bt,g1,g2,e1,e2,e3,e4]
  ·rw [gZ rfl h0] at e2
   rw [gZ rfl h0,gF rfl h0]
   have hG:=gA (h:=hp) (nw:=nw) (L:=L) (H:=H) (v:=.tuple #[.slice (some ⟨hp.length+kk,0,some t.length⟩) t.length 1,.int .i64 n,.int .i64 0]) kk (e5 h0) (by simp [refs,aT,aG]) (by simp [refs,aT,aG])
   have o2:AM.one hp.length (hp.length+kk) (hp.length+kk)=hp.length:=dD
   simp (disch:=first | exact AM.dis | fail) only [af.sy,simprocAttr,-List.reduceReplicate,hF.all,Jr,hn,hz,hzl,hpz,hlen,av hlen,bJ,bt,g1,g2,e1,e2,e3,e4,hG,ren,fm,cQ,o2,List.map_cons,List.map_nil]
end
end TsM
namespace TtA
open Go Go.RowKit AM af LtA SyP TmM TsA TsB TsI Bt
def rS(x:List Nat)(i:Nat):List Nat:=(List.range x.length).map fun p=>if p < i\/x.length - i<=p then x.getD (x.length - 1 - p) 0 else x.getD p 0
theorem lO(x:List Nat)(i:Nat):(rS x i).length=x.length:=by simp [rS]
theorem lP{x:List Nat}{i p:Nat}(hp:p < x.length):(rS x i)[p]?=some (if p < i\/x.length - i<=p then x.getD (x.length - 1 - p) 0 else x.getD p 0):=by
 simp [rS,hp]
theorem LF{x:List Nat}{p:Nat}(hp:p < x.length):x[p]?=some (x.getD p 0):=by
 rw [List.getD_eq_getElem?_getD,List.getElem?_eq_getElem hp];rfl
theorem Oo(x:List Nat):rS x 0=x:=by
 apply List.ext_getElem?
 intro p
 by_cases hp:p < x.length
 ·rw [lP hp,if_neg (by omega),LF hp]
 ·rw [List.getElem?_eq_none (by rw [lO];omega),List.getElem?_eq_none (by omega)]
theorem Tm{x:List Nat}{i:Nat}(h:x.length<=2*i+1):rS x i=x.reverse:=by
 apply List.ext_getElem?
 intro p
 by_cases hp:p < x.length
 ·rw [lP hp,List.getElem?_reverse hp,LF (by omega)]
  congr 1
  by_cases h1:p < i\/x.length - i<=p
  ·rw [if_pos h1]
  ·rw [if_neg h1]
   congr 1
   omega
 ·rw [List.getElem?_eq_none (by rw [lO];omega),List.getElem?_eq_none (by rw [List.length_reverse];omega)]
theorem Oq{x:List Nat}{i:Nat}(h:i < x.length - 1 - i):((rS x i).set i (x.getD (x.length - 1 - i) 0)).set (x.length - 1 - i) (x.getD i 0)=rS x (i+1):=by
 apply List.ext_getElem?
 intro p
 by_cases hp:p < x.length
 ·rw [List.getElem?_set,List.getElem?_set,lP hp,lP hp]
  simp only [List.length_set,lO]
  by_cases h1:x.length - 1 - i=p
  ·rw [if_pos h1,if_pos (by omega),if_pos (by omega)]
   congr 2;omega
  ·rw [if_neg h1]
   by_cases h2:i=p
   ·subst h2
    rw [if_pos rfl,if_pos (by omega),if_pos (by omega)]
   ·rw [if_neg h2]
    by_cases h3:p < i\/x.length - i<=p
    ·rw [if_pos h3,if_pos (by omega)]
    ·rw [if_neg h3,if_neg (by omega)]
 ·rw [List.getElem?_eq_none (by simp [lO];omega),List.getElem?_eq_none (by rw [lO];omega)]
section
variable{hp:List Blk}{L:Nat}{H d:List Nat}
theorem qx{x:List Nat}{v:Value}(hR:Rd ⟨hp,L,H,[]⟩ v x)(h0:x≠[])(hxs:x.length<=100000)(hF:Fit hp.length L H) :
  aN env (.func 118) [v] ⟨hp,L,H,d⟩=some (.slice (some ⟨hp.length,0,some x.length⟩) x.length 1,⟨hp++[.cells x.length true (u8s x)],L,H,d⟩):=by
 rw [aA 118 _ _ aa7]
 have hN:=hR.app (nw:=[.cells 0 true []]) (L':=L) (d':=[])
 have hnews:=hN.news
 have ha:=FG (hp:=hp) (L:=L) (H:=H) (d:=[]) (l:=x) hF (by omega)
 have hs0:small 0=true:=by decide
 obtain ⟨a,e,rfl⟩:=hR.len
 have ha0:∃ q,a=some q:=by
  rcases hR.form with ⟨h1,h2⟩ | ⟨b,o,g,e',pl,cs,h1,_⟩
  ·exact absurd h2 h0
  ·cases h1;exact ⟨_,rfl⟩
 obtain ⟨q,rfl⟩:=ha0
 simp (disch:=first | exact AM.dis | fail) only [af.sy,simprocAttr,-List.reduceReplicate,hF.all,K6,hs0,hnews,ha,oS (kj.plain _ _)]
theorem GC{x:List Nat}{b g n e:Nat}(hn:n=x.length)(hn1:n<=100000)(hx:By x)(hb:b < hp.length)(hL:L<=b)(hh:H.contains b=false)(hF:Fit hp.length L H):∀ (k i:Nat),i+k=n->∃ fr,
  aX env vN [2,3,0] hp.length [(2,.int .i64 i),(3,.int .i64 ((n:Int) - 1 - i)),(0,.slice (some ⟨b,0,some g⟩) n e)] ⟨hp.set b (.cells g true (u8s (rS x i))),L,H,[]⟩
   = some (.exit 0,fr,⟨hp.set b (.cells g true (u8s x.reverse)),L,H,[]⟩)
 | k,i,e1=>by
  by_cases h:(i:Int) < (n:Int) - 1 - i
  ·cases k with
   | zero=>omega
   | succ k=>
    obtain ⟨fr,ih⟩:=GC (g:=g) (e:=e) hn hn1 hx hb hL hh hF k (i+1) (by omega)
    have h2:0<=(i:Int)/\(i:Int) < (n:Int):=by omega
    have e2:(n:Int) - 1 - (i:Int)=((n - 1 - i:Nat):Int):=by omega
    have h3:0<=((n - 1 - i:Nat):Int)/\((n - 1 - i:Nat):Int) < (n:Int):=by omega
    rw [aB vN.eq_1]
    have e3:(n:Int) - 1 - ((i+1:Nat):Int)=((n - 1 - i:Nat):Int) - 1:=by omega
    rw [e2] at h ⊢
    rw [e3] at ih
    have hl:(u8s (rS x i)).length=n:=by rw [aq,lO,hn]
    have r1:(u8s (rS x i))[i]?=some (.int .u8 (x.getD i 0:Nat)):=by
     rw [eo,lP (by omega),if_neg (by omega)];rfl
    have r2:(u8s (rS x i))[n - 1 - i]?=some (.int .u8 (x.getD (n - 1 - i) 0:Nat)):=by
     rw [eo,lP (by omega),if_neg (by omega)];rfl
    have hst:=Oq (x:=x) (i:=i) (by omega)
    rw [<- hn] at hst
    have adB:((u8s (rS x i)).set i (.int .u8 (x.getD (n - 1 - i) 0:Nat))).set (n - 1 - i) (.int .u8 (x.getD i 0:Nat))=u8s (rS x (i+1)):=by
     rw [Lz,Lz,hst]
    have hg1:∀ B:Blk,(hp.set b B)[b]?=some B:=fun B=>List.getElem?_set_self hb
    have hss:∀ A B:Blk,(hp.set b A).set b B=hp.set b B:=fun A B=>List.set_set ..
    have hs2:i+1<=n:=by omega
    have hs3:n - 1 - i+1<=n:=by omega
    simp only [Int.natCast_add,Int.natCast_one] at ih
    have hnl:¬ b < L:=by omega
    simp (disch:=first | exact AM.dis | fail) only [af.sy,simprocAttr,-List.reduceReplicate,hF.all,h,h2,h3,hg1,hss,hh,hl,r1,r2,hs2,hs3,adB,hnl,ih]
    exact ⟨fr,rfl⟩
  ·rw [Tm (by omega)]
   rw [aB vN.eq_1]
   simp (disch:=first | exact AM.dis | fail) only [af.sy,simprocAttr,-List.reduceReplicate,hF.all,h]
   exact ⟨_,rfl⟩
theorem Tn{x:List Nat}{b g n e:Nat}(hn:n=x.length)(hn1:n<=100000)(hx:By x)(hb:hp[b]?=some (.cells g true (u8s x)))(hL:L<=b)(hh:H.contains b=false)(hF:Fit hp.length L H) :
  aN env (.func 135) [.slice (some ⟨b,0,some g⟩) n e] ⟨hp,L,H,d⟩=some (.tuple #[],⟨hp.set b (.cells g true (u8s x.reverse)),L,H,d⟩):=by
 rw [aA 135 _ _ aba]
 have hbl:=(List.getElem?_eq_some_iff.1 hb).1
 obtain ⟨fr,h⟩:=GC (hp:=hp) (L:=L) (H:=H) (g:=g) (e:=e) hn hn1 hx hbl hL hh hF n 0 (by omega)
 rw [Oo,dS hb] at h
 simp only [Int.natCast_zero,Int.sub_zero] at h
 simp (disch:=first | exact AM.dis | fail) only [af.sy,simprocAttr,-List.reduceReplicate,hF.all,K7,h]
theorem n8{x:List Nat}{v:Value}(hR:Rd ⟨hp,L,H,[]⟩ v x)(h0:x≠[])(hxs:x.length<=100000)(hF:Fit hp.length L H) :
  aN env (.func 68) [v] ⟨hp,L,H,d⟩=some (.slice (some ⟨hp.length,0,some x.length⟩) x.length 1,⟨hp++[.cells x.length true (u8s x.reverse)],L,H,d⟩):=by
 rw [aA 68 _ _ adt]
 have h1:=fun d=>qx (d:=d) hR h0 hxs hF
 have h2:=fun d=>Tn (hp:=hp++[.cells x.length true (u8s x)]) (L:=L) (H:=H) (d:=d) (e:=1) (n:=x.length) rfl hxs hR.by_ (bY _) hF.1 hF.kg (hF.mono (by simp))
 simp only [fL] at h2
 simp (disch:=first | exact AM.dis | fail) only [af.sy,simprocAttr,-List.reduceReplicate,hF.all,VS,h1,h2,oS (kj.plain _ _)]
end
end TtA
namespace TtB
open Go Go.RowKit AM af LtA SyP TmM TsA TsB TsE TsI TsJ TtA Bt
def pP(x:List Nat):List Nat->Nat->List Nat->Nat->List Nat×Nat
 | [],_,acc,idx=>(acc,idx)
 | i::o,row,acc,idx=>if i=0 then pP x o (row+1) acc row else pP x o (row+1) (acc++[x.getD (i - 1) 0]) idx
section
variable{hp:List Blk}{L:Nat}{H d:List Nat}
theorem Dc{k n:Nat}{cs:List Value}{c0:Blk}{nw:List Blk}{v:Value}{i1 i2 i3:Int}{m:Nat}(hk:nw[k]?=some (.cells n true cs))(hv:∀ r∈refs v,r < hp.length) :
  gQ (hp.length+1) [(3,.int .i64 i1),(9,.int .i64 i2),(8,.int .i64 i3),(7,.slice (some ⟨hp.length,0,some 0⟩) m 1),(0,v),(2,.slice (some ⟨hp.length+1+k,0,some n⟩) n 1)] ⟨hp++c0::nw,L,H,[]⟩
   = some ([(3,.int .i64 i1),(9,.int .i64 i2),(8,.int .i64 i3),(7,.slice (some ⟨hp.length,0,some 0⟩) m 1),(0,v),(2,.slice (some ⟨hp.length+1,0,some n⟩) n 1)],⟨hp++[c0,.cells n true cs],L,H,[]⟩):=by
 unfold gQ
 have e:hp++c0::nw=(hp++[c0])++nw:=by simp
 have hl:(hp++[c0]).length=hp.length+1:=by simp
 have G:=qt (h:=hp++[c0]) (nw:=nw) (k:=k) (L:=L) (H:=H) (d:=[]) (vs:=List.map (·.2) [(3,.int .i64 i1),(9,.int .i64 i2),(8,.int .i64 i3),(7,.slice (some ⟨hp.length,0,some 0⟩) m 1),(0,v),(2,.slice (some ⟨hp.length+1+k,0,some n⟩) n 1)]) hk (by
  intro u hu r hr
  rw [hl]
  simp only [List.map_cons,List.map_nil,List.mem_cons,List.not_mem_nil,or_false] at hu
  rcases hu with rfl | rfl | rfl | rfl | rfl | rfl
  ·simp [refs,aT,aG] at hr
  ·simp [refs,aT,aG] at hr
  ·simp [refs,aT,aG] at hr
  ·simp [refs,aT,aG] at hr;omega
  ·have:=hv r hr;omega
  ·simp [refs,aT,aG] at hr;omega) ⟨.slice (some ⟨hp.length+1+k,0,some n⟩) n 1,by simp,by rw [hl];simp [refs,aT,aG]⟩ rfl
 rw [hl] at G
 rw [e,G]
 have o0:AM.one (hp.length+1) (hp.length+1+k) hp.length=hp.length:=iW (by omega)
 have o2:AM.one (hp.length+1) (hp.length+1+k) (hp.length+1+k)=hp.length+1:=dD
 have o3:ren (AM.one (hp.length+1) (hp.length+1+k)) v=v:=yE fun r hr=>iW (by have:=hv r hr;omega)
 simp only [Option.map_some,List.map_cons,List.map_nil,List.zip_cons_cons,List.zip_nil_left,o3]
 simp only [ren,fm,cQ,o0,o2,List.append_assoc,List.cons_append,List.nil_append]
theorem Ot{x:Nat} : St.append ⟨hp,L,H,d⟩ true 1 (.slice none 0 0) 1 [.int .u8 (x:Int)]=some (.slice (some ⟨hp.length,0,some 1⟩) 1 1,⟨hp++[.cells 1 true (u8s [x])],L,H,d⟩):=yK (t:=[x]) rfl (by decide) (by decide)
theorem To{b a x:Nat}{u:List Nat}(ha:u.length=a)(hb:hp[b]?=some (.cells a true (u8s u)))(hL:L<=b)(hh:H.contains b=false)(hs:a+1<=1048576) :
  St.append ⟨hp,L,H,d⟩ true 1 (.slice (some ⟨b,0,some a⟩) a 1) 1 [.int .u8 (x:Int)]=some (.slice (some ⟨b,0,some (a+1)⟩) (a+1) 1,⟨hp.set b (.cells (a+1) true (u8s (u++[x]))),L,H,d⟩):=Da (t:=[x]) rfl ha hb hL hh hs
def Tp(hp:List Blk)(v:Value)(m:Nat)(idx row:Nat)(sl:Value):Fr:=[(3,.int .i64 idx),(9,.int .i64 row),(8,.int .i64 m),(7,.slice (some ⟨hp.length,0,some 0⟩) m 1),(0,v),(2,sl)]
theorem De{x o:List Nat}{a:Option Addr}{e n:Nat}(hR:Rd ⟨hp,L,H,[]⟩ (.slice a n e) x)(hxs:x.length<=100000)(hos:o.length<=100001)(ho:∀ i∈o,i<=x.length)(hF:Fit hp.length L H):∀ (k row:Nat) (acc:List Nat) (idx:Nat),row+k=o.length->acc.length<=row->∃ fr,
  aX env ym [3,9,8,7,0,2] (hp.length+1) (Tp hp (.slice a n e) o.length idx row (sl8 (hp.length+1) acc)) ⟨hp++.cells 0 true (is o)::qu acc,L,H,[]⟩
   = some (.exit 0,fr,⟨hp++.cells 0 true (is o)::qu (pP x (o.drop row) row acc idx).1,L,H,[]⟩)/\fr.get 2=some (sl8 (hp.length+1) (pP x (o.drop row) row acc idx).1)/\fr.get 3=some (.int .i64 (pP x (o.drop row) row acc idx).2)
 | 0,row,acc,idx,e1,hacc=>by
  rw [List.drop_of_length_le (by omega)]
  have h1:¬ (row:Int) < o.length:=by omega
  unfold Tp pP
  rw [aB ym.eq_1]
  simp (disch:=first | exact AM.dis | fail) only [af.sy,simprocAttr,-List.reduceReplicate,hF.all,h1]
  exact ⟨_,rfl,rfl,rfl⟩
 | k+1,row,acc,idx,e1,hacc=>by
  have hi:row < o.length:=by omega
  rw [List.drop_eq_getElem_cons hi]
  have hoi:=ho _ (List.getElem_mem hi)
  have hv:∀ r∈refs (.slice a n e),r < hp.length:=hR.refs
  have h1:(row:Int) < o.length:=by omega
  have h2:0<=(row:Int)/\(row:Int) < o.length:=by omega
  have hc:(is o)[row]?=some (.int .i64 (o[row]:Nat)):=by simp [is,hi]
  have hF2:=hF.1
  unfold pP
  by_cases h0:o[row]=0
  ·obtain ⟨fr,ih⟩:=De hR hxs hos ho hF k (row+1) acc row (by omega) (by omega)
   rw [if_pos h0]
   refine ⟨fr,?_⟩
   refine ⟨Eq.trans ?_ ih.1,ih.2⟩
   rw [h0] at hc
   unfold Tp
   rw [aB ym.eq_1]
   simp only [Int.natCast_add,Int.natCast_one,Int.natCast_zero] at hc ⊢
   by_cases ha0:acc=[]
   ·subst ha0
    simp (disch:=first | exact AM.dis | fail) only [af.sy,simprocAttr,-List.reduceReplicate,hF.all,ey,dB,h1,h2,hc]
   ·have hao:¬ acc.length=0:=by cases acc<;>simp at ha0 ⊢
    rw [gZ rfl hao,gF rfl hao]
    have hg:=fun c0 i1 i2=>Dc (hp:=hp) (L:=L) (H:=H) (k:=0) (n:=acc.length) (cs:=u8s acc) (c0:=c0) (nw:=[.cells acc.length true (u8s acc)]) (i1:=i1) (i2:=i2) (i3:=(o.length:Int)) (m:=o.length) rfl hv
    simp only [Nat.add_zero] at hg
    simp (disch:=first | exact AM.dis | fail) only [af.sy,simprocAttr,-List.reduceReplicate,hF.all,h1,h2,hc,hg]
  ·obtain ⟨fr,ih⟩:=De hR hxs hos ho hF k (row+1) (acc++[x.getD (o[row] - 1) 0]) idx (by omega) (by simp;omega)
   rw [if_neg h0]
   refine ⟨fr,?_⟩
   refine ⟨Eq.trans ?_ ih.1,ih.2⟩
   obtain ⟨b,of,g,pl,cs,rfl,rfl,hh,hb,hcx⟩:=hR.at_ (show o[row] - 1 < x.length by omega)
   have hbl:=(List.getElem?_eq_some_iff.1 hb).1
   have hgd:x[o[row] - 1]'(by omega)=x.getD (o[row] - 1) 0:=by rw [List.getD_eq_getElem?_getD,List.getElem?_eq_getElem (by omega)];rfl
   rw [hgd] at hcx
   clear hgd
   generalize hcc:x.getD (o[row] - 1) 0=cc at *
   generalize hii:o[row]=i at *
   have h3:¬ (i:Int)=0:=by omega
   have h4:(i:Int) - 1=((i - 1:Nat):Int):=by omega
   have h5:0<=((i - 1:Nat):Int)/\((i - 1:Nat):Int) < x.length:=by omega
   have hs1:small 1=true:=by decide
   unfold Tp
   rw [aB ym.eq_1]
   simp only [Int.natCast_add,Int.natCast_one]
   by_cases ha0:acc=[]
   ·subst ha0
    have hN:([]++[cc]:List Nat).length=1:=rfl
    rw [gZ hN (by decide),gF hN (by decide)]
    have ha:=fun nw=>Ot (hp:=hp++nw) (L:=L) (H:=H) (d:=[]) (x:=cc)
    simp only [List.length_append] at ha
    have hg:=fun c0 c1 i1 i2=>Dc (hp:=hp) (L:=L) (H:=H) (k:=1) (n:=1) (cs:=u8s [cc]) (c0:=c0) (nw:=[c1,.cells 1 true (u8s [cc])]) (i1:=i1) (i2:=i2) (i3:=(o.length:Int)) (m:=o.length) rfl hv
    simp only [Nat.add_assoc,Nat.reduceAdd] at hg
    simp (disch:=first | exact AM.dis | fail) only [af.sy,simprocAttr,-List.reduceReplicate,hF.all,ey,dB,h1,h2,h3,h4,h5,hs1,hc,hb,hh,hcx,ha,hg]
   ·have hao:¬ acc.length=0:=by cases acc<;>simp at ha0 ⊢
    have hN:(acc++[cc]:List Nat).length=acc.length+1:=by simp
    rw [gZ rfl hao,gF rfl hao,gZ hN (by omega),gF hN (by omega)]
    have ha:=fun c0 nw=>To (hp:=hp++c0::.cells acc.length true (u8s acc)::nw) (L:=L) (H:=H) (d:=[]) (b:=hp.length+1) (x:=cc) rfl (by rw [b7];rfl) (by omega) (hF.jB 1) (by omega)
    have hg:=fun c0 c1 i1 i2=>Dc (hp:=hp) (L:=L) (H:=H) (k:=0) (n:=acc.length+1) (cs:=u8s (acc++[cc])) (c0:=c0) (nw:=[.cells (acc.length+1) true (u8s (acc++[cc])),c1]) (i1:=i1) (i2:=i2) (i3:=(o.length:Int)) (m:=o.length) rfl hv
    simp only [Nat.add_zero] at hg
    simp (disch:=first | exact AM.dis | fail) only [af.sy,simprocAttr,-List.reduceReplicate,hF.all,h1,h2,h3,h4,h5,hs1,hc,hb,hh,hcx,ha,hg]
end
end TtB
namespace TtC
open Go Go.RowKit AM af LtA SyP TmM TsA TsB TsE TsI TsJ TtA TtB Bt
def zY(a b:Int):Int:=if a < b then -1 else if b < a then 1 else 0
def fA(p q:Int×Int):Int:=if zY p.1 q.1≠0 then zY p.1 q.1 else zY p.2 q.2
section
variable{hp:List Blk}{L:Nat}{H d:List Nat}
theorem Tq(a:Int)(hF:Fit hp.length L H):aN env (.func 182) [.int .i64 a] ⟨hp,L,H,d⟩=some (.bool false,⟨hp,L,H,d⟩):=by
 rw [aA 182 _ _ abk]
 simp (disch:=first | exact AM.dis | fail) only [af.sy,simprocAttr,-List.reduceReplicate,hF.all,Lb]
theorem Tr(a b:Int)(hF:Fit hp.length L H):aN env (.func 132) [.int .i64 a,.int .i64 b] ⟨hp,L,H,d⟩=some (.int .i64 (zY a b),⟨hp,L,H,d⟩):=by
 rw [aA 132 _ _ aa9]
 have hn:=fun a d=>Tq (hp:=hp) (L:=L) (H:=H) (d:=d) a hF
 unfold zY
 by_cases h1:a < b
 ·rw [if_pos h1]
  simp (disch:=first | exact AM.dis | fail) only [af.sy,simprocAttr,-List.reduceReplicate,hF.all,AT,hn,h1]
 ·rw [if_neg h1]
  by_cases h2:b < a
  ·rw [if_pos h2]
   have h2':a > b:=h2
   simp (disch:=first | exact AM.dis | fail) only [af.sy,simprocAttr,-List.reduceReplicate,hF.all,AT,hn,h1,h2']
  ·rw [if_neg h2]
   have h2':¬ a > b:=h2
   simp (disch:=first | exact AM.dis | fail) only [af.sy,simprocAttr,-List.reduceReplicate,hF.all,AT,hn,h1,h2']
theorem Wu{a b:Int}{k e:Nat}(hb:hp[k]?=some (.cells 0 true [.int .i64 a,.int .i64 b]))(hh:H.contains k=false)(hF:Fit hp.length L H) :
  aN env (.func 224) [.slice (some ⟨k,0,some 0⟩) 2 e] ⟨hp,L,H,d⟩=some (.int .i64 (if a≠0 then a else b),⟨hp,L,H,d⟩):=by
 rw [aA 224 _ _ abx]
 by_cases h1:a=0
 ·subst h1
  rw [if_neg (by simp)]
  by_cases h2:b=0
  ·subst h2
   simp (disch:=first | exact AM.dis | fail) only [af.sy,simprocAttr,-List.reduceReplicate,hF.all,AW]
   rw [aB mK.eq_1]
   simp (disch:=first | exact AM.dis | fail) only [af.sy,simprocAttr,-List.reduceReplicate,hF.all,hb,hh]
   rw [aB mK.eq_1]
   simp (disch:=first | exact AM.dis | fail) only [af.sy,simprocAttr,-List.reduceReplicate,hF.all,hb,hh]
   rw [aB mK.eq_1]
   simp (disch:=first | exact AM.dis | fail) only [af.sy,simprocAttr,-List.reduceReplicate,hF.all,hb,hh]
  ·simp (disch:=first | exact AM.dis | fail) only [af.sy,simprocAttr,-List.reduceReplicate,hF.all,AW]
   rw [aB mK.eq_1]
   simp (disch:=first | exact AM.dis | fail) only [af.sy,simprocAttr,-List.reduceReplicate,hF.all,hb,hh]
   rw [aB mK.eq_1]
   simp (disch:=first | exact AM.dis | fail) only [af.sy,simprocAttr,-List.reduceReplicate,hF.all,hb,hh,h2]
 ·rw [if_pos h1]
  simp (disch:=first | exact AM.dis | fail) only [af.sy,simprocAttr,-List.reduceReplicate,hF.all,AW]
  rw [aB mK.eq_1]
  simp (disch:=first | exact AM.dis | fail) only [af.sy,simprocAttr,-List.reduceReplicate,hF.all,hb,hh,h1]
theorem dn(p q:Int×Int)(hF:Fit hp.length L H):aN env (.func 223) [.agg #[.int .i64 p.1,.int .i64 p.2],.agg #[.int .i64 q.1,.int .i64 q.2]] ⟨hp,L,H,d⟩=some (.int .i64 (fA p q),⟨hp,L,H,d⟩):=by
 rw [aA 223 _ _ abw]
 have hc:=fun a b hp L H d hF=>Tr (hp:=hp) (L:=L) (H:=H) (d:=d) a b hF
 have ho:=fun a b c0 c1 L' d hF'=>Wu (hp:=hp++[c0,c1,.cells 0 true [.int .i64 a,.int .i64 b]]) (L:=L') (H:=H) (d:=d) (k:=hp.length+2) (e:=1) (a:=a) (b:=b) (by rw [b7];rfl) (hF.jB 2) hF'
 have hs:small 2=true:=by decide
 unfold fA
 simp (disch:=first | exact AM.dis | fail) only [af.sy,simprocAttr,-List.reduceReplicate,hF.all,FW,hc,ho,hs]
end
end TtC
namespace TtD
open Go Go.RowKit AM af LtA SyP TmM TsA TsB TsE TsI TsJ TtA TtB TtC Bt
abbrev Pr:=Int×Int
def ltP(p q:Pr):Bool:=decide (fA p q < 0)
def prL:List Pr->List Value
 | []=>[]
 | p::l=>.int .i64 p.1::.int .i64 p.2::prL l
def prs(d:Array Pr):List Value:=prL d.toList
theorem mS:∀ (l:List Pr),(prL l).length=2*l.length
 | []=>rfl
 | p::l=>by rw [prL];simp only [List.length_cons,mS l];omega
theorem dV(d:Array Pr):(prs d).length=2*d.size:=by rw [prs,mS,Array.length_toList]
theorem Tt:∀ (l:List Pr) (i:Nat) (h:i < l.length),((prL l).drop (2*i)).take 2=[.int .i64 l[i].1,.int .i64 l[i].2]
 | p::l,0,h=>rfl
 | p::l,i+1,h=>by
  rw [prL,show 2*(i+1)=2*i+1+1 by omega,List.drop_succ_cons,List.drop_succ_cons]
  exact Tt l i (by simpa using h)
theorem cx(d:Array Pr){i:Nat}(h:i < d.size):((prs d).drop (2*i)).take 2=[.int .i64 d[i]!.1,.int .i64 d[i]!.2]:=by
 rw [prs,Tt _ i (by simpa using h)]
 simp [h]
theorem LG:∀ (l:List Pr) (i:Nat) (p:Pr),i < l.length->putAt (prL l) (2*i) [.int .i64 p.1,.int .i64 p.2]=prL (l.set i p)
 | q::l,0,p,_=>rfl
 | q::l,i+1,p,h=>by
  have ih:=LG l i p (by simpa using h)
  apply List.ext_getElem?
  intro j
  rw [dJ _ _ _ _ (by rw [mS];simp only [List.length_cons,List.length_nil] at *;omega)]
  rw [List.set_cons_succ,prL,prL,<- ih]
  rcases j with _ | _ | j
  ·rw [if_neg (by omega)];rfl
  ·rw [if_neg (by omega)];rfl
  ·simp only [List.getElem?_cons_succ]
   rw [dJ _ _ _ _ (by rw [mS];simp only [List.length_cons,List.length_nil] at *;omega)]
   by_cases hj:2*i<=j/\j < 2*i+[Value.int .i64 p.1,Value.int .i64 p.2].length
   ·rw [if_pos hj,if_pos (by omega)]
    congr 1
    omega
   ·rw [if_neg hj,if_neg (by omega)]
theorem LH(d:Array Pr){i:Nat}(p:Pr)(h:i < d.size):putAt (prs d) (2*i) [.int .i64 p.1,.int .i64 p.2]=prs (d.setIfInBounds i p):=by
 rw [prs,prs,LG _ _ _ (by simpa using h)]
 simp
theorem Tu:∀ (l:List Pr),(prL l).all AM.sc=true
 | []=>rfl
 | p::l=>by rw [prL];simp only [List.all_cons,AM.sc,Tu l];rfl
theorem oV(d:Array Pr){i j:Nat}(hi:i < d.size)(hj:j < d.size):putAt (putAt (prs d) (2*i) [.int .i64 d[j]!.1,.int .i64 d[j]!.2]) (2*j) [.int .i64 d[i]!.1,.int .i64 d[i]!.2]=prs (Go.Sort.swp d i j):=by
 rw [LH d _ hi,LH _ _ (by simpa using hj)];rfl
end TtD
namespace TtE
open Go Go.RowKit AM af LtA SyP TmM TsA TsB TsE TsI TsJ TtA TtB TtC TtD Bt
def aJ:Value:=.func (.func 223) #[] #[]
section
variable{hp:List Blk}{L:Nat}{H d:List Nat}
theorem swp_size(d:Array Pr)(i j:Nat):(Go.Sort.swp d i j).size=d.size:=by simp [Go.Sort.swp]
theorem Bd{b g e a i n:Nat}(hb:b < hp.length)(hL:L<=b)(hh:H.contains b=false)(he:e=0\/e=2)(hn:n<=100000)(be:Nat)(hF:Fit hp.length L H):∀ (j:Nat) (W:Array Pr),W.size=n->j < n->∃ fr,
  aX env vY [9,2,1,3,8,0] hp.length [(9,.int .i64 j),(2,.int .i64 be),(1,.int .i64 a),(3,aJ),(8,.int .i64 i),(0,.slice (some ⟨b,0,some g⟩) n e)] ⟨hp.set b (.cells g true (prs W)),L,H,[]⟩
   = some (.exit 2,fr,⟨hp.set b (.cells g true (prs (Go.Sort.insInner ltP a j W))),L,H,[]⟩)
   /\ fr.get 2=some (.int .i64 be)/\fr.get 1=some (.int .i64 a)/\fr.get 3=some aJ/\fr.get 8=some (.int .i64 i)/\fr.get 0=some (.slice (some ⟨b,0,some g⟩) n e)
 | 0,W,hD,hj=>by
  have h1:¬ (0:Int) > (a:Int):=by omega
  unfold Go.Sort.insInner
  rw [aB vY.eq_1]
  simp only [Int.natCast_zero]
  simp (disch:=first | exact AM.dis | fail) only [af.sy,simprocAttr,-List.reduceReplicate,hF.all,h1]
  exact ⟨_,rfl,rfl,rfl,rfl,rfl,rfl⟩
 | j+1,W,hD,hj=>by
  unfold Go.Sort.insInner
  rw [aB vY.eq_1]
  have hl:=fun p q hp L H d hF=>dn (hp:=hp) (L:=L) (H:=H) (d:=d) p q hF
  have hlen:(prs W).length=2*n:=by rw [dV,hD]
  have r1:=cx W (i:=j+1) (by omega)
  have r0:=cx W (i:=j) (by omega)
  have h2:0<=((j+1:Nat):Int)/\((j+1:Nat):Int) < (n:Int):=by omega
  have h3:0<=(j:Int)/\(j:Int) < (n:Int):=by omega
  have e1:((j+1:Nat):Int) - 1=(j:Int):=by omega
  have hg1:∀ B:Blk,(hp.set b B)[b]?=some B:=fun B=>List.getElem?_set_self hb
  have hss:∀ A B:Blk,(hp.set b A).set b B=hp.set b B:=fun A B=>List.set_set ..
  have s1:(j+1)*2+2<=2*n:=by omega
  have s0:j*2+2<=2*n:=by omega
  rw [Nat.mul_comm] at r1 r0
  have hnl:¬ b < L:=by omega
  by_cases ha:j+1 > a
  ·have h1:((j+1:Nat):Int) > (a:Int):=by omega
   by_cases hlt:ltP W[j+1]! W[j]! = true
   ·have hc:fA W[j+1]! W[j]! < 0:=of_decide_eq_true hlt
    have hsw:=oV W (i:=j+1) (j:=j) (by omega) (by omega)
    rw [Nat.mul_comm 2 (j+1),Nat.mul_comm 2 j] at hsw
    simp only [putAt] at hsw
    obtain ⟨fr,ih,ih2⟩:=Bd (b:=b) (g:=g) (e:=e) (a:=a) (i:=i) hb hL hh he hn be hF j (Go.Sort.swp W (j+1) j) (by rw [swp_size,hD]) (by omega)
    have pH:(decide (j+1 > a)&&ltP W[j+1]! W[j]!)=true:=by rw [hlt];simpa using ha
    rw [if_pos pH]
    refine ⟨fr,?_,ih2⟩
    simp (disch:=first | exact AM.dis | fail) only [af.sy,simprocAttr,-List.reduceReplicate,hF.all,aJ,h1,h2,h3,e1,hg1,hss,hh,hlen,r1,r0,s1,s0,hnl,hl,hc,hsw]
    simp only [aJ] at ih
    exact ih
   ·have hc:¬ fA W[j+1]! W[j]! < 0:=fun h=>hlt (decide_eq_true h)
    have pH:¬ (decide (j+1 > a)&&ltP W[j+1]! W[j]!)=true:=by
     intro h
     rw [Bool.and_eq_true] at h
     exact hlt h.2
    rw [if_neg pH]
    simp (disch:=first | exact AM.dis | fail) only [af.sy,simprocAttr,-List.reduceReplicate,hF.all,aJ,h1,h2,h3,e1,hg1,hss,hh,hlen,r1,r0,s1,s0,hl,hc]
    exact ⟨_,rfl,rfl,rfl,rfl,rfl,rfl⟩
  ·have h1:¬ ((j+1:Nat):Int) > (a:Int):=by omega
   have pH:¬ (decide (j+1 > a)&&ltP W[j+1]! W[j]!)=true:=by
    intro h
    rw [Bool.and_eq_true] at h
    exact ha (of_decide_eq_true h.1)
   rw [if_neg pH]
   simp (disch:=first | exact AM.dis | fail) only [af.sy,simprocAttr,-List.reduceReplicate,hF.all,aJ,h1,h2,h3,e1,hg1,hss,hh,hlen]
   exact ⟨_,rfl,rfl,rfl,rfl,rfl,rfl⟩
theorem pQ(a:Nat):∀ (j:Nat) (W:Array Pr),(Go.Sort.insInner ltP a j W).size=W.size
 | 0,W=>rfl
 | j+1,W=>by
  unfold Go.Sort.insInner
  split
  ·rw [pQ a j,swp_size]
  ·rfl
theorem Be{b g e a n be:Nat}(hb:b < hp.length)(hL:L<=b)(hh:H.contains b=false)(he:e=0\/e=2)(hn:n<=100000)(hbe:be<=n)(hF:Fit hp.length L H):∀ (k i:Nat) (W:Array Pr),W.size=n->be - i=k->i<=200000->∃ fr,
  aX env vZ [3,1,2,8,0] hp.length [(3,aJ),(1,.int .i64 a),(2,.int .i64 be),(8,.int .i64 i),(0,.slice (some ⟨b,0,some g⟩) n e)] ⟨hp.set b (.cells g true (prs W)),L,H,[]⟩
   = some (.exit 0,fr,⟨hp.set b (.cells g true (prs (Go.Sort.insOuter ltP a be i W))),L,H,[]⟩)
 | 0,i,W,hD,hk,hi=>by
  have h1:¬ (i:Int) < (be:Int):=by omega
  unfold Go.Sort.insOuter
  rw [if_neg (by omega)]
  rw [aB vZ.eq_1]
  simp (disch:=first | exact AM.dis | fail) only [af.sy,simprocAttr,-List.reduceReplicate,hF.all,h1]
  exact ⟨_,rfl⟩
 | k+1,i,W,hD,hk,hi=>by
  have h1:(i:Int) < (be:Int):=by omega
  obtain ⟨fr1,e1,e2,e3,e4,e5,e6⟩:=Bd (g:=g) (e:=e) (a:=a) (i:=i) hb hL hh he hn be hF i W hD (by omega)
  obtain ⟨fr,ih⟩:=Be (g:=g) (e:=e) (a:=a) hb hL hh he hn hbe hF k (i+1) (Go.Sort.insInner ltP a i W) (by rw [pQ,hD]) (by omega) (by omega)
  unfold Go.Sort.insOuter
  rw [if_pos (by omega)]
  rw [aB vZ.eq_1]
  simp only [aJ,Int.natCast_add,Int.natCast_one] at e1 e4 ih ⊢
  simp (disch:=first | exact AM.dis | fail) only [af.sy,simprocAttr,-List.reduceReplicate,hF.all,h1,e1,e2,e3,e4,e5,e6,ih]
  exact ⟨_,rfl⟩
theorem GD{b g e a n be:Nat}{W:Array Pr}(hb:hp[b]?=some (.cells g true (prs W)))(hD:W.size=n)(hL:L<=b)(hh:H.contains b=false)(he:e=0\/e=2)(hn:n<=100000)(hbe:be<=n)(ha:a<=100000)(hF:Fit hp.length L H) :
  aN env (.func 269) [.slice (some ⟨b,0,some g⟩) n e,.int .i64 a,.int .i64 be,aJ] ⟨hp,L,H,d⟩=some (.tuple #[],⟨hp.set b (.cells g true (prs (Go.Sort.insertionSort ltP W a be))),L,H,d⟩):=by
 rw [aA 269 _ _ abM]
 have hbl:=(List.getElem?_eq_some_iff.1 hb).1
 obtain ⟨fr,h⟩:=Be (hp:=hp) (L:=L) (H:=H) (g:=g) (e:=e) (a:=a) hbl hL hh he hn hbe hF (be - (a+1)) (a+1) W hD rfl (by omega)
 rw [dS hb] at h
 simp only [aJ,Int.natCast_add,Int.natCast_one] at h ⊢
 unfold Go.Sort.insertionSort
 simp (disch:=first | exact AM.dis | fail) only [af.sy,simprocAttr,-List.reduceReplicate,hF.all,Lo,h]
end
end TtE
namespace TtF
open Go Go.RowKit AM af LtA SyP TmM TsA TsB TsE TsI TsJ TtA TtB TtC TtD TtE Bt
section
variable{hp:List Blk}{L:Nat}{H d:List Nat}
theorem n9{b g e n x y q s:Nat}{W:Array Pr}(hb:hp[b]?=some (.cells g true (prs W)))(hD:W.size=n)(hh:H.contains b=false)(he:e=0\/e=2)(hn:n<=100000)(hx:x < n)(hy:y < n)
  (hq:hp[q]?=some (.cells 0 true [.int .i64 s])) (hqL:L<=q) (hqh:H.contains q=false) (hs:s<=100000) (hF:Fit hp.length L H) :
  aN env (.func 291) [.slice (some ⟨b,0,some g⟩) n e,.int .i64 x,.int .i64 y,.pointer (some ⟨q,0,some 0⟩),aJ] ⟨hp,L,H,d⟩=some (.tuple #[.int .i64 (Go.Sort.order2 ltP W x y s).1,.int .i64 (Go.Sort.order2 ltP W x y s).2.1],⟨hp.set q (.cells 0 true [.int .i64 (Go.Sort.order2 ltP W x y s).2.2]),L,H,d⟩):=by
 rw [aA 291 _ _ ab4]
 have hbl:=(List.getElem?_eq_some_iff.1 hb).1
 have hql:=(List.getElem?_eq_some_iff.1 hq).1
 have hl:=fun p q hp L H d hF=>dn (hp:=hp) (L:=L) (H:=H) (d:=d) p q hF
 have hlen:(prs W).length=2*n:=by rw [dV,hD]
 have r1:=cx W (i:=x) (by omega)
 have r0:=cx W (i:=y) (by omega)
 rw [Nat.mul_comm] at r1 r0
 have h2:0<=(x:Int)/\(x:Int) < (n:Int):=by omega
 have h3:0<=(y:Int)/\(y:Int) < (n:Int):=by omega
 have s1:x*2+2<=2*n:=by omega
 have s0:y*2+2<=2*n:=by omega
 have hnl:¬ q < L:=by omega
 unfold Go.Sort.order2
 by_cases hlt:ltP W[y]! W[x]! = true
 ·have hc:fA W[y]! W[x]! < 0:=of_decide_eq_true hlt
  simp only [if_pos hlt,Int.natCast_add,Int.natCast_one]
  simp (disch:=first | exact AM.dis | fail) only [af.sy,simprocAttr,-List.reduceReplicate,hF.all,F6,aJ,hb,hh,hq,hqh,h2,h3,hlen,r1,r0,s1,s0,hnl,hl,hc]
 ·have hc:¬ fA W[y]! W[x]! < 0:=fun h=>hlt (decide_eq_true h)
  simp only [if_neg hlt]
  rw [dS hq]
  simp (disch:=first | exact AM.dis | fail) only [af.sy,simprocAttr,-List.reduceReplicate,hF.all,F6,aJ,hb,hh,hq,hqh,h2,h3,hlen,r1,r0,s1,s0,hnl,hl,hc]
theorem Bf{b g e n:Nat}(hb:b < hp.length)(hL:L<=b)(hh:H.contains b=false)(he:e=0\/e=2)(hn:n<=100000)(hF:Fit hp.length L H):∀ (k i j:Nat) (W:Array Pr),W.size=n->j - i<=k->j < n->i<=200000->∃ fr,
  aX env v8 [8,9,0] hp.length [(8,.int .i64 i),(9,.int .i64 j),(0,.slice (some ⟨b,0,some g⟩) n e)] ⟨hp.set b (.cells g true (prs W)),L,H,[]⟩
   = some (.exit 0,fr,⟨hp.set b (.cells g true (prs (Go.Sort.reverseLoop i j W))),L,H,[]⟩)
 | k,i,j,W,hD,hk,hj,hi=>by
  by_cases hij:i < j
  ·cases k with
   | zero=>omega
   | succ k=>
    obtain ⟨fr,ih⟩:=Bf (g:=g) (e:=e) hb hL hh he hn hF k (i+1) (j - 1) (Go.Sort.swp W i j) (by rw [swp_size,hD]) (by omega) (by omega) (by omega)
    have hlen:(prs W).length=2*n:=by rw [dV,hD]
    have r1:=cx W (i:=i) (by omega)
    have r0:=cx W (i:=j) (by omega)
    rw [Nat.mul_comm] at r1 r0
    have h1:(i:Int) < (j:Int):=by omega
    have h2:0<=(i:Int)/\(i:Int) < (n:Int):=by omega
    have h3:0<=(j:Int)/\(j:Int) < (n:Int):=by omega
    have s1:i*2+2<=2*n:=by omega
    have s0:j*2+2<=2*n:=by omega
    have hnl:¬ b < L:=by omega
    have hg1:∀ B:Blk,(hp.set b B)[b]?=some B:=fun B=>List.getElem?_set_self hb
    have hss:∀ A B:Blk,(hp.set b A).set b B=hp.set b B:=fun A B=>List.set_set ..
    have hsw:=oV W (i:=i) (j:=j) (by omega) (by omega)
    rw [Nat.mul_comm 2 i,Nat.mul_comm 2 j] at hsw
    simp only [putAt] at hsw
    have e1:(j:Int) - 1=((j - 1:Nat):Int):=by omega
    rw [Go.Sort.reverseLoop,if_pos hij]
    rw [aB v8.eq_1]
    simp only [Int.natCast_add,Int.natCast_one] at ih
    simp (disch:=first | exact AM.dis | fail) only [af.sy,simprocAttr,-List.reduceReplicate,hF.all,h1,h2,h3,hg1,hss,hh,hlen,r1,r0,s1,s0,hnl,hsw,e1,ih]
    exact ⟨_,rfl⟩
  ·have h1:¬ (i:Int) < (j:Int):=by omega
   rw [Go.Sort.reverseLoop,if_neg hij]
   rw [aB v8.eq_1]
   simp (disch:=first | exact AM.dis | fail) only [af.sy,simprocAttr,-List.reduceReplicate,hF.all,h1]
   exact ⟨_,rfl⟩
theorem zZ{b g e a n be:Nat}{W:Array Pr}(hb:hp[b]?=some (.cells g true (prs W)))(hD:W.size=n)(hL:L<=b)(hh:H.contains b=false)(he:e=0\/e=2)(hn:n<=100000)(hbe:be<=n)(adY:1<=be)(ha:a<=100000)(hF:Fit hp.length L H) :
  aN env (.func 273) [.slice (some ⟨b,0,some g⟩) n e,.int .i64 a,.int .i64 be,aJ] ⟨hp,L,H,d⟩=some (.tuple #[],⟨hp.set b (.cells g true (prs (Go.Sort.reverseRange W a be))),L,H,d⟩):=by
 rw [aA 273 _ _ abQ]
 have hbl:=(List.getElem?_eq_some_iff.1 hb).1
 obtain ⟨fr,h⟩:=Bf (hp:=hp) (L:=L) (H:=H) (g:=g) (e:=e) hbl hL hh he hn hF n a (be - 1) W hD (by omega) (by omega) (by omega)
 rw [dS hb] at h
 have e1:(be:Int) - 1=((be - 1:Nat):Int):=by omega
 unfold Go.Sort.reverseRange
 simp (disch:=first | exact AM.dis | fail) only [af.sy,simprocAttr,-List.reduceReplicate,hF.all,Lq,aJ,e1,h]
theorem og{W:Array Pr}{x y s:Nat} : (Go.Sort.order2 ltP W x y s).2.2<=s+1:=by unfold Go.Sort.order2;split<;>simp
theorem Bg{W:Array Pr}{x y s n:Nat}(hx:x < n)(hy:y < n):(Go.Sort.order2 ltP W x y s).1 < n/\(Go.Sort.order2 ltP W x y s).2.1 < n:=by unfold Go.Sort.order2;split<;>exact ⟨by assumption,by assumption⟩
theorem uT{b g e n x y z q s:Nat}{W:Array Pr}(hb:hp[b]?=some (.cells g true (prs W)))(hD:W.size=n)(hh:H.contains b=false)(he:e=0\/e=2)(hn:n<=100000)(hx:x < n)(hy:y < n)(hz:z < n)
  (hq:hp[q]?=some (.cells 0 true [.int .i64 s])) (hqL:L<=q) (hqh:H.contains q=false) (hbq:b≠q) (hs:s<=90000) (hF:Fit hp.length L H) :
  aN env (.func 290) [.slice (some ⟨b,0,some g⟩) n e,.int .i64 x,.int .i64 y,.int .i64 z,.pointer (some ⟨q,0,some 0⟩),aJ] ⟨hp,L,H,d⟩=some (.int .i64 (Go.Sort.median ltP W x y z s).1,⟨hp.set q (.cells 0 true [.int .i64 (Go.Sort.median ltP W x y z s).2]),L,H,d⟩):=by
 rw [aA 290 _ _ ab3]
 have hql:=(List.getElem?_eq_some_iff.1 hq).1
 unfold Go.Sort.median
 simp only
 have k1:=fun d=>n9 (d:=d) hb hD hh he hn hx hy hq hqL hqh (by omega) hF
 have t1:=og (W:=W) (x:=x) (y:=y) (s:=s)
 have l1:=Bg (W:=W) (s:=s) hx hy
 generalize Go.Sort.order2 ltP W x y s=A at *
 obtain ⟨a1,a2,a3⟩:=A
 simp only at t1 l1 k1 ⊢
 have hb1:(hp.set q (.cells 0 true [.int .i64 a3]))[b]?=some (.cells g true (prs W)):=by rw [List.getElem?_set_ne (Ne.symm hbq)];exact hb
 have k2:=fun d=>n9 (hp:=hp.set q (.cells 0 true [.int .i64 a3])) (d:=d) hb1 hD hh he hn l1.2 hz (List.getElem?_set_self hql) hqL hqh (by omega) (by rw [List.length_set];exact hF)
 have t2:=og (W:=W) (x:=a2) (y:=z) (s:=a3)
 have l2:=Bg (W:=W) (s:=a3) l1.2 hz
 generalize Go.Sort.order2 ltP W a2 z a3=B at *
 obtain ⟨b1,b2,b3⟩:=B
 simp only [List.set_set] at t2 l2 k2 ⊢
 have hb2:(hp.set q (.cells 0 true [.int .i64 b3]))[b]?=some (.cells g true (prs W)):=by rw [List.getElem?_set_ne (Ne.symm hbq)];exact hb
 have k3:=fun d=>n9 (hp:=hp.set q (.cells 0 true [.int .i64 b3])) (d:=d) hb2 hD hh he hn l1.1 l2.1 (List.getElem?_set_self hql) hqL hqh (by omega) (by rw [List.length_set];exact hF)
 generalize Go.Sort.order2 ltP W a1 b1 b3=C at *
 obtain ⟨c1,c2,c3⟩:=C
 simp only [List.set_set] at k3 ⊢
 simp only [aJ] at k1 k2 k3 ⊢
 simp (disch:=first | exact AM.dis | fail) only [af.sy,simprocAttr,-List.reduceReplicate,hF.all,Lx,k1,k2,k3]
end
end TtF
namespace TtG
open Go Go.RowKit AM af LtA SyP TmM TsA TsB TsE TsI TsJ TtA TtB TtC TtD TtE TtF Bt
section
variable{hp:List Blk}{L:Nat}{H d:List Nat}
theorem oW{b g e n hi first:Nat}(hb:b < hp.length)(hL:L<=b)(hh:H.contains b=false)(he:e=0\/e=2)(hn:n<=100000)(hfh:first+hi<=n)(hF:Fit hp.length L H):∀ (k root:Nat) (W:Array Pr),W.size=n->hi - root<=k->root<=200000->∃ fr ex,(ex=Ex.exit 0\/ex=Ex.ret) /\
  aX env CZ [10,0,3,4,2] hp.length [(10,.int .i64 root),(0,.slice (some ⟨b,0,some g⟩) n e),(3,.int .i64 first),(4,aJ),(2,.int .i64 hi)] ⟨hp.set b (.cells g true (prs W)),L,H,[]⟩
   = some (ex,fr,⟨hp.set b (.cells g true (prs (Go.Sort.siftDown ltP hi first root W))),L,H,[]⟩)
 | k,root,W,hD,hk,hr=>by
  have hl:=fun p q hp L H d hF=>dn (hp:=hp) (L:=L) (H:=H) (d:=d) p q hF
  have hlen:(prs W).length=2*n:=by rw [dV,hD]
  have hg1:∀ B:Blk,(hp.set b B)[b]?=some B:=fun B=>List.getElem?_set_self hb
  have hss:∀ A B:Blk,(hp.set b A).set b B=hp.set b B:=fun A B=>List.set_set ..
  have hnl:¬ b < L:=by omega
  have e1:(2:Int)*(root:Int)+1=((2*root+1:Nat):Int):=by omega
  have e2:((2*root+1:Nat):Int)+1=((2*root+2:Nat):Int):=by omega
  rw [Go.Sort.siftDown]
  rw [aB CZ.eq_1]
  by_cases h1:2*root+1>=hi
  ·rw [dif_pos h1]
   have g1:((2*root+1:Nat):Int)>=(hi:Int):=by omega
   simp (disch:=first | exact AM.dis | fail) only [af.sy,simprocAttr,-List.reduceReplicate,hF.all,aJ,e1,g1]
   exact ⟨_,_,.inl rfl,rfl⟩
  ·rw [dif_neg h1]
   cases k with
   | zero=>omega
   | succ k=>
    have g1:¬ ((2*root+1:Nat):Int)>=(hi:Int):=by omega
    have q1:=cx W (i:=first+root) (by omega)
    have q2:=cx W (i:=first+(2*root+1)) (by omega)
    rw [Nat.mul_comm] at q1 q2
    have f1:(first:Int)+(root:Int)=((first+root:Nat):Int):=by omega
    have f2:(first:Int)+((2*root+1:Nat):Int)=((first+(2*root+1):Nat):Int):=by omega
    have f3:(first:Int)+((2*root+2:Nat):Int)=((first+(2*root+2):Nat):Int):=by omega
    have f4:((first+(2*root+1):Nat):Int)+1=((first+(2*root+2):Nat):Int):=by omega
    have b1:0<=((first+root:Nat):Int)/\((first+root:Nat):Int) < (n:Int):=by omega
    have b2:0<=((first+(2*root+1):Nat):Int)/\((first+(2*root+1):Nat):Int) < (n:Int):=by omega
    have s1:(first+root)*2+2<=2*n:=by omega
    have s2:(first+(2*root+1))*2+2<=2*n:=by omega
    have sw1:=oV W (i:=first+root) (j:=first+(2*root+1)) (by omega) (by omega)
    rw [Nat.mul_comm 2 (first+root),Nat.mul_comm 2 (first+(2*root+1))] at sw1
    simp only [putAt] at sw1
    by_cases h2:2*root+1+1 < hi
    ·have g2:((2*root+2:Nat):Int) < (hi:Int):=by omega
     have q3:=cx W (i:=first+(2*root+2)) (by omega)
     rw [Nat.mul_comm] at q3
     have b3:0<=((first+(2*root+2):Nat):Int)/\((first+(2*root+2):Nat):Int) < (n:Int):=by omega
     have s3:(first+(2*root+2))*2+2<=2*n:=by omega
     have ee:first+(2*root+1)+1=first+(2*root+2):=by omega
     rw [ee]
     by_cases h3:ltP W[first+(2*root+1)]! W[first+(2*root+2)]! = true
     ·have c3:fA W[first+(2*root+1)]! W[first+(2*root+2)]! < 0:=of_decide_eq_true h3
      rw [if_pos (by rw [h3];simpa using h2)]
      by_cases h4:ltP W[first+root]! W[first+(2*root+2)]! = true
      ·have c4:fA W[first+root]! W[first+(2*root+2)]! < 0:=of_decide_eq_true h4
       rw [if_neg (by rw [h4];simp),dif_pos (by omega)]
       have sw2:=oV W (i:=first+root) (j:=first+(2*root+2)) (by omega) (by omega)
       rw [Nat.mul_comm 2 (first+root),Nat.mul_comm 2 (first+(2*root+2))] at sw2
       simp only [putAt] at sw2
       obtain ⟨fr,ex,hx,ih⟩:=oW (g:=g) (e:=e) hb hL hh he hn hfh hF k (2*root+2) (Go.Sort.swp W (first+root) (first+(2*root+2))) (by rw [swp_size,hD]) (by omega) (by omega)
       simp only [aJ] at ih
       refine ⟨fr,ex,hx,?_⟩
       simp (disch:=first | exact AM.dis | fail) only [af.sy,simprocAttr,-List.reduceReplicate,hF.all,aJ,e1,e2,g1,g2,f1,f2,f3,f4,b1,b2,b3,s1,s2,s3,q1,q2,q3,hg1,hss,hh,hlen,hnl,hl,c3,c4,sw2,ih]
      ·have c4:¬ fA W[first+root]! W[first+(2*root+2)]! < 0:=fun h=>h4 (decide_eq_true h)
       rw [if_pos (by simpa using h4)]
       simp (disch:=first | exact AM.dis | fail) only [af.sy,simprocAttr,-List.reduceReplicate,hF.all,aJ,e1,e2,g1,g2,f1,f2,f3,f4,b1,b2,b3,s1,s2,s3,q1,q2,q3,hg1,hss,hh,hlen,hnl,hl,c3,c4]
       exact ⟨_,_,.inr rfl,rfl⟩
     ·have c3:¬ fA W[first+(2*root+1)]! W[first+(2*root+2)]! < 0:=fun h=>h3 (decide_eq_true h)
      rw [if_neg (by intro h;rw [Bool.and_eq_true] at h;exact h3 h.2)]
      by_cases h4:ltP W[first+root]! W[first+(2*root+1)]! = true
      ·have c4:fA W[first+root]! W[first+(2*root+1)]! < 0:=of_decide_eq_true h4
       rw [if_neg (by rw [h4];simp)]
       obtain ⟨fr,ex,hx,ih⟩:=oW (g:=g) (e:=e) hb hL hh he hn hfh hF k (2*root+1) (Go.Sort.swp W (first+root) (first+(2*root+1))) (by rw [swp_size,hD]) (by omega) (by omega)
       simp only [aJ] at ih
       refine ⟨fr,ex,hx,?_⟩
       simp (disch:=first | exact AM.dis | fail) only [af.sy,simprocAttr,-List.reduceReplicate,hF.all,aJ,e1,e2,g1,g2,f1,f2,f3,f4,b1,b2,b3,s1,s2,s3,q1,q2,q3,hg1,hss,hh,hlen,hnl,hl,c3,c4,sw1,ih]
      ·have c4:¬ fA W[first+root]! W[first+(2*root+1)]! < 0:=fun h=>h4 (decide_eq_true h)
       rw [if_pos (by simpa using h4)]
       simp (disch:=first | exact AM.dis | fail) only [af.sy,simprocAttr,-List.reduceReplicate,hF.all,aJ,e1,e2,g1,g2,f1,f2,f3,f4,b1,b2,b3,s1,s2,s3,q1,q2,q3,hg1,hss,hh,hlen,hnl,hl,c3,c4]
       exact ⟨_,_,.inr rfl,rfl⟩
    ·have g2:¬ ((2*root+2:Nat):Int) < (hi:Int):=by omega
     rw [if_neg (by intro h;rw [Bool.and_eq_true] at h;exact h2 (of_decide_eq_true h.1))]
     by_cases h4:ltP W[first+root]! W[first+(2*root+1)]! = true
     ·have c4:fA W[first+root]! W[first+(2*root+1)]! < 0:=of_decide_eq_true h4
      rw [if_neg (by rw [h4];simp)]
      obtain ⟨fr,ex,hx,ih⟩:=oW (g:=g) (e:=e) hb hL hh he hn hfh hF k (2*root+1) (Go.Sort.swp W (first+root) (first+(2*root+1))) (by rw [swp_size,hD]) (by omega) (by omega)
      simp only [aJ] at ih
      refine ⟨fr,ex,hx,?_⟩
      simp (disch:=first | exact AM.dis | fail) only [af.sy,simprocAttr,-List.reduceReplicate,hF.all,aJ,e1,e2,g1,g2,f1,f2,f3,f4,b1,b2,s1,s2,q1,q2,hg1,hss,hh,hlen,hnl,hl,c4,sw1,ih]
     ·have c4:¬ fA W[first+root]! W[first+(2*root+1)]! < 0:=fun h=>h4 (decide_eq_true h)
      rw [if_pos (by simpa using h4)]
      simp (disch:=first | exact AM.dis | fail) only [af.sy,simprocAttr,-List.reduceReplicate,hF.all,aJ,e1,e2,g1,g2,f1,f2,f3,f4,b1,b2,s1,s2,q1,q2,hg1,hss,hh,hlen,hnl,hl,c4]
      exact ⟨_,_,.inr rfl,rfl⟩
theorem Bh{b g e n hi first root:Nat}{W:Array Pr}(hb:hp[b]?=some (.cells g true (prs W)))(hD:W.size=n)(hL:L<=b)(hh:H.contains b=false)(he:e=0\/e=2)(hn:n<=100000)(hfh:first+hi<=n)(hr:root<=100000)(hF:Fit hp.length L H) :
  aN env (.func 286) [.slice (some ⟨b,0,some g⟩) n e,.int .i64 root,.int .i64 hi,.int .i64 first,aJ] ⟨hp,L,H,d⟩=some (.tuple #[],⟨hp.set b (.cells g true (prs (Go.Sort.siftDown ltP hi first root W))),L,H,d⟩):=by
 rw [aA 286 _ _ abZ]
 have hbl:=(List.getElem?_eq_some_iff.1 hb).1
 obtain ⟨fr,ex,hx,h⟩:=oW (hp:=hp) (L:=L) (H:=H) (g:=g) (e:=e) (first:=first) hbl hL hh he hn hfh hF hi root W hD (by omega) (by omega)
 rw [dS hb] at h
 simp only [aJ] at h ⊢
 rcases hx with rfl | rfl
 ·simp (disch:=first | exact AM.dis | fail) only [af.sy,simprocAttr,-List.reduceReplicate,hF.all,F5,h]
 ·simp (disch:=first | exact AM.dis | fail) only [af.sy,simprocAttr,-List.reduceReplicate,hF.all,F5,h]
theorem lQ(hi first:Nat):∀ (k root:Nat) (W:Array Pr),hi - root<=k->(Go.Sort.siftDown ltP hi first root W).size=W.size
 | 0,root,W,h=>by rw [Go.Sort.siftDown,dif_pos (by omega)]
 | k+1,root,W,h=>by
  rw [Go.Sort.siftDown]
  split
  ·rfl
  ·split
   ·split
    ·rfl
    ·split
     ·rw [lQ hi first k _ _ (by omega),swp_size]
     ·rfl
   ·split
    ·rfl
    ·rw [lQ hi first k _ _ (by omega),swp_size]
theorem yL{b g e n hi first:Nat}(hb:b < hp.length)(hL:L<=b)(hh:H.contains b=false)(he:e=0\/e=2)(hn:n<=100000)(hfh:first+hi<=n)(hF:Fit hp.length L H):∀ (k:Nat) (W:Array Pr),W.size=n->k<=100000->∃ fr,
  aX env v7 [11,9,0,10,8,3] hp.length [(11,.int .i64 ((k:Int) - 1)),(9,.int .i64 0),(0,.slice (some ⟨b,0,some g⟩) n e),(10,.int .i64 hi),(8,.int .i64 first),(3,aJ)] ⟨hp.set b (.cells g true (prs W)),L,H,[]⟩
   = some (.exit 0,fr,⟨hp.set b (.cells g true (prs (Go.Sort.heapBuild ltP hi first k W))),L,H,[]⟩)/\fr.get 9=some (.int .i64 0)/\fr.get 0=some (.slice (some ⟨b,0,some g⟩) n e)/\fr.get 10=some (.int .i64 hi)/\fr.get 8=some (.int .i64 first)/\fr.get 3=some aJ
 | 0,W,hD,hk=>by
  rw [Go.Sort.heapBuild]
  rw [aB v7.eq_1]
  have e0:((0:Nat):Int) - 1 = -1:=rfl
  rw [e0]
  have h1:¬ (-1:Int)>=0:=by decide
  simp (disch:=first | exact AM.dis | fail) only [af.sy,simprocAttr,-List.reduceReplicate,hF.all,h1]
  exact ⟨_,rfl,rfl,rfl,rfl,rfl,rfl⟩
 | k+1,W,hD,hk=>by
  obtain ⟨fr,ih,ih2⟩:=yL (g:=g) (e:=e) (first:=first) hb hL hh he hn hfh hF k (Go.Sort.siftDown ltP hi first k W) (by rw [lQ hi first hi k W (by omega),hD]) (by omega)
  have hs:=fun d=>Bh (hp:=hp.set b (.cells g true (prs W))) (L:=L) (H:=H) (d:=d) (g:=g) (e:=e) (root:=k) (List.getElem?_set_self hb) hD hL hh he hn hfh (by omega) (by rw [List.length_set];exact hF)
  rw [Go.Sort.heapBuild]
  have e1:((k+1:Nat):Int) - 1=(k:Int):=by omega
  have h1:(k:Int)>=0:=by omega
  simp only [List.set_set,aJ] at hs ih ih2 ⊢
  rw [aB v7.eq_1,e1]
  refine ⟨fr,?_,ih2⟩
  simp (disch:=first | exact AM.dis | fail) only [af.sy,simprocAttr,-List.reduceReplicate,hF.all,h1,hs,ih]
theorem GF{b g e n first:Nat}(hb:b < hp.length)(hL:L<=b)(hh:H.contains b=false)(he:e=0\/e=2)(hn:n<=100000)(hF:Fit hp.length L H):∀ (k:Nat) (W:Array Pr),W.size=n->first+k<=n->∃ fr,
  aX env v5 [12,0,9,8,3] hp.length [(12,.int .i64 ((k:Int) - 1)),(0,.slice (some ⟨b,0,some g⟩) n e),(9,.int .i64 0),(8,.int .i64 first),(3,aJ)] ⟨hp.set b (.cells g true (prs W)),L,H,[]⟩
   = some (.exit 2,fr,⟨hp.set b (.cells g true (prs (Go.Sort.heapPop ltP first k W))),L,H,[]⟩)
 | 0,W,hD,hk=>by
  rw [Go.Sort.heapPop]
  rw [aB v5.eq_1]
  have e0:((0:Nat):Int) - 1 = -1:=rfl
  rw [e0]
  have h1:¬ (-1:Int)>=0:=by decide
  simp (disch:=first | exact AM.dis | fail) only [af.sy,simprocAttr,-List.reduceReplicate,hF.all,h1]
  exact ⟨_,rfl⟩
 | k+1,W,hD,hk=>by
  have hsz:(Go.Sort.swp W first (first+k)).size=n:=by rw [swp_size,hD]
  obtain ⟨fr,ih⟩:=GF (g:=g) (e:=e) (first:=first) hb hL hh he hn hF k (Go.Sort.siftDown ltP k first 0 (Go.Sort.swp W first (first+k))) (by rw [lQ k first k 0 _ (by omega),hsz]) (by omega)
  have hs:=fun d=>Bh (hp:=hp.set b (.cells g true (prs (Go.Sort.swp W first (first+k))))) (L:=L) (H:=H) (d:=d) (g:=g) (e:=e) (hi:=k) (first:=first) (root:=0) (List.getElem?_set_self hb) hsz hL hh he hn (by omega) (by omega) (by rw [List.length_set];exact hF)
  rw [Go.Sort.heapPop]
  have e1:((k+1:Nat):Int) - 1=(k:Int):=by omega
  have h1:(k:Int)>=0:=by omega
  have hlen:(prs W).length=2*n:=by rw [dV,hD]
  have hg1:∀ B:Blk,(hp.set b B)[b]?=some B:=fun B=>List.getElem?_set_self hb
  have hss:∀ A B:Blk,(hp.set b A).set b B=hp.set b B:=fun A B=>List.set_set ..
  have hnl:¬ b < L:=by omega
  have q1:=cx W (i:=first) (by omega)
  have q2:=cx W (i:=first+k) (by omega)
  rw [Nat.mul_comm] at q1 q2
  have f1:(first:Int)+(k:Int)=((first+k:Nat):Int):=by omega
  have b1:0<=(first:Int)/\(first:Int) < (n:Int):=by omega
  have b2:0<=((first+k:Nat):Int)/\((first+k:Nat):Int) < (n:Int):=by omega
  have s1:first*2+2<=2*n:=by omega
  have s2:(first+k)*2+2<=2*n:=by omega
  have sw1:=oV W (i:=first) (j:=first+k) (by omega) (by omega)
  rw [Nat.mul_comm 2 first,Nat.mul_comm 2 (first+k)] at sw1
  simp only [putAt] at sw1
  simp only [List.set_set,aJ,Int.natCast_zero] at hs ih ⊢
  rw [aB v5.eq_1,e1]
  refine ⟨fr,?_⟩
  simp (disch:=first | exact AM.dis | fail) only [af.sy,simprocAttr,-List.reduceReplicate,hF.all,h1,f1,b1,b2,s1,s2,q1,q2,hg1,hss,hh,hlen,hnl,sw1,hs,ih]
theorem oh(hi first:Nat):∀ (k:Nat) (W:Array Pr),(Go.Sort.heapBuild ltP hi first k W).size=W.size
 | 0,W=>rfl
 | k+1,W=>by rw [Go.Sort.heapBuild,oh hi first k,lQ hi first hi k W (by omega)]
theorem Ou{b g e n a be:Nat}{W:Array Pr}(hb:hp[b]?=some (.cells g true (prs W)))(hD:W.size=n)(hL:L<=b)(hh:H.contains b=false)(he:e=0\/e=2)(hn:n<=100000)(hab:a < be)(hbe:be<=n)(hF:Fit hp.length L H) :
  aN env (.func 270) [.slice (some ⟨b,0,some g⟩) n e,.int .i64 a,.int .i64 be,aJ] ⟨hp,L,H,d⟩=some (.tuple #[],⟨hp.set b (.cells g true (prs (Go.Sort.heapSort ltP W a be))),L,H,d⟩):=by
 rw [aA 270 _ _ abN]
 have hbl:=(List.getElem?_eq_some_iff.1 hb).1
 obtain ⟨fr,h,h9,h0,h10,h8,h3⟩:=yL (hp:=hp) (L:=L) (H:=H) (g:=g) (e:=e) (hi:=be - a) (first:=a) hbl hL hh he hn (by omega) hF ((be - a - 1) / 2+1) W hD (by omega)
 obtain ⟨fr2,hq⟩:=GF (hp:=hp) (L:=L) (H:=H) (g:=g) (e:=e) (first:=a) hbl hL hh he hn hF (be - a) (Go.Sort.heapBuild ltP (be - a) a ((be - a - 1) / 2+1) W) (by rw [oh,hD]) (by omega)
 rw [dS hb] at h
 have e1:(be:Int) - (a:Int)=((be - a:Nat):Int):=by omega
 have e2:((be - a:Nat):Int) - 1=((be - a - 1:Nat):Int):=by omega
 have e3:Int.tdiv ((be - a - 1:Nat):Int) 2=(((be - a - 1) / 2:Nat):Int):=by
  rw [Int.tdiv_eq_ediv_of_nonneg (by omega)];omega
 have e4:(((be - a - 1) / 2+1:Nat):Int) - 1=(((be - a - 1) / 2:Nat):Int):=by omega
 rw [e4] at h
 rw [e2] at hq
 unfold Go.Sort.heapSort
 simp only [aJ] at h h3 hq ⊢
 simp (disch:=first | exact AM.dis | fail) only [af.sy,simprocAttr,-List.reduceReplicate,hF.all,Lp,e1,e2,e3,h,h9,h0,h10,h8,h3,hq]
end
end TtG
namespace TtH
open Go Go.RowKit AM af LtA SyP TmM TsA TsB TsE TsI TsJ TtA TtB TtC TtD TtE TtF TtG Bt
section
variable{hp:List Blk}{L:Nat}{H d:List Nat}
theorem GG{b g e n x q s:Nat}{W:Array Pr}(hb:hp[b]?=some (.cells g true (prs W)))(hD:W.size=n)(hh:H.contains b=false)(he:e=0\/e=2)(hn:n<=100000)(hx:1<=x)(hx2:x+1 < n)
  (hq:hp[q]?=some (.cells 0 true [.int .i64 s])) (hqL:L<=q) (hqh:H.contains q=false) (hbq:b≠q) (hs:s<=90000) (hF:Fit hp.length L H) :
  aN env (.func 289) [.slice (some ⟨b,0,some g⟩) n e,.int .i64 x,.pointer (some ⟨q,0,some 0⟩),aJ] ⟨hp,L,H,d⟩=some (.int .i64 (Go.Sort.medianAdjacent ltP W x s).1,⟨hp.set q (.cells 0 true [.int .i64 (Go.Sort.medianAdjacent ltP W x s).2]),L,H,d⟩):=by
 rw [aA 289 _ _ ab2]
 have k:=fun d=>uT (d:=d) (x:=x - 1) (y:=x) (z:=x+1) hb hD hh he hn (by omega) (by omega) hx2 hq hqL hqh hbq hs hF
 have e1:(x:Int) - 1=((x - 1:Nat):Int):=by omega
 unfold Go.Sort.medianAdjacent
 simp only [aJ,Int.natCast_add,Int.natCast_one] at k ⊢
 simp (disch:=first | exact AM.dis | fail) only [af.sy,simprocAttr,-List.reduceReplicate,hF.all,Lw,e1,k]
end
end TtH
namespace TtI
open Go Go.RowKit AM af LtA SyP TmM TsA TsB TsE TsI TsJ TtA TtB TtC TtD TtE TtF TtG TtH Bt
theorem GH{a b:Int} : zY a b < 0↔a < b:=by
 unfold zY
 split
 ·simp only [*];simp
 ·split<;>simp<;>omega
theorem Bi{a b:Int} : zY a b=0↔a=b:=by
 unfold zY
 split
 ·simp;omega
 ·split<;>simp<;>omega
theorem Df{p q:Pr} : ltP p q=true↔p.1 < q.1\/p.1=q.1/\p.2 < q.2:=by
 unfold ltP fA
 rw [decide_eq_true_eq]
 by_cases h:zY p.1 q.1=0
 ·rw [if_neg (by simpa using h),GH]
  have:=Bi.1 h
  omega
 ·rw [if_pos h,GH]
  have:p.1≠q.1:=fun e=>h (Bi.2 e)
  omega
theorem LI{p q:Pr} : ltP p q=false↔¬ (p.1 < q.1\/p.1=q.1/\p.2 < q.2):=by
 rw [<- Df];simp
theorem mT:Go.Sort.SWO ltP where
 irrefl x:=by rw [LI];omega
 trans x y z h1 h2:=by rw [Df] at *;omega
 ntrans x y z h1 h2:=by rw [LI] at *;omega
theorem om:∀ (j:Nat) (W:Array Pr),(Go.Sort.shiftDown ltP j W).size=W.size
 | 0,W=>rfl
 | j+1,W=>by
  rw [Go.Sort.shiftDown]
  split
  ·rfl
  ·rw [om j,swp_size]
theorem mU(b:Nat):∀ (k j:Nat) (W:Array Pr),b - j<=k->(Go.Sort.shiftUp ltP b j W).size=W.size
 | 0,j,W,h=>by rw [Go.Sort.shiftUp,if_neg (by omega)]
 | k+1,j,W,h=>by
  rw [Go.Sort.shiftUp]
  split
  ·split
   ·rfl
   ·rw [mU b k _ _ (by omega),swp_size]
  ·rfl
theorem pR(b:Nat)(W:Array Pr):∀ (k i:Nat),b - i<=k->i<=b->i<=Go.Sort.scanSorted ltP W b i/\Go.Sort.scanSorted ltP W b i<=b
 | 0,i,h,h2=>by
  rw [Go.Sort.scanSorted,if_neg (by simp;omega)]
  omega
 | k+1,i,h,h2=>by
  rw [Go.Sort.scanSorted]
  split
  ·rename_i hc
   simp only [Bool.and_eq_true,decide_eq_true_eq] at hc
   have:=pR b W k (i+1) (by omega) (by omega)
   omega
  ·omega
theorem pS(a:Nat):∀ (k i j:Nat) (W:Array Pr),j+1 - i<=k->(Go.Sort.partLoop ltP a i j W).2.size=W.size
 | k,i,j,W,h=>by
  rw [Go.Sort.partLoop_eq]
  split
  ·rfl
  ·rename_i hc
   have g:=Go.Sort.partLoop_guard ltP a i j W hc
   cases k with
   | zero=>omega
   | succ k=>rw [pS a k _ _ _ (by omega),swp_size]
end TtI
namespace TtJ
open Go Go.RowKit AM af LtA SyP TmM TsA TsB TsE TsI TsJ TtA TtB TtC TtD TtE TtF TtG TtH TtI Bt
def pT:Go.Sort.Hint->Nat
 | .unknown=>0
 | .increasing=>1
 | .decreasing=>2
def Bj(s:Nat):Go.Sort.Hint:=if s=0 then .increasing else if s=12 then .decreasing else .unknown
theorem oo{W:Array Pr}{x y z s:Nat} : (Go.Sort.median ltP W x y z s).2<=s+3:=by
 unfold Go.Sort.median
 have h1:=og (W:=W) (x:=x) (y:=y) (s:=s)
 have h2:=og (W:=W) (x:=(Go.Sort.order2 ltP W x y s).2.1) (y:=z) (s:=(Go.Sort.order2 ltP W x y s).2.2)
 have h3:=og (W:=W) (x:=(Go.Sort.order2 ltP W x y s).1) (y:=(Go.Sort.order2 ltP W (Go.Sort.order2 ltP W x y s).2.1 z (Go.Sort.order2 ltP W x y s).2.2).1) (s:=(Go.Sort.order2 ltP W (Go.Sort.order2 ltP W x y s).2.1 z (Go.Sort.order2 ltP W x y s).2.2).2.2)
 simp only
 omega
section
variable{hp:List Blk}{L:Nat}{H d:List Nat}
theorem JD{b g e n a be:Nat}{W:Array Pr}(hb:hp[b]?=some (.cells g true (prs W)))(hD:W.size=n)(hh:H.contains b=false)(he:e=0\/e=2)(hn:n<=100000)(hab:a < be)(hbe:be<=n)(hF:Fit hp.length L H) :
  aN env (.func 272) [.slice (some ⟨b,0,some g⟩) n e,.int .i64 a,.int .i64 be,aJ] ⟨hp,L,H,d⟩=some (.tuple #[.int .i64 (Go.Sort.choosePivot ltP W a be).1,.int .i64 (pT (Go.Sort.choosePivot ltP W a be).2)],⟨hp,L,H,d⟩):=by
 rw [aA 272 _ _ abP]
 have hbl:=(List.getElem?_eq_some_iff.1 hb).1
 have hbh:∀ B:Blk,(hp++[B])[b]?=some (.cells g true (prs W)):=fun B=>by rw [lI hbl];exact hb
 have cY:∀ A B:Blk,(hp++[A]).set hp.length B=hp++[B]:=fun A B=>fL ..
 have hF1:∀ B:Blk,Fit (hp++[B]).length L H:=fun B=>hF.mono (by simp)
 have kA:=fun (x s:Nat) (hx:1<=x) (hx2:x+1 < n) (hs:s<=90000) d=>GG (hp:=hp++[.cells 0 true [.int .i64 s]]) (d:=d) (q:=hp.length) (x:=x) (s:=s) (hbh _) hD hh he hn hx hx2 (bY ..) hF.1 hF.kg (by omega) hs (hF1 _)
 have kM:=fun (x y z s:Nat) (hx:x < n) (hy:y < n) (hz:z < n) (hs:s<=90000) d=>uT (hp:=hp++[.cells 0 true [.int .i64 s]]) (d:=d) (q:=hp.length) (x:=x) (y:=y) (z:=z) (s:=s) (hbh _) hD hh he hn hx hy hz (bY ..) hF.1 hF.kg (by omega) hs (hF1 _)
 simp only [cY,aJ] at kA kM
 have e1:(be:Int) - (a:Int)=((be - a:Nat):Int):=by omega
 have e2:Int.tdiv ((be - a:Nat):Int) 4=(((be - a) / 4:Nat):Int):=by rw [Int.tdiv_eq_ediv_of_nonneg (by omega)];omega
 have ei:(a:Int)+((((be - a) / 4:Nat)):Int)=((a+(be - a) / 4*1:Nat):Int):=by omega
 have ej:(a:Int)+((((be - a) / 4:Nat)):Int)*2=((a+(be - a) / 4*2:Nat):Int):=by omega
 have ek:(a:Int)+((((be - a) / 4:Nat)):Int)*3=((a+(be - a) / 4*3:Nat):Int):=by omega
 have hi:a+(be - a) / 4*1 < n:=by omega
 have hj:a+(be - a) / 4*2 < n:=by omega
 have hk:a+(be - a) / 4*3 < n:=by omega
 have b1:((be - a) / 4:Nat)<=100000:=by omega
 have b2:be - a<=100000:=by omega
 by_cases h8:be - a>=8
 ·have g8:((be - a:Nat):Int)>=8:=by omega
  by_cases h50:be - a>=50
  ·have g50:((be - a:Nat):Int)>=50:=by omega
   have zL:Go.Sort.choosePivot ltP W a be=(let ri:=Go.Sort.medianAdjacent ltP W (a+(be - a) / 4*1) 0
    let rj:=Go.Sort.medianAdjacent ltP W (a+(be - a) / 4*2) ri.2
    let rk:=Go.Sort.medianAdjacent ltP W (a+(be - a) / 4*3) rj.2
    let r:=Go.Sort.median ltP W ri.1 rj.1 rk.1 rk.2
    (r.1,Bj r.2)):=by
    unfold Go.Sort.choosePivot
    simp only [if_pos h8,if_pos h50]
    rfl
   rw [zL]
   clear zL
   simp only
   generalize hx:a+(be - a) / 4*1=x at *
   generalize hy:a+(be - a) / 4*2=y at *
   generalize hz:a+(be - a) / 4*3=z at *
   have m1:=kA x 0 (by omega) (by omega) (by omega)
   have t1:(Go.Sort.medianAdjacent ltP W x 0).2<=0+3:=oo
   have u1:=Go.Sort.medianAdjacent_mem ltP W x 0
   generalize Go.Sort.medianAdjacent ltP W x 0=r1 at *
   obtain ⟨x1,s1⟩:=r1
   simp only at t1 u1 m1 ⊢
   have m2:=kA y s1 (by omega) (by omega) (by omega)
   have t2:(Go.Sort.medianAdjacent ltP W y s1).2<=s1+3:=oo
   have u2:=Go.Sort.medianAdjacent_mem ltP W y s1
   generalize Go.Sort.medianAdjacent ltP W y s1=r2 at *
   obtain ⟨y1,s2⟩:=r2
   simp only at t2 u2 m2 ⊢
   have m3:=kA z s2 (by omega) (by omega) (by omega)
   have t3:(Go.Sort.medianAdjacent ltP W z s2).2<=s2+3:=oo
   have u3:=Go.Sort.medianAdjacent_mem ltP W z s2
   generalize Go.Sort.medianAdjacent ltP W z s2=r3 at *
   obtain ⟨z1,s3⟩:=r3
   simp only at t3 u3 m3 ⊢
   have m4:=kM x1 y1 z1 s3 (by omega) (by omega) (by omega) (by omega)
   have t4:(Go.Sort.median ltP W x1 y1 z1 s3).2<=s3+3:=oo
   generalize Go.Sort.median ltP W x1 y1 z1 s3=r4 at *
   obtain ⟨w,s4⟩:=r4
   simp only [Int.natCast_zero] at t4 m1 m2 m3 m4 ⊢
   clear kA kM
   by_cases z0:s4=0
   ·subst z0
    simp only [Int.natCast_zero] at m4
    simp (disch:=first | exact AM.dis | fail) only [af.sy,simprocAttr,-List.reduceReplicate,hF.all,rI,aJ,e1,e2,ei,ej,ek,g8,g50,m1,m2,m3,m4]
    rfl
   ·have y0:¬ (s4:Int)=0:=by omega
    by_cases z2:s4=12
    ·subst z2
     simp (disch:=first | exact AM.dis | fail) only [af.sy,simprocAttr,-List.reduceReplicate,hF.all,rI,aJ,e1,e2,ei,ej,ek,g8,g50,m1,m2,m3,m4]
     rfl
    ·have y2:¬ (s4:Int)=12:=by omega
     have hs:Bj s4=.unknown:=by unfold Bj;rw [if_neg z0,if_neg z2]
     rw [hs]
     simp (disch:=first | exact AM.dis | fail) only [af.sy,simprocAttr,-List.reduceReplicate,hF.all,rI,aJ,e1,e2,ei,ej,ek,g8,g50,m1,m2,m3,m4,y0,y2]
     rfl
  ·have g50:¬ ((be - a:Nat):Int)>=50:=by omega
   have zL:Go.Sort.choosePivot ltP W a be=(let r:=Go.Sort.median ltP W (a+(be - a) / 4*1) (a+(be - a) / 4*2) (a+(be - a) / 4*3) 0
    (r.1,Bj r.2)):=by
    unfold Go.Sort.choosePivot
    simp only [if_pos h8,if_neg h50]
    rfl
   rw [zL]
   clear zL
   simp only
   generalize hx:a+(be - a) / 4*1=x at *
   generalize hy:a+(be - a) / 4*2=y at *
   generalize hz:a+(be - a) / 4*3=z at *
   have m4:=kM x y z 0 (by omega) (by omega) (by omega) (by omega)
   have t4:(Go.Sort.median ltP W x y z 0).2<=0+3:=oo
   generalize Go.Sort.median ltP W x y z 0=r4 at *
   obtain ⟨w,s4⟩:=r4
   simp only [Int.natCast_zero] at t4 m4 ⊢
   clear kA kM
   by_cases z0:s4=0
   ·subst z0
    simp only [Int.natCast_zero] at m4
    simp (disch:=first | exact AM.dis | fail) only [af.sy,simprocAttr,-List.reduceReplicate,hF.all,rI,aJ,e1,e2,ei,ej,ek,g8,g50,m4]
    rfl
   ·have y0:¬ (s4:Int)=0:=by omega
    have z2:¬ s4=12:=by omega
    have y2:¬ (s4:Int)=12:=by omega
    have hs:Bj s4=.unknown:=by unfold Bj;rw [if_neg z0,if_neg z2]
    rw [hs]
    simp (disch:=first | exact AM.dis | fail) only [af.sy,simprocAttr,-List.reduceReplicate,hF.all,rI,aJ,e1,e2,ei,ej,ek,g8,g50,m4,y0,y2]
    rfl
 ·have g8:¬ ((be - a:Nat):Int)>=8:=by omega
  have zL:Go.Sort.choosePivot ltP W a be=(a+(be - a) / 4*2,.increasing):=by
   unfold Go.Sort.choosePivot
   simp only [if_neg h8]
   rfl
  rw [zL]
  clear zL kA kM
  simp only
  simp (disch:=first | exact AM.dis | fail) only [af.sy,simprocAttr,-List.reduceReplicate,hF.all,rI,aJ,e1,e2,ei,ej,ek,g8]
  rfl
end
end TtJ
namespace TtK
open Go Go.RowKit AM af LtA SyP TmM TsA TsB TsE TsI TsJ TtA TtB TtC TtD TtE TtF TtG TtH TtI TtJ Bt
section
variable{hp:List Blk}{L:Nat}{H d:List Nat}
theorem up4{b g e n a j:Nat}{W:Array Pr}(hb:hp[b]?=some (.cells g true (prs W)))(hD:W.size=n)(hh:H.contains b=false)(he:e=0\/e=2)(hn:n<=100000)(ha:a < n)(hj:j < n)(hF:Fit hp.length L H):∀ (k i:Nat),j+1 - i<=k->i<=200000->∃ fr,
  aX env CY [12,4,1,0,13] hp.length [(12,.int .i64 i),(4,aJ),(1,.int .i64 a),(0,.slice (some ⟨b,0,some g⟩) n e),(13,.int .i64 j)] ⟨hp,L,H,[]⟩
   = some (.exit 0,fr,⟨hp,L,H,[]⟩)/\fr.get 12=some (.int .i64 (Go.Sort.scanUp (fun x=>ltP x W[a]!) W j i:Nat))/\fr.get 4=some (aJ)/\fr.get 1=some (.int .i64 a)/\fr.get 0=some ((.slice (some ⟨b,0,some g⟩) n e))/\fr.get 13=some (.int .i64 j)
 | k,i,hk,hi=>by
  rw [Go.Sort.scanUp,aB CY.eq_1]
  by_cases hij:i<=j
  ·cases k with
   | zero=>omega
   | succ k=>
   have h1:(i:Int)<=(j:Int):=by omega
   have hl:=fun p q hp L H d hF=>dn (hp:=hp) (L:=L) (H:=H) (d:=d) p q hF
   have hlen:(prs W).length=2*n:=by rw [dV,hD]
   have r1:=cx W (i:=i) (by omega)
   have r0:=cx W (i:=a) (by omega)
   have h2:0<=((i:Nat):Int)/\((i:Nat):Int) < (n:Int):=by omega
   have h3:0<=(a:Int)/\(a:Int) < (n:Int):=by omega
   have s1:(i)*2+2<=2*n:=by omega
   have s0:a*2+2<=2*n:=by omega
   rw [Nat.mul_comm] at r1 r0
   by_cases hlt:ltP W[i]! W[a]! = true
   ·have hc:fA W[i]! W[a]! < 0:=of_decide_eq_true hlt
    obtain ⟨fr,ih,ih2⟩:=up4 hb hD hh he hn ha hj hF k (i+1) (by omega) (by omega)
    simp only [Int.natCast_add,Int.natCast_one] at ih
    rw [if_pos (by show (decide (i<=j)&&ltP W[i]! W[a]!)=true;rw [hlt,decide_eq_true hij];rfl)]
    refine ⟨fr,?_,ih2⟩
    simp only [aJ] at ih ⊢
    simp (disch:=first | exact AM.dis | fail) only [af.sy,simprocAttr,-List.reduceReplicate,hF.all,h1,h2,h3,hb,hh,hlen,r1,r0,s1,s0,hl,hc,ih]
   ·have hc:¬ fA W[i]! W[a]! < 0:=fun h=>hlt (decide_eq_true h)
    replace hlt:ltP W[i]! W[a]! = false:=by simpa using hlt
    rw [if_neg (by show ¬ (decide (i<=j)&&ltP W[i]! W[a]!)=true;rw [hlt];simp)]
    simp only [aJ]
    simp (disch:=first | exact AM.dis | fail) only [af.sy,simprocAttr,-List.reduceReplicate,hF.all,h1,h2,h3,hb,hh,hlen,r1,r0,s1,s0,hl,hc]
    exact ⟨_,rfl,rfl,rfl,rfl,rfl,rfl⟩
  ·have h1:¬ (i:Int)<=(j:Int):=by omega
   rw [if_neg (by rw [decide_eq_false hij];simp)]
   simp (disch:=first | exact AM.dis | fail) only [af.sy,simprocAttr,-List.reduceReplicate,hF.all,h1]
   exact ⟨_,rfl,rfl,rfl,rfl,rfl,rfl⟩
theorem Yr{b g e n a i:Nat}{W:Array Pr}(hb:hp[b]?=some (.cells g true (prs W)))(hD:W.size=n)(hh:H.contains b=false)(he:e=0\/e=2)(hn:n<=100000)(ha:a < n)(hi:a < i)(hF:Fit hp.length L H):∀ (j:Nat),j < n->∃ fr,
  aX env wo [13,0,1,12,4] hp.length [(13,.int .i64 j),(0,.slice (some ⟨b,0,some g⟩) n e),(1,.int .i64 a),(12,.int .i64 i),(4,aJ)] ⟨hp,L,H,[]⟩
   = some (.exit 2,fr,⟨hp,L,H,[]⟩)/\fr.get 12=some (.int .i64 i)/\fr.get 4=some (aJ)/\fr.get 1=some (.int .i64 a)/\fr.get 0=some ((.slice (some ⟨b,0,some g⟩) n e))/\fr.get 13=some (.int .i64 (Go.Sort.scanDown (fun x=>!ltP x W[a]!) W i j:Nat))
 | 0,hj=>by
  have h1:¬ (i:Int)<=0:=by omega
  rw [aB wo.eq_1]
  simp only [Int.natCast_zero,Go.Sort.scanDown]
  simp (disch:=first | exact AM.dis | fail) only [af.sy,simprocAttr,-List.reduceReplicate,hF.all,h1]
  exact ⟨_,rfl,rfl,rfl,rfl,rfl,rfl⟩
 | j+1,hj=>by
  rw [Go.Sort.scanDown,aB wo.eq_1]
  by_cases hij:i<=j+1
  ·have h1:(i:Int)<=((j+1:Nat):Int):=by omega
   have e1:((j+1:Nat):Int) - 1=(j:Int):=by omega
   have hl:=fun p q hp L H d hF=>dn (hp:=hp) (L:=L) (H:=H) (d:=d) p q hF
   have hlen:(prs W).length=2*n:=by rw [dV,hD]
   have r1:=cx W (i:=j+1) (by omega)
   have r0:=cx W (i:=a) (by omega)
   have h2:0<=((j+1:Nat):Int)/\((j+1:Nat):Int) < (n:Int):=by omega
   have h3:0<=(a:Int)/\(a:Int) < (n:Int):=by omega
   have s1:(j+1)*2+2<=2*n:=by omega
   have s0:a*2+2<=2*n:=by omega
   rw [Nat.mul_comm] at r1 r0
   by_cases hlt:ltP W[j+1]! W[a]! = true
   ·have hc:fA W[j+1]! W[a]! < 0:=of_decide_eq_true hlt
    rw [if_neg (by show ¬ (decide (i<=j+1)&&!ltP W[j+1]! W[a]!)=true;rw [hlt];simp)]
    simp only [aJ]
    simp (disch:=first | exact AM.dis | fail) only [af.sy,simprocAttr,-List.reduceReplicate,hF.all,h1,h2,h3,e1,hb,hh,hlen,r1,r0,s1,s0,hl,hc]
    exact ⟨_,rfl,rfl,rfl,rfl,rfl,rfl⟩
   ·have hc:¬ fA W[j+1]! W[a]! < 0:=fun h=>hlt (decide_eq_true h)
    replace hlt:ltP W[j+1]! W[a]! = false:=by simpa using hlt
    obtain ⟨fr,ih,ih2⟩:=Yr hb hD hh he hn ha hi hF j (by omega)
    rw [if_pos (by show (decide (i<=j+1)&&!ltP W[j+1]! W[a]!)=true;rw [hlt,decide_eq_true hij];rfl)]
    refine ⟨fr,?_,ih2⟩
    simp only [aJ] at ih ⊢
    simp (disch:=first | exact AM.dis | fail) only [af.sy,simprocAttr,-List.reduceReplicate,hF.all,h1,h2,h3,e1,hb,hh,hlen,r1,r0,s1,s0,hl,hc,ih]
  ·have h1:¬ (i:Int)<=((j+1:Nat):Int):=by omega
   rw [if_neg (by rw [decide_eq_false hij];simp)]
   simp (disch:=first | exact AM.dis | fail) only [af.sy,simprocAttr,-List.reduceReplicate,hF.all,h1]
   exact ⟨_,rfl,rfl,rfl,rfl,rfl,rfl⟩
theorem up1{b g e n a j:Nat}{W:Array Pr}(hb:hp[b]?=some (.cells g true (prs W)))(hD:W.size=n)(hh:H.contains b=false)(he:e=0\/e=2)(hn:n<=100000)(ha:a < n)(hj:j < n)(hF:Fit hp.length L H):∀ (k i:Nat),j+1 - i<=k->i<=200000->∃ fr,
  aX env CX [12,4,1,0,13] hp.length [(12,.int .i64 i),(4,aJ),(1,.int .i64 a),(0,.slice (some ⟨b,0,some g⟩) n e),(13,.int .i64 j)] ⟨hp,L,H,[]⟩
   = some (.exit 6,fr,⟨hp,L,H,[]⟩)/\fr.get 12=some (.int .i64 (Go.Sort.scanUp (fun x=>ltP x W[a]!) W j i:Nat))/\fr.get 4=some (aJ)/\fr.get 1=some (.int .i64 a)/\fr.get 0=some ((.slice (some ⟨b,0,some g⟩) n e))/\fr.get 13=some (.int .i64 j)
 | k,i,hk,hi=>by
  rw [Go.Sort.scanUp,aB CX.eq_1]
  by_cases hij:i<=j
  ·cases k with
   | zero=>omega
   | succ k=>
   have h1:(i:Int)<=(j:Int):=by omega
   have hl:=fun p q hp L H d hF=>dn (hp:=hp) (L:=L) (H:=H) (d:=d) p q hF
   have hlen:(prs W).length=2*n:=by rw [dV,hD]
   have r1:=cx W (i:=i) (by omega)
   have r0:=cx W (i:=a) (by omega)
   have h2:0<=((i:Nat):Int)/\((i:Nat):Int) < (n:Int):=by omega
   have h3:0<=(a:Int)/\(a:Int) < (n:Int):=by omega
   have s1:(i)*2+2<=2*n:=by omega
   have s0:a*2+2<=2*n:=by omega
   rw [Nat.mul_comm] at r1 r0
   by_cases hlt:ltP W[i]! W[a]! = true
   ·have hc:fA W[i]! W[a]! < 0:=of_decide_eq_true hlt
    obtain ⟨fr,ih,ih2⟩:=up1 hb hD hh he hn ha hj hF k (i+1) (by omega) (by omega)
    simp only [Int.natCast_add,Int.natCast_one] at ih
    rw [if_pos (by show (decide (i<=j)&&ltP W[i]! W[a]!)=true;rw [hlt,decide_eq_true hij];rfl)]
    refine ⟨fr,?_,ih2⟩
    simp only [aJ] at ih ⊢
    simp (disch:=first | exact AM.dis | fail) only [af.sy,simprocAttr,-List.reduceReplicate,hF.all,h1,h2,h3,hb,hh,hlen,r1,r0,s1,s0,hl,hc,ih]
   ·have hc:¬ fA W[i]! W[a]! < 0:=fun h=>hlt (decide_eq_true h)
    replace hlt:ltP W[i]! W[a]! = false:=by simpa using hlt
    rw [if_neg (by show ¬ (decide (i<=j)&&ltP W[i]! W[a]!)=true;rw [hlt];simp)]
    simp only [aJ]
    simp (disch:=first | exact AM.dis | fail) only [af.sy,simprocAttr,-List.reduceReplicate,hF.all,h1,h2,h3,hb,hh,hlen,r1,r0,s1,s0,hl,hc]
    exact ⟨_,rfl,rfl,rfl,rfl,rfl,rfl⟩
  ·have h1:¬ (i:Int)<=(j:Int):=by omega
   rw [if_neg (by rw [decide_eq_false hij];simp)]
   simp (disch:=first | exact AM.dis | fail) only [af.sy,simprocAttr,-List.reduceReplicate,hF.all,h1]
   exact ⟨_,rfl,rfl,rfl,rfl,rfl,rfl⟩
theorem Ys{b g e n a i:Nat}{W:Array Pr}(hb:hp[b]?=some (.cells g true (prs W)))(hD:W.size=n)(hh:H.contains b=false)(he:e=0\/e=2)(hn:n<=100000)(ha:a < n)(hi:a < i)(hF:Fit hp.length L H):∀ (j:Nat),j < n->∃ fr,
  aX env wk [13,0,1,12,4] hp.length [(13,.int .i64 j),(0,.slice (some ⟨b,0,some g⟩) n e),(1,.int .i64 a),(12,.int .i64 i),(4,aJ)] ⟨hp,L,H,[]⟩
   = some (.exit 8,fr,⟨hp,L,H,[]⟩)/\fr.get 12=some (.int .i64 i)/\fr.get 4=some (aJ)/\fr.get 1=some (.int .i64 a)/\fr.get 0=some ((.slice (some ⟨b,0,some g⟩) n e))/\fr.get 13=some (.int .i64 (Go.Sort.scanDown (fun x=>!ltP x W[a]!) W i j:Nat))
 | 0,hj=>by
  have h1:¬ (i:Int)<=0:=by omega
  rw [aB wk.eq_1]
  simp only [Int.natCast_zero,Go.Sort.scanDown]
  simp (disch:=first | exact AM.dis | fail) only [af.sy,simprocAttr,-List.reduceReplicate,hF.all,h1]
  exact ⟨_,rfl,rfl,rfl,rfl,rfl,rfl⟩
 | j+1,hj=>by
  rw [Go.Sort.scanDown,aB wk.eq_1]
  by_cases hij:i<=j+1
  ·have h1:(i:Int)<=((j+1:Nat):Int):=by omega
   have e1:((j+1:Nat):Int) - 1=(j:Int):=by omega
   have hl:=fun p q hp L H d hF=>dn (hp:=hp) (L:=L) (H:=H) (d:=d) p q hF
   have hlen:(prs W).length=2*n:=by rw [dV,hD]
   have r1:=cx W (i:=j+1) (by omega)
   have r0:=cx W (i:=a) (by omega)
   have h2:0<=((j+1:Nat):Int)/\((j+1:Nat):Int) < (n:Int):=by omega
   have h3:0<=(a:Int)/\(a:Int) < (n:Int):=by omega
   have s1:(j+1)*2+2<=2*n:=by omega
   have s0:a*2+2<=2*n:=by omega
   rw [Nat.mul_comm] at r1 r0
   by_cases hlt:ltP W[j+1]! W[a]! = true
   ·have hc:fA W[j+1]! W[a]! < 0:=of_decide_eq_true hlt
    rw [if_neg (by show ¬ (decide (i<=j+1)&&!ltP W[j+1]! W[a]!)=true;rw [hlt];simp)]
    simp only [aJ]
    simp (disch:=first | exact AM.dis | fail) only [af.sy,simprocAttr,-List.reduceReplicate,hF.all,h1,h2,h3,e1,hb,hh,hlen,r1,r0,s1,s0,hl,hc]
    exact ⟨_,rfl,rfl,rfl,rfl,rfl,rfl⟩
   ·have hc:¬ fA W[j+1]! W[a]! < 0:=fun h=>hlt (decide_eq_true h)
    replace hlt:ltP W[j+1]! W[a]! = false:=by simpa using hlt
    obtain ⟨fr,ih,ih2⟩:=Ys hb hD hh he hn ha hi hF j (by omega)
    rw [if_pos (by show (decide (i<=j+1)&&!ltP W[j+1]! W[a]!)=true;rw [hlt,decide_eq_true hij];rfl)]
    refine ⟨fr,?_,ih2⟩
    simp only [aJ] at ih ⊢
    simp (disch:=first | exact AM.dis | fail) only [af.sy,simprocAttr,-List.reduceReplicate,hF.all,h1,h2,h3,e1,hb,hh,hlen,r1,r0,s1,s0,hl,hc,ih]
  ·have h1:¬ (i:Int)<=((j+1:Nat):Int):=by omega
   rw [if_neg (by rw [decide_eq_false hij];simp)]
   simp (disch:=first | exact AM.dis | fail) only [af.sy,simprocAttr,-List.reduceReplicate,hF.all,h1]
   exact ⟨_,rfl,rfl,rfl,rfl,rfl,rfl⟩
theorem acd{b g e n a j:Nat}{W:Array Pr}(hb:hp[b]?=some (.cells g true (prs W)))(hD:W.size=n)(hh:H.contains b=false)(he:e=0\/e=2)(hn:n<=100000)(ha:a < n)(hj:j < n)(hF:Fit hp.length L H):∀ (k i:Nat),j+1 - i<=k->i<=200000->∃ fr,
  aX env CW [11,0,1,4,12] hp.length [(11,.int .i64 i),(0,.slice (some ⟨b,0,some g⟩) n e),(1,.int .i64 a),(4,aJ),(12,.int .i64 j)] ⟨hp,L,H,[]⟩
   = some (.exit 2,fr,⟨hp,L,H,[]⟩)/\fr.get 11=some (.int .i64 (Go.Sort.scanUp (fun x=>!ltP W[a]! x) W j i:Nat))/\fr.get 4=some (aJ)/\fr.get 1=some (.int .i64 a)/\fr.get 0=some ((.slice (some ⟨b,0,some g⟩) n e))/\fr.get 12=some (.int .i64 j)
 | k,i,hk,hi=>by
  rw [Go.Sort.scanUp,aB CW.eq_1]
  by_cases hij:i<=j
  ·cases k with
   | zero=>omega
   | succ k=>
   have h1:(i:Int)<=(j:Int):=by omega
   have hl:=fun p q hp L H d hF=>dn (hp:=hp) (L:=L) (H:=H) (d:=d) p q hF
   have hlen:(prs W).length=2*n:=by rw [dV,hD]
   have r1:=cx W (i:=i) (by omega)
   have r0:=cx W (i:=a) (by omega)
   have h2:0<=((i:Nat):Int)/\((i:Nat):Int) < (n:Int):=by omega
   have h3:0<=(a:Int)/\(a:Int) < (n:Int):=by omega
   have s1:(i)*2+2<=2*n:=by omega
   have s0:a*2+2<=2*n:=by omega
   rw [Nat.mul_comm] at r1 r0
   by_cases hlt:ltP W[a]! W[i]! = true
   ·have hc:fA W[a]! W[i]! < 0:=of_decide_eq_true hlt
    rw [if_neg (by show ¬ (decide (i<=j)&&!ltP W[a]! W[i]!)=true;rw [hlt];simp)]
    simp only [aJ]
    simp (disch:=first | exact AM.dis | fail) only [af.sy,simprocAttr,-List.reduceReplicate,hF.all,h1,h2,h3,hb,hh,hlen,r1,r0,s1,s0,hl,hc]
    exact ⟨_,rfl,rfl,rfl,rfl,rfl,rfl⟩
   ·have hc:¬ fA W[a]! W[i]! < 0:=fun h=>hlt (decide_eq_true h)
    replace hlt:ltP W[a]! W[i]! = false:=by simpa using hlt
    obtain ⟨fr,ih,ih2⟩:=acd hb hD hh he hn ha hj hF k (i+1) (by omega) (by omega)
    simp only [Int.natCast_add,Int.natCast_one] at ih
    rw [if_pos (by show (decide (i<=j)&&!ltP W[a]! W[i]!)=true;rw [hlt,decide_eq_true hij];rfl)]
    refine ⟨fr,?_,ih2⟩
    simp only [aJ] at ih ⊢
    simp (disch:=first | exact AM.dis | fail) only [af.sy,simprocAttr,-List.reduceReplicate,hF.all,h1,h2,h3,hb,hh,hlen,r1,r0,s1,s0,hl,hc,ih]
  ·have h1:¬ (i:Int)<=(j:Int):=by omega
   rw [if_neg (by rw [decide_eq_false hij];simp)]
   simp (disch:=first | exact AM.dis | fail) only [af.sy,simprocAttr,-List.reduceReplicate,hF.all,h1]
   exact ⟨_,rfl,rfl,rfl,rfl,rfl,rfl⟩
theorem Tv{b g e n a i:Nat}{W:Array Pr}(hb:hp[b]?=some (.cells g true (prs W)))(hD:W.size=n)(hh:H.contains b=false)(he:e=0\/e=2)(hn:n<=100000)(ha:a < n)(hi:a < i)(hF:Fit hp.length L H):∀ (j:Nat),j < n->∃ fr,
  aX env wh [12,11,4,1,0] hp.length [(12,.int .i64 j),(11,.int .i64 i),(4,aJ),(1,.int .i64 a),(0,.slice (some ⟨b,0,some g⟩) n e)] ⟨hp,L,H,[]⟩
   = some (.exit 4,fr,⟨hp,L,H,[]⟩)/\fr.get 11=some (.int .i64 i)/\fr.get 4=some (aJ)/\fr.get 1=some (.int .i64 a)/\fr.get 0=some ((.slice (some ⟨b,0,some g⟩) n e))/\fr.get 12=some (.int .i64 (Go.Sort.scanDown (fun x=>ltP W[a]! x) W i j:Nat))
 | 0,hj=>by
  have h1:¬ (i:Int)<=0:=by omega
  rw [aB wh.eq_1]
  simp only [Int.natCast_zero,Go.Sort.scanDown]
  simp (disch:=first | exact AM.dis | fail) only [af.sy,simprocAttr,-List.reduceReplicate,hF.all,h1]
  exact ⟨_,rfl,rfl,rfl,rfl,rfl,rfl⟩
 | j+1,hj=>by
  rw [Go.Sort.scanDown,aB wh.eq_1]
  by_cases hij:i<=j+1
  ·have h1:(i:Int)<=((j+1:Nat):Int):=by omega
   have e1:((j+1:Nat):Int) - 1=(j:Int):=by omega
   have hl:=fun p q hp L H d hF=>dn (hp:=hp) (L:=L) (H:=H) (d:=d) p q hF
   have hlen:(prs W).length=2*n:=by rw [dV,hD]
   have r1:=cx W (i:=j+1) (by omega)
   have r0:=cx W (i:=a) (by omega)
   have h2:0<=((j+1:Nat):Int)/\((j+1:Nat):Int) < (n:Int):=by omega
   have h3:0<=(a:Int)/\(a:Int) < (n:Int):=by omega
   have s1:(j+1)*2+2<=2*n:=by omega
   have s0:a*2+2<=2*n:=by omega
   rw [Nat.mul_comm] at r1 r0
   by_cases hlt:ltP W[a]! W[j+1]! = true
   ·have hc:fA W[a]! W[j+1]! < 0:=of_decide_eq_true hlt
    obtain ⟨fr,ih,ih2⟩:=Tv hb hD hh he hn ha hi hF j (by omega)
    rw [if_pos (by show (decide (i<=j+1)&&ltP W[a]! W[j+1]!)=true;rw [hlt,decide_eq_true hij];rfl)]
    refine ⟨fr,?_,ih2⟩
    simp only [aJ] at ih ⊢
    simp (disch:=first | exact AM.dis | fail) only [af.sy,simprocAttr,-List.reduceReplicate,hF.all,h1,h2,h3,e1,hb,hh,hlen,r1,r0,s1,s0,hl,hc,ih]
   ·have hc:¬ fA W[a]! W[j+1]! < 0:=fun h=>hlt (decide_eq_true h)
    replace hlt:ltP W[a]! W[j+1]! = false:=by simpa using hlt
    rw [if_neg (by show ¬ (decide (i<=j+1)&&ltP W[a]! W[j+1]!)=true;rw [hlt];simp)]
    simp only [aJ]
    simp (disch:=first | exact AM.dis | fail) only [af.sy,simprocAttr,-List.reduceReplicate,hF.all,h1,h2,h3,e1,hb,hh,hlen,r1,r0,s1,s0,hl,hc]
    exact ⟨_,rfl,rfl,rfl,rfl,rfl,rfl⟩
  ·have h1:¬ (i:Int)<=((j+1:Nat):Int):=by omega
   rw [if_neg (by rw [decide_eq_false hij];simp)]
   simp (disch:=first | exact AM.dis | fail) only [af.sy,simprocAttr,-List.reduceReplicate,hF.all,h1]
   exact ⟨_,rfl,rfl,rfl,rfl,rfl,rfl⟩
end
end TtK
namespace TtL
open Go Go.RowKit AM af LtA SyP TmM TsA TsB TsE TsI TsJ TtA TtB TtC TtD TtE TtF TtG TtH TtI TtJ TtK Bt
section
variable{hp:List Blk}{L:Nat}{H d:List Nat}
theorem cL{n x y:Nat}{W:Array Pr}(hD:W.size=n)(hx:x < n)(hy:y < n) :
  ((prs W).drop (x*2)).take 2=[.int .i64 W[x]!.1,.int .i64 W[x]!.2]/\((prs W).drop (y*2)).take 2=[.int .i64 W[y]!.1,.int .i64 W[y]!.2]/\(0<=(x:Int)/\(x:Int) < (n:Int))/\(0<=(y:Int)/\(y:Int) < (n:Int))/\x*2+2<=2*n/\y*2+2<=2*n
  /\ (prs W).length=2*n:=by
 have r1:=cx W (i:=x) (by omega)
 have r0:=cx W (i:=y) (by omega)
 rw [Nat.mul_comm] at r1 r0
 exact ⟨r1,r0,by omega,by omega,by omega,by omega,by rw [dV,hD]⟩
theorem eY{n x y:Nat}{W:Array Pr}(hD:W.size=n)(hx:x < n)(hy:y < n):putAt (putAt (prs W) (x*2) [.int .i64 W[y]!.1,.int .i64 W[y]!.2]) (y*2) [.int .i64 W[x]!.1,.int .i64 W[x]!.2]=prs (Go.Sort.swp W x y):=by
 have:=oV W (i:=x) (j:=y) (by omega) (by omega)
 rwa [Nat.mul_comm 2 x,Nat.mul_comm 2 y] at this
theorem uU(a:Nat):∀ (k i j:Nat) (W:Array Pr),j+1 - i<=k->(Go.Sort.partLoop ltP a i j W).1<=j
 | k,i,j,W,h=>by
  rw [Go.Sort.partLoop_eq]
  have h2:=Go.Sort.scanDown_le (fun x=>!ltP x W[a]!) W (Go.Sort.scanUp (fun x=>ltP x W[a]!) W j i) j
  split
  ·exact h2
  ·rename_i hc
   have g:=Go.Sort.partLoop_guard ltP a i j W hc
   cases k with
   | zero=>omega
   | succ k=>
    have:=uU a k _ _ (Go.Sort.swp W (Go.Sort.scanUp (fun x=>ltP x W[a]!) W j i) (Go.Sort.scanDown (fun x=>!ltP x W[a]!) W (Go.Sort.scanUp (fun x=>ltP x W[a]!) W j i) j)) (Nat.le_of_lt_succ (Nat.lt_of_lt_of_le g h))
    omega
theorem Bk{b g e a n:Nat}(hb:b < hp.length)(hL:L<=b)(hh:H.contains b=false)(he:e=0\/e=2)(hn:n<=100000)(ha:a < n)(hF:Fit hp.length L H):∀ (k i j:Nat) (W:Array Pr),W.size=n->j+1 - i<=k->a < i->i<=n+1->j < n->∃ fr,
  aX env wm [12,4,1,0,13] hp.length [(12,.int .i64 i),(4,aJ),(1,.int .i64 a),(0,.slice (some ⟨b,0,some g⟩) n e),(13,.int .i64 j)] ⟨hp.set b (.cells g true (prs W)),L,H,[]⟩
   = some (.exit 4,fr,⟨hp.set b (.cells g true (prs (Go.Sort.partLoop ltP a i j W).2)),L,H,[]⟩)/\fr.get 13=some (.int .i64 ((Go.Sort.partLoop ltP a i j W).1:Nat))/\fr.get 0=some (.slice (some ⟨b,0,some g⟩) n e)/\fr.get 1=some (.int .i64 a)
 | k,i,j,W,hD,hk,hai,hin,hj=>by
  have hg1:∀ B:Blk,(hp.set b B)[b]?=some B:=fun B=>List.getElem?_set_self hb
  have hss:∀ A B:Blk,(hp.set b A).set b B=hp.set b B:=fun A B=>List.set_set ..
  have hnl:¬ b < L:=by omega
  have hl2:∀ B:Blk,(hp.set b B).length=hp.length:=fun B=>List.length_set ..
  have G:=Go.Sort.partLoop_guard ltP a i j W
  rw [Go.Sort.partLoop_eq]
  obtain ⟨fu,u0,u1,u2,u3,u4,u5⟩:=up1 (hp:=hp.set b (.cells g true (prs W))) (L:=L) (H:=H) (g:=g) (e:=e) (a:=a) (j:=j) (hg1 _) hD hh he hn ha hj (by rw [hl2];exact hF) (j+1 - i) i (Nat.le_refl _) (by omega)
  have hge:=Go.Sort.scanUp_ge (fun x=>ltP x W[a]!) W j i
  generalize Go.Sort.scanUp (fun x=>ltP x W[a]!) W j i=i2 at *
  obtain ⟨fd,d0,d1,d2,d3,d4,d5⟩:=Ys (hp:=hp.set b (.cells g true (prs W))) (L:=L) (H:=H) (g:=g) (e:=e) (a:=a) (i:=i2) (hg1 _) hD hh he hn ha (by omega) (by rw [hl2];exact hF) j hj
  have hle:=Go.Sort.scanDown_le (fun x=>!ltP x W[a]!) W i2 j
  generalize Go.Sort.scanDown (fun x=>!ltP x W[a]!) W i2 j=j2 at *
  simp only [hl2,aJ] at u0 u2 d0 d2 ⊢
  by_cases hij:i2 > j2
  ·have h1:(i2:Int) > (j2:Int):=by omega
   rw [if_pos hij,aB wm.eq_1]
   simp (disch:=first | exact AM.dis | fail) only [af.sy,simprocAttr,-List.reduceReplicate,hF.all,u0,u1,u2,u3,u4,u5,d0,d1,d2,d3,d4,d5,h1]
   exact ⟨_,rfl,by assumption,by assumption,by assumption⟩
  ·have h1:¬ (i2:Int) > (j2:Int):=by omega
   replace G:=G hij
   cases k with
   | zero=>omega
   | succ k=>
    obtain ⟨fr,ih,ih2⟩:=Bk (g:=g) (e:=e) hb hL hh he hn ha hF k (i2+1) (j2 - 1) (Go.Sort.swp W i2 j2) (by rw [swp_size,hD]) (by omega) (by omega) (by omega) (by omega)
    obtain ⟨w1,w2,w3,w4,w5,w6,w7⟩:=cL hD (x:=i2) (y:=j2) (by omega) (by omega)
    have sw:=eY hD (x:=i2) (y:=j2) (by omega) (by omega)
    simp only [putAt] at sw
    have e1:(j2:Int) - 1=((j2 - 1:Nat):Int):=by omega
    rw [if_neg hij,aB wm.eq_1]
    refine ⟨fr,?_,ih2⟩
    simp only [Int.natCast_add,Int.natCast_one,aJ] at ih
    simp (disch:=first | exact AM.dis | fail) only [af.sy,simprocAttr,-List.reduceReplicate,hF.all,u0,u1,u2,u3,u4,u5,d0,d1,d2,d3,d4,d5,h1,e1,hg1,hss,hh,hnl,w1,w2,w3,w4,w5,w6,w7,sw,ih]
theorem uV{b g e a n:Nat}(hb:b < hp.length)(hL:L<=b)(hh:H.contains b=false)(he:e=0\/e=2)(hn:n<=100000)(ha:a < n)(hF:Fit hp.length L H):∀ (k i j:Nat) (W:Array Pr),W.size=n->j+1 - i<=k->a < i->i<=n+1->j < n->∃ fr,
  aX env wj [11,4,1,0,12] hp.length [(11,.int .i64 i),(4,aJ),(1,.int .i64 a),(0,.slice (some ⟨b,0,some g⟩) n e),(12,.int .i64 j)] ⟨hp.set b (.cells g true (prs W)),L,H,[]⟩
   = some (.exit 0,fr,⟨hp.set b (.cells g true (prs (Go.Sort.partEqLoop ltP a i j W).2)),L,H,[]⟩)/\fr.get 11=some (.int .i64 ((Go.Sort.partEqLoop ltP a i j W).1:Nat))/\fr.get 0=some (.slice (some ⟨b,0,some g⟩) n e)/\fr.get 1=some (.int .i64 a)
 | k,i,j,W,hD,hk,hai,hin,hj=>by
  have hg1:∀ B:Blk,(hp.set b B)[b]?=some B:=fun B=>List.getElem?_set_self hb
  have hss:∀ A B:Blk,(hp.set b A).set b B=hp.set b B:=fun A B=>List.set_set ..
  have hnl:¬ b < L:=by omega
  have hl2:∀ B:Blk,(hp.set b B).length=hp.length:=fun B=>List.length_set ..
  have G:=Go.Sort.partEqLoop_guard ltP a i j W
  rw [Go.Sort.partEqLoop_eq]
  obtain ⟨fu,u0,u1,u2,u3,u4,u5⟩:=acd (hp:=hp.set b (.cells g true (prs W))) (L:=L) (H:=H) (g:=g) (e:=e) (a:=a) (j:=j) (hg1 _) hD hh he hn ha hj (by rw [hl2];exact hF) (j+1 - i) i (Nat.le_refl _) (by omega)
  have hge:=Go.Sort.scanUp_ge (fun x=>!ltP W[a]! x) W j i
  generalize Go.Sort.scanUp (fun x=>!ltP W[a]! x) W j i=i2 at *
  obtain ⟨fd,d0,d1,d2,d3,d4,d5⟩:=Tv (hp:=hp.set b (.cells g true (prs W))) (L:=L) (H:=H) (g:=g) (e:=e) (a:=a) (i:=i2) (hg1 _) hD hh he hn ha (by omega) (by rw [hl2];exact hF) j hj
  have hle:=Go.Sort.scanDown_le (fun x=>ltP W[a]! x) W i2 j
  generalize Go.Sort.scanDown (fun x=>ltP W[a]! x) W i2 j=j2 at *
  simp only [hl2,aJ] at u0 u2 d0 d2 ⊢
  by_cases hij:i2 > j2
  ·have h1:(i2:Int) > (j2:Int):=by omega
   rw [if_pos hij,aB wj.eq_1]
   simp (disch:=first | exact AM.dis | fail) only [af.sy,simprocAttr,-List.reduceReplicate,hF.all,u0,u1,u2,u3,u4,u5,d0,d1,d2,d3,d4,d5,h1]
   exact ⟨_,rfl,by assumption,by assumption,by assumption⟩
  ·have h1:¬ (i2:Int) > (j2:Int):=by omega
   replace G:=G hij
   cases k with
   | zero=>omega
   | succ k=>
    obtain ⟨fr,ih,ih2⟩:=uV (g:=g) (e:=e) hb hL hh he hn ha hF k (i2+1) (j2 - 1) (Go.Sort.swp W i2 j2) (by rw [swp_size,hD]) (by omega) (by omega) (by omega) (by omega)
    obtain ⟨w1,w2,w3,w4,w5,w6,w7⟩:=cL hD (x:=i2) (y:=j2) (by omega) (by omega)
    have sw:=eY hD (x:=i2) (y:=j2) (by omega) (by omega)
    simp only [putAt] at sw
    have e1:(j2:Int) - 1=((j2 - 1:Nat):Int):=by omega
    rw [if_neg hij,aB wj.eq_1]
    refine ⟨fr,?_,ih2⟩
    simp only [Int.natCast_add,Int.natCast_one,aJ] at ih
    simp (disch:=first | exact AM.dis | fail) only [af.sy,simprocAttr,-List.reduceReplicate,hF.all,u0,u1,u2,u3,u4,u5,d0,d1,d2,d3,d4,d5,h1,e1,hg1,hss,hh,hnl,w1,w2,w3,w4,w5,w6,w7,sw,ih]
theorem GI{b g e n a be pv:Nat}{W:Array Pr}(hb:hp[b]?=some (.cells g true (prs W)))(hD:W.size=n)(hL:L<=b)(hh:H.contains b=false)(he:e=0\/e=2)(hn:n<=100000)(hab:a < be)(hbe:be<=n)(hp2:pv < be)(hF:Fit hp.length L H) :
  aN env (.func 275) [.slice (some ⟨b,0,some g⟩) n e,.int .i64 a,.int .i64 be,.int .i64 pv,aJ] ⟨hp,L,H,d⟩=some (.int .i64 ((Go.Sort.partitionEqual ltP W a be pv).1:Nat),⟨hp.set b (.cells g true (prs (Go.Sort.partitionEqual ltP W a be pv).2)),L,H,d⟩):=by
 rw [aA 275 _ _ abS]
 have hbl:=(List.getElem?_eq_some_iff.1 hb).1
 have hg1:∀ B:Blk,(hp.set b B)[b]?=some B:=fun B=>List.getElem?_set_self hbl
 have hss:∀ A B:Blk,(hp.set b A).set b B=hp.set b B:=fun A B=>List.set_set ..
 have hnl:¬ b < L:=by omega
 obtain ⟨w1,w2,w3,w4,w5,w6,w7⟩:=cL hD (x:=a) (y:=pv) (by omega) (by omega)
 have sw:=eY hD (x:=a) (y:=pv) (by omega) (by omega)
 simp only [putAt] at sw
 have e1:(be:Int) - 1=((be - 1:Nat):Int):=by omega
 obtain ⟨fr,l0,l1,l2⟩:=uV (hp:=hp) (L:=L) (H:=H) (g:=g) (e:=e) (a:=a) hbl hL hh he hn (by omega) hF (be - 1+1 - (a+1)) (a+1) (be - 1) (Go.Sort.swp W a pv) (by rw [swp_size,hD]) (Nat.le_refl _) (by omega) (by omega) (by omega)
 unfold Go.Sort.partitionEqual
 simp only [Int.natCast_add,Int.natCast_one,aJ] at l0 ⊢
 simp (disch:=first | exact AM.dis | fail) only [af.sy,simprocAttr,-List.reduceReplicate,hF.all,Lr,hb,hg1,hss,hh,hnl,w1,w2,w3,w4,w5,w6,w7,sw,e1,l0,l1]
theorem jM{b g e n a be pv:Nat}{W:Array Pr}(hb:hp[b]?=some (.cells g true (prs W)))(hD:W.size=n)(hL:L<=b)(hh:H.contains b=false)(he:e=0\/e=2)(hn:n<=100000)(hab:a < be)(hbe:be<=n)(hp2:pv < be)(hF:Fit hp.length L H) :
  aN env (.func 276) [.slice (some ⟨b,0,some g⟩) n e,.int .i64 a,.int .i64 be,.int .i64 pv,aJ] ⟨hp,L,H,d⟩=some (.tuple #[.int .i64 ((Go.Sort.partition ltP W a be pv).1:Nat),.bool (Go.Sort.partition ltP W a be pv).2.1],⟨hp.set b (.cells g true (prs (Go.Sort.partition ltP W a be pv).2.2)),L,H,d⟩):=by
 rw [aA 276 _ _ abT]
 have hbl:=(List.getElem?_eq_some_iff.1 hb).1
 have hg1:∀ B:Blk,(hp.set b B)[b]?=some B:=fun B=>List.getElem?_set_self hbl
 have hss:∀ A B:Blk,(hp.set b A).set b B=hp.set b B:=fun A B=>List.set_set ..
 have hl2:∀ B:Blk,(hp.set b B).length=hp.length:=fun B=>List.length_set ..
 have hnl:¬ b < L:=by omega
 obtain ⟨w1,w2,w3,w4,w5,w6,w7⟩:=cL hD (x:=a) (y:=pv) (by omega) (by omega)
 have sw:=eY hD (x:=a) (y:=pv) (by omega) (by omega)
 simp only [putAt] at sw
 have e1:(be:Int) - 1=((be - 1:Nat):Int):=by omega
 unfold Go.Sort.partition
 simp only
 have hD1:(Go.Sort.swp W a pv).size=n:=by rw [swp_size,hD]
 generalize Go.Sort.swp W a pv=W1 at *
 obtain ⟨fu,u0,u1,u2,u3,u4,u5⟩:=up4 (hp:=hp.set b (.cells g true (prs W1))) (L:=L) (H:=H) (g:=g) (e:=e) (a:=a) (j:=be - 1) (hg1 _) hD1 hh he hn (by omega) (by omega) (by rw [hl2];exact hF) (be - 1+1 - (a+1)) (a+1) (Nat.le_refl _) (by omega)
 have hge:=Go.Sort.scanUp_ge (fun x=>ltP x W1[a]!) W1 (be - 1) (a+1)
 generalize Go.Sort.scanUp (fun x=>ltP x W1[a]!) W1 (be - 1) (a+1)=i2 at *
 obtain ⟨fd,d0,d1,d2,d3,d4,d5⟩:=Yr (hp:=hp.set b (.cells g true (prs W1))) (L:=L) (H:=H) (g:=g) (e:=e) (a:=a) (i:=i2) (hg1 _) hD1 hh he hn (by omega) (by omega) (by rw [hl2];exact hF) (be - 1) (by omega)
 have hle:=Go.Sort.scanDown_le (fun x=>!ltP x W1[a]!) W1 i2 (be - 1)
 generalize Go.Sort.scanDown (fun x=>!ltP x W1[a]!) W1 i2 (be - 1)=j2 at *
 by_cases hij:i2 > j2
 ·have h1:(i2:Int) > (j2:Int):=by omega
  obtain ⟨x1,x2,x3,x4,x5,x6,x7⟩:=cL hD1 (x:=j2) (y:=a) (by omega) (by omega)
  have sx:=eY hD1 (x:=j2) (y:=a) (by omega) (by omega)
  simp only [putAt] at sx
  rw [if_pos hij]
  simp only [Int.natCast_add,Int.natCast_one,hl2,aJ] at u0 u2 d0 d2 ⊢
  simp (disch:=first | exact AM.dis | fail) only [af.sy,simprocAttr,-List.reduceReplicate,hF.all,F4,hb,hg1,hss,hh,hnl,w1,w2,w3,w4,w5,w6,w7,sw,e1,u0,u1,u2,u3,u4,u5,d0,d1,d2,d3,d4,d5,h1,x1,x2,x3,x4,x5,x6,x7,sx]
 ·have h1:¬ (i2:Int) > (j2:Int):=by omega
  obtain ⟨x1,x2,x3,x4,x5,x6,x7⟩:=cL hD1 (x:=i2) (y:=j2) (by omega) (by omega)
  have sx:=eY hD1 (x:=i2) (y:=j2) (by omega) (by omega)
  simp only [putAt] at sx
  rw [if_neg hij]
  have hD2:(Go.Sort.swp W1 i2 j2).size=n:=by rw [swp_size,hD1]
  generalize Go.Sort.swp W1 i2 j2=W2 at *
  have e2:(j2:Int) - 1=((j2 - 1:Nat):Int):=by omega
  obtain ⟨fr,l0,l1,l2,l3⟩:=Bk (hp:=hp) (L:=L) (H:=H) (g:=g) (e:=e) (a:=a) hbl hL hh he hn (by omega) hF (j2 - 1+1 - (i2+1)) (i2+1) (j2 - 1) W2 hD2 (Nat.le_refl _) (by omega) (by omega) (by omega)
  have hm:=uU a (j2 - 1+1 - (i2+1)) (i2+1) (j2 - 1) W2 (Nat.le_refl _)
  have hD3:(Go.Sort.partLoop ltP a (i2+1) (j2 - 1) W2).2.size=n:=by rw [pS a _ _ _ _ (Nat.le_refl _),hD2]
  generalize Go.Sort.partLoop ltP a (i2+1) (j2 - 1) W2=R at *
  obtain ⟨m,W3⟩:=R
  simp only at hm hD3 l0 l1 ⊢
  obtain ⟨y1,y2,y3,y4,y5,y6,y7⟩:=cL hD3 (x:=m) (y:=a) (by omega) (by omega)
  have sy:=eY hD3 (x:=m) (y:=a) (by omega) (by omega)
  simp only [putAt] at sy
  simp only [Int.natCast_add,Int.natCast_one,hl2,aJ] at l0 u0 u2 d0 d2 ⊢
  simp (disch:=first | exact AM.dis | fail) only [af.sy,simprocAttr,-List.reduceReplicate,hF.all,F4,hb,hg1,hss,hh,hnl,w1,w2,w3,w4,w5,w6,w7,sw,e1,e2,u0,u1,u2,u3,u4,u5,d0,d1,d2,d3,d4,d5,h1,x1,x2,x3,x4,x5,x6,x7,sx,l0,l1,l2,l3,y1,y2,y3,y4,y5,y6,y7,sy]
end
end TtL
namespace TtM
open Go Go.RowKit AM af LtA SyP TmM TsA TsB TsE TsI TsJ TtA TtB TtC TtD TtE TtF TtG TtH TtI TtJ TtK TtL Bt
section
variable{hp:List Blk}{L:Nat}{H d:List Nat}
theorem uW{b g e n a be t:Nat}{W:Array Pr}(hb:hp[b]?=some (.cells g true (prs W)))(hD:W.size=n)(hh:H.contains b=false)(he:e=0\/e=2)(hn:n<=100000)(hbe:be<=n)(hF:Fit hp.length L H):∀ (k i:Nat),be - i<=k->1<=i->i<=200000->∃ fr,
  aX env CV [9,2,3,0,1,10] hp.length [(9,.int .i64 i),(2,.int .i64 be),(3,aJ),(0,.slice (some ⟨b,0,some g⟩) n e),(1,.int .i64 a),(10,.int .i64 t)] ⟨hp,L,H,[]⟩
   = some (.exit 2,fr,⟨hp,L,H,[]⟩)/\fr.get 9=some (.int .i64 (Go.Sort.scanSorted ltP W be i:Nat))/\fr.get 2=some (.int .i64 be)/\fr.get 3=some aJ/\fr.get 0=some (.slice (some ⟨b,0,some g⟩) n e)/\fr.get 1=some (.int .i64 a)/\fr.get 10=some (.int .i64 t)
 | k,i,hk,hi,hi2=>by
  rw [Go.Sort.scanSorted,aB CV.eq_1]
  by_cases hij:i < be
  ·cases k with
   | zero=>omega
   | succ k=>
   have h1:(i:Int) < (be:Int):=by omega
   have hl:=fun p q hp L H d hF=>dn (hp:=hp) (L:=L) (H:=H) (d:=d) p q hF
   have hlen:(prs W).length=2*n:=by rw [dV,hD]
   have r1:=cx W (i:=i) (by omega)
   have r0:=cx W (i:=i - 1) (by omega)
   have e1:(i:Int) - 1=((i - 1:Nat):Int):=by omega
   have h2:0<=(i:Int)/\(i:Int) < (n:Int):=by omega
   have h3:0<=((i - 1:Nat):Int)/\((i - 1:Nat):Int) < (n:Int):=by omega
   have s1:i*2+2<=2*n:=by omega
   have s0:(i - 1)*2+2<=2*n:=by omega
   rw [Nat.mul_comm] at r1 r0
   by_cases hlt:ltP W[i]! W[i - 1]! = true
   ·have hc:fA W[i]! W[i - 1]! < 0:=of_decide_eq_true hlt
    rw [if_neg (by rw [hlt];simp)]
    simp only [aJ]
    simp (disch:=first | exact AM.dis | fail) only [af.sy,simprocAttr,-List.reduceReplicate,hF.all,h1,h2,h3,e1,hb,hh,hlen,r1,r0,s1,s0,hl,hc]
    exact ⟨_,rfl,rfl,rfl,rfl,rfl,rfl,rfl⟩
   ·have hc:¬ fA W[i]! W[i - 1]! < 0:=fun h=>hlt (decide_eq_true h)
    replace hlt:ltP W[i]! W[i - 1]! = false:=by simpa using hlt
    obtain ⟨fr,ih,ih2⟩:=uW (a:=a) (t:=t) hb hD hh he hn hbe hF k (i+1) (by omega) (by omega) (by omega)
    simp only [Int.natCast_add,Int.natCast_one] at ih
    rw [if_pos (by rw [hlt,decide_eq_true hij];rfl)]
    refine ⟨fr,?_,ih2⟩
    simp only [aJ] at ih ⊢
    simp (disch:=first | exact AM.dis | fail) only [af.sy,simprocAttr,-List.reduceReplicate,hF.all,h1,h2,h3,e1,hb,hh,hlen,r1,r0,s1,s0,hl,hc,ih]
  ·have h1:¬ (i:Int) < (be:Int):=by omega
   rw [if_neg (by rw [decide_eq_false hij];simp)]
   simp (disch:=first | exact AM.dis | fail) only [af.sy,simprocAttr,-List.reduceReplicate,hF.all,h1]
   exact ⟨_,rfl,rfl,rfl,rfl,rfl,rfl,rfl⟩
theorem yM{b g e n a be t i:Nat}(hb:b < hp.length)(hL:L<=b)(hh:H.contains b=false)(he:e=0\/e=2)(hn:n<=100000)(hF:Fit hp.length L H):∀ (j:Nat) (W:Array Pr),W.size=n->j < n->∃ fr,
  aX env v9 [11,10,9,1,0,3,2] hp.length [(11,.int .i64 j),(10,.int .i64 t),(9,.int .i64 i),(1,.int .i64 a),(0,.slice (some ⟨b,0,some g⟩) n e),(3,aJ),(2,.int .i64 be)] ⟨hp.set b (.cells g true (prs W)),L,H,[]⟩
   = some (.exit 4,fr,⟨hp.set b (.cells g true (prs (Go.Sort.shiftDown ltP j W))),L,H,[]⟩)/\fr.get 10=some (.int .i64 t)/\fr.get 9=some (.int .i64 i)/\fr.get 1=some (.int .i64 a)/\fr.get 0=some (.slice (some ⟨b,0,some g⟩) n e)/\fr.get 3=some aJ/\fr.get 2=some (.int .i64 be)
 | 0,W,hD,hj=>by
  rw [Go.Sort.shiftDown,aB v9.eq_1]
  simp only [Int.natCast_zero]
  simp (disch:=first | exact AM.dis | fail) only [af.sy,simprocAttr,-List.reduceReplicate,hF.all,hb]
  exact ⟨_,rfl,rfl,rfl,rfl,rfl,rfl,rfl⟩
 | j+1,W,hD,hj=>by
  rw [Go.Sort.shiftDown,aB v9.eq_1]
  have hl:=fun p q hp L H d hF=>dn (hp:=hp) (L:=L) (H:=H) (d:=d) p q hF
  have hg1:∀ B:Blk,(hp.set b B)[b]?=some B:=fun B=>List.getElem?_set_self hb
  have hss:∀ A B:Blk,(hp.set b A).set b B=hp.set b B:=fun A B=>List.set_set ..
  have hnl:¬ b < L:=by omega
  have h1:((j+1:Nat):Int)>=1:=by omega
  have e1:((j+1:Nat):Int) - 1=(j:Int):=by omega
  obtain ⟨w1,w2,w3,w4,w5,w6,w7⟩:=cL hD (x:=j+1) (y:=j) (by omega) (by omega)
  by_cases hlt:ltP W[j+1]! W[j]! = true
  ·have hc:fA W[j+1]! W[j]! < 0:=of_decide_eq_true hlt
   have sw:=eY hD (x:=j+1) (y:=j) (by omega) (by omega)
   simp only [putAt] at sw
   obtain ⟨fr,ih,ih2⟩:=yM (b:=b) (g:=g) (e:=e) (a:=a) (be:=be) (t:=t) (i:=i) hb hL hh he hn hF j (Go.Sort.swp W (j+1) j) (by rw [swp_size,hD]) (by omega)
   rw [if_neg (by rw [hlt];simp)]
   refine ⟨fr,?_,ih2⟩
   simp only [aJ] at ih ⊢
   simp (disch:=first | exact AM.dis | fail) only [af.sy,simprocAttr,-List.reduceReplicate,hF.all,h1,e1,hg1,hss,hh,hnl,w1,w2,w3,w4,w5,w6,w7,hl,hc,sw,ih]
  ·have hc:¬ fA W[j+1]! W[j]! < 0:=fun h=>hlt (decide_eq_true h)
   rw [if_pos (by simpa using hlt)]
   simp only [aJ]
   simp (disch:=first | exact AM.dis | fail) only [af.sy,simprocAttr,-List.reduceReplicate,hF.all,h1,e1,hg1,hss,hh,hnl,w1,w2,w3,w4,w5,w6,w7,hl,hc]
   exact ⟨_,rfl,rfl,rfl,rfl,rfl,rfl,rfl⟩
theorem yN{b g e n a be t i:Nat}(hb:b < hp.length)(hL:L<=b)(hh:H.contains b=false)(he:e=0\/e=2)(hn:n<=100000)(hbe:be<=n)(hF:Fit hp.length L H):∀ (k j:Nat) (W:Array Pr),W.size=n->be - j<=k->1<=j->j<=200000->∃ fr,
  aX env CU [12,10,9,1,0,3,2] hp.length [(12,.int .i64 j),(10,.int .i64 t),(9,.int .i64 i),(1,.int .i64 a),(0,.slice (some ⟨b,0,some g⟩) n e),(3,aJ),(2,.int .i64 be)] ⟨hp.set b (.cells g true (prs W)),L,H,[]⟩
   = some (.exit 6,fr,⟨hp.set b (.cells g true (prs (Go.Sort.shiftUp ltP be j W))),L,H,[]⟩)/\fr.get 10=some (.int .i64 t)/\fr.get 9=some (.int .i64 i)/\fr.get 1=some (.int .i64 a)/\fr.get 0=some (.slice (some ⟨b,0,some g⟩) n e)/\fr.get 3=some aJ/\fr.get 2=some (.int .i64 be)
 | k,j,W,hD,hk,hj,hj2=>by
  rw [Go.Sort.shiftUp,aB CU.eq_1]
  by_cases hij:j < be
  ·cases k with
   | zero=>omega
   | succ k=>
    have hl:=fun p q hp L H d hF=>dn (hp:=hp) (L:=L) (H:=H) (d:=d) p q hF
    have hg1:∀ B:Blk,(hp.set b B)[b]?=some B:=fun B=>List.getElem?_set_self hb
    have hss:∀ A B:Blk,(hp.set b A).set b B=hp.set b B:=fun A B=>List.set_set ..
    have hnl:¬ b < L:=by omega
    have h1:(j:Int) < (be:Int):=by omega
    have e1:(j:Int) - 1=((j - 1:Nat):Int):=by omega
    obtain ⟨w1,w2,w3,w4,w5,w6,w7⟩:=cL hD (x:=j) (y:=j - 1) (by omega) (by omega)
    rw [if_pos hij]
    by_cases hlt:ltP W[j]! W[j - 1]! = true
    ·have hc:fA W[j]! W[j - 1]! < 0:=of_decide_eq_true hlt
     have sw:=eY hD (x:=j) (y:=j - 1) (by omega) (by omega)
     simp only [putAt] at sw
     obtain ⟨fr,ih,ih2⟩:=yN (b:=b) (g:=g) (e:=e) (a:=a) (be:=be) (t:=t) (i:=i) hb hL hh he hn hbe hF k (j+1) (Go.Sort.swp W j (j - 1)) (by rw [swp_size,hD]) (by omega) (by omega) (by omega)
     rw [if_neg (by rw [hlt];simp)]
     refine ⟨fr,?_,ih2⟩
     simp only [aJ,Int.natCast_add,Int.natCast_one] at ih ⊢
     simp (disch:=first | exact AM.dis | fail) only [af.sy,simprocAttr,-List.reduceReplicate,hF.all,h1,e1,hg1,hss,hh,hnl,w1,w2,w3,w4,w5,w6,w7,hl,hc,sw,ih]
    ·have hc:¬ fA W[j]! W[j - 1]! < 0:=fun h=>hlt (decide_eq_true h)
     rw [if_pos (by simpa using hlt)]
     simp only [aJ]
     simp (disch:=first | exact AM.dis | fail) only [af.sy,simprocAttr,-List.reduceReplicate,hF.all,h1,e1,hg1,hss,hh,hnl,w1,w2,w3,w4,w5,w6,w7,hl,hc]
     exact ⟨_,rfl,rfl,rfl,rfl,rfl,rfl,rfl⟩
  ·have h1:¬ (j:Int) < (be:Int):=by omega
   rw [if_neg hij]
   simp (disch:=first | exact AM.dis | fail) only [af.sy,simprocAttr,-List.reduceReplicate,hF.all,h1]
   exact ⟨_,rfl,rfl,rfl,rfl,rfl,rfl,rfl⟩
def ace(fr:Fr)(ex:Ex)(f:Bool):Prop:=(ex=.exit 0/\f=false)\/(ex=.ret/\fr.get 8=some (.bool f))
theorem rT{b g e n a be:Nat}(hb:b < hp.length)(hL:L<=b)(hh:H.contains b=false)(he:e=0\/e=2)(hn:n<=100000)(hbe:be<=n)(hab:a < be)(hF:Fit hp.length L H):∀ (s t i:Nat) (W:Array Pr),s+t=5->W.size=n->a < i->i<=be->∃ fr ex,
  aX env wg [9,1,0,3,2,10] hp.length [(9,.int .i64 i),(1,.int .i64 a),(0,.slice (some ⟨b,0,some g⟩) n e),(3,aJ),(2,.int .i64 be),(10,.int .i64 t)] ⟨hp.set b (.cells g true (prs W)),L,H,[]⟩
   = some (ex,fr,⟨hp.set b (.cells g true (prs (Go.Sort.partialIns ltP a be s i W).1)),L,H,[]⟩)/\ace fr ex (Go.Sort.partialIns ltP a be s i W).2
 | 0,t,i,W,hst,hD,hai,hib=>by
  have h1:¬ (t:Int) < 5:=by omega
  rw [Go.Sort.partialIns,aB wg.eq_1]
  simp (disch:=first | exact AM.dis | fail) only [af.sy,simprocAttr,-List.reduceReplicate,hF.all,h1]
  exact ⟨_,_,rfl,.inl ⟨rfl,rfl⟩⟩
 | s+1,t,i,W,hst,hD,hai,hib=>by
  have hg1:∀ B:Blk,(hp.set b B)[b]?=some B:=fun B=>List.getElem?_set_self hb
  have hss:∀ A B:Blk,(hp.set b A).set b B=hp.set b B:=fun A B=>List.set_set ..
  have hl2:∀ B:Blk,(hp.set b B).length=hp.length:=fun B=>List.length_set ..
  have hnl:¬ b < L:=by omega
  have h1:(t:Int) < 5:=by omega
  rw [Go.Sort.partialIns,aB wg.eq_1]
  obtain ⟨fu,u0,u1,u2,u3,u4,u5,u6⟩:=uW (hp:=hp.set b (.cells g true (prs W))) (L:=L) (H:=H) (g:=g) (e:=e) (a:=a) (be:=be) (t:=t) (hg1 _) hD hh he hn hbe (by rw [hl2];exact hF) (be - i) i (Nat.le_refl _) (by omega) (by omega)
  have hsb:=pR be W (be - i) i (Nat.le_refl _) hib
  simp only
  generalize Go.Sort.scanSorted ltP W be i=i2 at *
  simp only [hl2,aJ] at u0 u3 ⊢
  by_cases hib2:i2=be
  ·have g1:(i2:Int)=(be:Int):=by omega
   rw [if_pos hib2]
   simp (disch:=first | exact AM.dis | fail) only [af.sy,simprocAttr,-List.reduceReplicate,hF.all,h1,u0,u1,u2,u3,u4,u5,u6,g1]
   exact ⟨_,_,rfl,.inr ⟨rfl,rfl⟩⟩
  ·have g1:¬ (i2:Int)=(be:Int):=by omega
   rw [if_neg hib2]
   have e1:(be:Int) - (a:Int)=((be - a:Nat):Int):=by omega
   by_cases h50:be - a < 50
   ·have g2:((be - a:Nat):Int) < 50:=by omega
    rw [if_pos h50]
    simp (disch:=first | exact AM.dis | fail) only [af.sy,simprocAttr,-List.reduceReplicate,hF.all,h1,e1,u0,u1,u2,u3,u4,u5,u6,g1,g2]
    exact ⟨_,_,rfl,.inr ⟨rfl,rfl⟩⟩
   ·have g2:¬ ((be - a:Nat):Int) < 50:=by omega
    rw [if_neg h50]
    have e2:(i2:Int) - 1=((i2 - 1:Nat):Int):=by omega
    have e3:(i2:Int) - (a:Int)=((i2 - a:Nat):Int):=by omega
    have e4:(be:Int) - (i2:Int)=((be - i2:Nat):Int):=by omega
    obtain ⟨w1,w2,w3,w4,w5,w6,w7⟩:=cL hD (x:=i2) (y:=i2 - 1) (by omega) (by omega)
    have sw:=eY hD (x:=i2) (y:=i2 - 1) (by omega) (by omega)
    simp only [putAt] at sw
    have hD1:(Go.Sort.swp W i2 (i2 - 1)).size=n:=by rw [swp_size,hD]
    generalize Go.Sort.swp W i2 (i2 - 1)=W1 at *
    have hdn:=yM (hp:=hp) (L:=L) (H:=H) (g:=g) (e:=e) (a:=a) (be:=be) (t:=t) (i:=i2) hb hL hh he hn hF (i2 - 1) W1 hD1 (by omega)
    have hD2:(Go.Sort.shiftDown ltP (i2 - 1) W1).size=n:=by rw [om,hD1]
    generalize Go.Sort.shiftDown ltP (i2 - 1) W1=W2 at *
    obtain ⟨fd,d0,d1,d2,d3,d4,d5,d6⟩:=hdn
    have e5:(i2:Int)+1=((i2+1:Nat):Int):=by omega
    simp only [aJ] at d0 d5
    by_cases c1:i2 - a>=2
    ·have g3:((i2 - a:Nat):Int)>=2:=by omega
     rw [if_pos c1]
     by_cases c2:be - i2>=2
     ·have g4:((be - i2:Nat):Int)>=2:=by omega
      rw [if_pos c2]
      have hup:=yN (hp:=hp) (L:=L) (H:=H) (g:=g) (e:=e) (a:=a) (be:=be) (t:=t) (i:=i2) hb hL hh he hn hbe hF (be - (i2+1)) (i2+1) W2 hD2 (Nat.le_refl _) (by omega) (by omega)
      have hD3:(Go.Sort.shiftUp ltP be (i2+1) W2).size=n:=by rw [mU be _ _ _ (Nat.le_refl _),hD2]
      generalize Go.Sort.shiftUp ltP be (i2+1) W2=W3 at *
      obtain ⟨fe,p0,p1,p2,p3,p4,p5,p6⟩:=hup
      obtain ⟨fr,ex,ih,ih2⟩:=rT (g:=g) (e:=e) hb hL hh he hn hbe hab hF s (t+1) i2 W3 (by omega) hD3 (by omega) (by omega)
      refine ⟨fr,ex,?_,ih2⟩
      simp only [aJ,Int.natCast_add,Int.natCast_one] at p0 p5 ih
      simp (disch:=first | exact AM.dis | fail) only [af.sy,simprocAttr,-List.reduceReplicate,hF.all,h1,e1,e2,e3,e4,u0,u1,u2,u3,u4,u5,u6,g1,g2,g3,g4,hg1,hss,hh,hnl,w1,w2,w3,w4,w5,w6,w7,sw,d0,d1,d2,d3,d4,d5,d6,p0,p1,p2,p3,p4,p5,p6,ih]
     ·have g4:¬ ((be - i2:Nat):Int)>=2:=by omega
      rw [if_neg c2]
      obtain ⟨fr,ex,ih,ih2⟩:=rT (g:=g) (e:=e) hb hL hh he hn hbe hab hF s (t+1) i2 W2 (by omega) hD2 (by omega) (by omega)
      refine ⟨fr,ex,?_,ih2⟩
      simp only [aJ,Int.natCast_add,Int.natCast_one] at ih
      simp (disch:=first | exact AM.dis | fail) only [af.sy,simprocAttr,-List.reduceReplicate,hF.all,h1,e1,e2,e3,e4,u0,u1,u2,u3,u4,u5,u6,g1,g2,g3,g4,hg1,hss,hh,hnl,w1,w2,w3,w4,w5,w6,w7,sw,d0,d1,d2,d3,d4,d5,d6,ih]
    ·have g3:¬ ((i2 - a:Nat):Int)>=2:=by omega
     rw [if_neg c1]
     by_cases c2:be - i2>=2
     ·have g4:((be - i2:Nat):Int)>=2:=by omega
      rw [if_pos c2]
      have hup:=yN (hp:=hp) (L:=L) (H:=H) (g:=g) (e:=e) (a:=a) (be:=be) (t:=t) (i:=i2) hb hL hh he hn hbe hF (be - (i2+1)) (i2+1) W1 hD1 (Nat.le_refl _) (by omega) (by omega)
      have hD3:(Go.Sort.shiftUp ltP be (i2+1) W1).size=n:=by rw [mU be _ _ _ (Nat.le_refl _),hD1]
      generalize Go.Sort.shiftUp ltP be (i2+1) W1=W3 at *
      obtain ⟨fe,p0,p1,p2,p3,p4,p5,p6⟩:=hup
      obtain ⟨fr,ex,ih,ih2⟩:=rT (g:=g) (e:=e) hb hL hh he hn hbe hab hF s (t+1) i2 W3 (by omega) hD3 (by omega) (by omega)
      refine ⟨fr,ex,?_,ih2⟩
      simp only [aJ,Int.natCast_add,Int.natCast_one] at p0 p5 ih
      simp (disch:=first | exact AM.dis | fail) only [af.sy,simprocAttr,-List.reduceReplicate,hF.all,h1,e1,e2,e3,e4,u0,u1,u2,u3,u4,u5,u6,g1,g2,g3,g4,hg1,hss,hh,hnl,w1,w2,w3,w4,w5,w6,w7,sw,p0,p1,p2,p3,p4,p5,p6,ih]
     ·exfalso;omega
theorem Dg{b g e n a be:Nat}{W:Array Pr}(hb:hp[b]?=some (.cells g true (prs W)))(hD:W.size=n)(hL:L<=b)(hh:H.contains b=false)(he:e=0\/e=2)(hn:n<=100000)(hab:a < be)(hbe:be<=n)(hF:Fit hp.length L H) :
  aN env (.func 274) [.slice (some ⟨b,0,some g⟩) n e,.int .i64 a,.int .i64 be,aJ] ⟨hp,L,H,d⟩=some (.bool (Go.Sort.partialInsertionSort ltP W a be).2,⟨hp.set b (.cells g true (prs (Go.Sort.partialInsertionSort ltP W a be).1)),L,H,d⟩):=by
 rw [aA 274 _ _ abR]
 have hbl:=(List.getElem?_eq_some_iff.1 hb).1
 obtain ⟨fr,ex,h,h2⟩:=rT (hp:=hp) (L:=L) (H:=H) (g:=g) (e:=e) hbl hL hh he hn hbe hab hF 5 0 (a+1) W rfl hD (by omega) (by omega)
 rw [dS hb] at h
 change _=some (ex,fr,(⟨hp.set b (.cells g true (prs (Go.Sort.partialInsertionSort ltP W a be).1)),L,H,[]⟩:St)) at h
 change ace fr ex (Go.Sort.partialInsertionSort ltP W a be).2 at h2
 generalize Go.Sort.partialInsertionSort ltP W a be=R at *
 obtain ⟨W1,f⟩:=R
 simp only at h h2
 simp only [aJ,Int.natCast_add,Int.natCast_one,Int.natCast_zero] at h ⊢
 rcases h2 with ⟨rfl,rfl⟩ | ⟨rfl,h2⟩
 ·simp (disch:=first | exact AM.dis | fail) only [af.sy,simprocAttr,-List.reduceReplicate,hF.all,F3,h]
 ·simp (disch:=first | exact AM.dis | fail) only [af.sy,simprocAttr,-List.reduceReplicate,hF.all,F3,h,h2]
end
end TtM
namespace TtN
open Go Go.RowKit AM af LtA SyP TmM TsA TsB TsE TsI TsJ TtA TtB TtC TtD TtE TtF TtG TtH TtI TtJ TtK TtL TtM Bt
theorem Ww(x y:UInt64):Zc 64 (x.toNat:Int) (y.toNat:Int)=((x ^^^ y).toNat:Int):=by
 unfold Zc
 rw [BitVec.ofInt_natCast,BitVec.ofInt_natCast,BitVec.toNat_xor,BitVec.toNat_ofNat,BitVec.toNat_ofNat,UInt64.toNat_xor,Nat.mod_eq_of_lt x.toNat_lt,Nat.mod_eq_of_lt y.toNat_lt]
theorem Wx{x y:Nat}(hx:x < 18446744073709551616)(hy:y < 18446744073709551616):yg 64 (x:Int) (y:Int)=((x&&&y:Nat):Int):=by
 unfold yg
 rw [BitVec.ofInt_natCast,BitVec.ofInt_natCast,BitVec.toNat_and,BitVec.toNat_ofNat,BitVec.toNat_ofNat,Nat.mod_eq_of_lt (by simpa using hx),Nat.mod_eq_of_lt (by simpa using hy)]
theorem wrap_u64(x:UInt64):IntKind.u64.wrap (x.toNat:Int)=(x.toNat:Int):=by
 have:=x.toNat_lt
 exact Zb (by omega) (by omega)
theorem acf(x:UInt64):IntKind.u64.wrap ((x.toNat:Int)*8192)=((x <<< 13).toNat:Int):=by
 rw [Yh,UInt64.toNat_shiftLeft,Nat.shiftLeft_eq,show (13:UInt64).toNat%64=13 from rfl]
 omega
theorem acg(x:UInt64):IntKind.u64.wrap ((x.toNat:Int)*131072)=((x <<< 17).toNat:Int):=by
 rw [Yh,UInt64.toNat_shiftLeft,Nat.shiftLeft_eq,show (17:UInt64).toNat%64=17 from rfl]
 omega
theorem adC(x:UInt64):(x.toNat:Int).fdiv 128=((x >>> 7).toNat:Int):=by
 rw [UInt64.toNat_shiftRight,Nat.shiftRight_eq_div_pow,show (7:UInt64).toNat%64=7 from rfl,Int.fdiv_eq_ediv_of_nonneg _ (by omega)]
 omega
def Zs:ByteArray:=⟨#[0,1,2,2,3,3,3,3,4,4,4,4,4,4,4,4,5,5,5,5,5,5,5,5,5,5,5,5,5,5,5,5,6,6,6,6,6,6,6,6,6,6,6,6,6,6,6,6,6,6,6,6,6,6,6,6,6,6,6,6,6,6,6,6,7,7,7,7,7,7,7,7,7,7,7,7,7,7,7,7,7,7,7,7,7,7,7,7,7,7,7,7,7,7,7,7,7,7,7,7,7,7,7,7,7,7,7,7,7,7,7,7,7,7,7,7,7,7,7,7,7,7,7,7,7,7,7,7,8,8,8,8,8,8,8,8,8,8,8,8,8,8,8,8,8,8,8,8,8,8,8,8,8,8,8,8,8,8,8,8,8,8,8,8,8,8,8,8,8,8,8,8,8,8,8,8,8,8,8,8,8,8,8,8,8,8,8,8,8,8,8,8,8,8,8,8,8,8,8,8,8,8,8,8,8,8,8,8,8,8,8,8,8,8,8,8,8,8,8,8,8,8,8,8,8,8,8,8,8,8,8,8,8,8,8,8,8,8,8,8,8,8,8,8,8,8,8,8,8,8,8,8,8,8,8,8]⟩
theorem Ov:Zs.size=256:=by decide +kernel
theorem Wy:∀ x < 256,Zs.data.toList[x]?=some (UInt8.ofNat (Go.Sort.bitsLen x)):=by decide +kernel
theorem qy:∀ x < 256,Go.Sort.bitsLen x<=8:=by decide +kernel
section
variable{hp:List Blk}{L:Nat}{H d:List Nat}
theorem tN{r:UInt64}{q:Nat}(hq:hp[q]?=some (.cells 0 true [.int .u64 (r.toNat:Int)]))(hqL:L<=q)(hqh:H.contains q=false)(hF:Fit hp.length L H) :
  aN env (.func 288) [.pointer (some ⟨q,0,some 0⟩)] ⟨hp,L,H,d⟩=some (.int .u64 ((Go.Sort.xorNext r).toNat:Int),⟨hp.set q (.cells 0 true [.int .u64 ((Go.Sort.xorNext r).toNat:Int)]),L,H,d⟩):=by
 rw [aA 288 _ _ ab1]
 have hql:=(List.getElem?_eq_some_iff.1 hq).1
 have hg1:∀ B:Blk,(hp.set q B)[q]?=some B:=fun B=>List.getElem?_set_self hql
 have hss:∀ A B:Blk,(hp.set q A).set q B=hp.set q B:=fun A B=>List.set_set ..
 have hnl:¬ q < L:=by omega
 unfold Go.Sort.xorNext
 simp only
 simp (disch:=first | exact AM.dis | fail) only [af.sy,simprocAttr,-List.reduceReplicate,hF.all,Lv,hq,hqh,hg1,hss,hnl,acf,acg,adC,Ww,wrap_u64]
set_option maxRecDepth 100000 in
theorem JE{x:Nat}(hx:x < 256)(hF:Fit hp.length L H):aN env (.func 278) [.int .u64 x] ⟨hp,L,H,d⟩=some (.int .i64 (Go.Sort.bitsLen x:Nat),⟨hp,L,H,d⟩):=by
 rw [aA 278 _ _ abU]
 have g1:¬ (x:Int)>=4294967296:=by omega
 have g2:¬ (x:Int)>=65536:=by omega
 have g3:¬ (x:Int)>=256:=by omega
 have h2:0<=(x:Int)/\(x:Int) < 256:=by omega
 have h3:=Wy x hx
 have h4:=qy x hx
 have h5:((UInt8.ofNat (Go.Sort.bitsLen x)).toNat:Int)=(Go.Sort.bitsLen x:Int):=by
  rw [UInt8.toNat_ofNat'];omega
 have hS:(⟨#[0,1,2,2,3,3,3,3,4,4,4,4,4,4,4,4,5,5,5,5,5,5,5,5,5,5,5,5,5,5,5,5,6,6,6,6,6,6,6,6,6,6,6,6,6,6,6,6,6,6,6,6,6,6,6,6,6,6,6,6,6,6,6,6,7,7,7,7,7,7,7,7,7,7,7,7,7,7,7,7,7,7,7,7,7,7,7,7,7,7,7,7,7,7,7,7,7,7,7,7,7,7,7,7,7,7,7,7,7,7,7,7,7,7,7,7,7,7,7,7,7,7,7,7,7,7,7,7,8,8,8,8,8,8,8,8,8,8,8,8,8,8,8,8,8,8,8,8,8,8,8,8,8,8,8,8,8,8,8,8,8,8,8,8,8,8,8,8,8,8,8,8,8,8,8,8,8,8,8,8,8,8,8,8,8,8,8,8,8,8,8,8,8,8,8,8,8,8,8,8,8,8,8,8,8,8,8,8,8,8,8,8,8,8,8,8,8,8,8,8,8,8,8,8,8,8,8,8,8,8,8,8,8,8,8,8,8,8,8,8,8,8,8,8,8,8,8,8,8,8,8,8,8,8,8,8]⟩:ByteArray)=Zs:=rfl
 simp (disch:=first | exact AM.dis | fail) only [af.sy,simprocAttr,-List.reduceReplicate,hF.all,Ls,↓hS,Ov,g1,g2,g3,h2,h3,h5]
end
end TtN
namespace TtO
open Go Go.RowKit AM af LtA SyP TmM TsA TsB TsE TsI TsJ TtA TtB TtC TtD TtE TtF TtG TtH TtI TtJ TtK TtL TtM TtN Bt
section
variable{hp:List Blk}{L:Nat}{H d:List Nat}
theorem Bm{x:Nat}(hx:x < 256)(hF:Fit hp.length L H):aN env (.func 256) [.int .u64 x] ⟨hp,L,H,d⟩=some (.int .i64 (Go.Sort.bitsLen x:Nat),⟨hp,L,H,d⟩):=by
 rw [aA 256 _ _ abH]
 have k:=fun d=>JE (hp:=hp) (L:=L) (H:=H) (d:=d) hx hF
 simp (disch:=first | exact AM.dis | fail) only [af.sy,simprocAttr,-List.reduceReplicate,hF.all,Ll,k]
theorem Tw{x:Nat}(hx:x < 256)(hF:Fit hp.length L H):aN env (.func 287) [.int .i64 x] ⟨hp,L,H,d⟩=some (.int .u64 ((1 <<< Go.Sort.bitsLen x:Nat):Int),⟨hp,L,H,d⟩):=by
 rw [aA 287 _ _ ab0]
 have k:=fun d=>Bm (hp:=hp) (L:=L) (H:=H) (d:=d) hx hF
 have h8:=qy x hx
 generalize Go.Sort.bitsLen x=y at *
 have g1:¬ (y:Int) < 0:=by omega
 have g2:min y 64=y:=by omega
 have g3:IntKind.u64.wrap (2 ^ y)=((1 <<< y:Nat):Int):=by
  rw [Nat.shiftLeft_eq,Nat.one_mul]
  have:∀ y ≤ 8,IntKind.u64.wrap (2 ^ y)=((2 ^ y:Nat):Int):=by decide +kernel
  exact this y h8
 simp (disch:=first | exact AM.dis | fail) only [af.sy,simprocAttr,-List.reduceReplicate,hF.all,Lu,k,g1,g2,g3]
def Ow(hp:List Blk)(b g n e a l m idx:Nat):Fr:=[(11,.int .i64 idx),(9,.pointer (some ⟨hp.length,0,some 0⟩)),(10,.int .u64 m),(8,.int .i64 l),(1,.int .i64 a),(0,.slice (some ⟨b,0,some g⟩) n e)]
def Tx(hp:List Blk)(b g:Nat)(st:UInt64×Array Pr):List Blk:=hp.set b (.cells g true (prs st.2))++[.cells 0 true [.int .u64 (st.1.toNat:Int)]]
theorem Dh{b g n e a l idx:Nat}(hb:b < hp.length)(hL:L<=b)(hh:H.contains b=false)(he:e=0\/e=2)(hn:n<=255)(hl8:8<=l)(hln:a+l<=n)(hF:Fit hp.length L H)(st:UInt64×Array Pr)(hD:st.2.size=n)(hix:idx < n)(hi2:idx<=a+l / 4*2+1) :
  aX env mM [11,9,10,8,1,0] (hp.length+1) (Ow hp b g n e a l (1 <<< Go.Sort.bitsLen l) idx) ⟨Tx hp b g st,L,H,[]⟩
   = aX env mM [11,9,10,8,1,0] (hp.length+1) (Ow hp b g n e a l (1 <<< Go.Sort.bitsLen l) (idx+1)) ⟨Tx hp b g (Go.Sort.breakStep a l (1 <<< Go.Sort.bitsLen l) st idx),L,H,[]⟩:=by
 obtain ⟨r,W⟩:=st
 simp only at hD
 have hgq:∀ B c:Blk,(hp.set b B++[c])[hp.length]?=some c:=fun B c=>by
  have:=bY (h:=hp.set b B) (nw:=[]) c
  rwa [List.length_set] at this
 have hsq:∀ B c c':Blk,(hp.set b B++[c]).set hp.length c'=hp.set b B++[c']:=fun B c c'=>by
  have:=fL (h:=hp.set b B) (nw:=[]) c' c
  rwa [List.length_set] at this
 have hgb:∀ B c:Blk,(hp.set b B++[c])[b]?=some B:=fun B c=>by
  rw [lI (by rw [List.length_set];exact hb)];exact List.getElem?_set_self hb
 have hsb:∀ A B c:Blk,(hp.set b A++[c]).set b B=hp.set b B++[c]:=fun A B c=>by
  rw [FD (by rw [List.length_set];exact hb),List.set_set]
 have hnl:¬ b < L:=by omega
 have k:=fun d=>tN (hp:=hp.set b (.cells g true (prs W))++[.cells 0 true [.int .u64 (r.toNat:Int)]]) (L:=L) (H:=H) (d:=d) (r:=r) (hgq _ _) hF.1 hF.kg (hF.mono (by simp))
 simp only [hsq] at k
 unfold Go.Sort.breakStep Tx Ow
 simp only
 generalize Go.Sort.xorNext r=r1 at *
 have hm:1 <<< Go.Sort.bitsLen l<=2*l:=by
  have:=Go.Sort.two_pow_bitsLen_le (n:=l) (by omega)
  rw [Nat.shiftLeft_eq,Nat.one_mul];exact this
 have hm1:1<=1 <<< Go.Sort.bitsLen l:=by
  rw [Nat.shiftLeft_eq,Nat.one_mul];exact Nat.one_le_two_pow
 generalize 1 <<< Go.Sort.bitsLen l=m at *
 have ha:r1.toNat&&&(m - 1)<=m - 1:=Nat.and_le_right
 have e1:(m:Int) - 1=((m - 1:Nat):Int):=by omega
 have e2:yg 64 (r1.toNat:Int) ((m - 1:Nat):Int)=((r1.toNat&&&(m - 1):Nat):Int):=Wx r1.toNat_lt (by omega)
 generalize hq:r1.toNat&&&(m - 1)=q at *
 clear hq
 have e3:Int.tdiv (l:Int) 4=((l / 4:Nat):Int):=by rw [Int.tdiv_eq_ediv_of_nonneg (by omega)];omega
 have g1:(idx:Int)<=(a:Int)+((l / 4:Nat):Int)*2+1:=by omega
 have b1:l / 4<=255:=by omega
 have b2:a<=255:=by omega
 by_cases c1:q>=l
 ·have g2:(q:Int)>=(l:Int):=by omega
  have e4:(q:Int) - (l:Int)=((q - l:Nat):Int):=by omega
  rw [if_pos c1]
  obtain ⟨y,hy⟩:∃ y,y=a+(q - l):=⟨_,rfl⟩
  rw [<- hy]
  have e5:(a:Int)+((q - l:Nat):Int)=(y:Int):=by omega
  obtain ⟨w1,w2,w3,w4,w5,w6,w7⟩:=cL hD (x:=idx) (y:=y) (by omega) (by omega)
  have sw:=eY hD (x:=idx) (y:=y) (by omega) (by omega)
  simp only [putAt] at sw
  rw [aB mM.eq_1]
  simp only [Int.natCast_add,Int.natCast_one]
  simp (disch:=first | exact AM.dis | fail) only [af.sy,simprocAttr,-List.reduceReplicate,hF.all,k,hgq,hsq,hgb,hsb,hnl,hh,e1,e2,e3,e4,e5,g1,g2,w1,w2,w3,w4,w5,w6,w7,sw]
 ·have g2:¬ (q:Int)>=(l:Int):=by omega
  rw [if_neg c1]
  obtain ⟨y,hy⟩:∃ y,y=a+q:=⟨_,rfl⟩
  rw [<- hy]
  have e5:(a:Int)+(q:Int)=(y:Int):=by omega
  obtain ⟨w1,w2,w3,w4,w5,w6,w7⟩:=cL hD (x:=idx) (y:=y) (by omega) (by omega)
  have sw:=eY hD (x:=idx) (y:=y) (by omega) (by omega)
  simp only [putAt] at sw
  rw [aB mM.eq_1]
  simp only [Int.natCast_add,Int.natCast_one]
  simp (disch:=first | exact AM.dis | fail) only [af.sy,simprocAttr,-List.reduceReplicate,hF.all,k,hgq,hsq,hgb,hsb,hnl,hh,e1,e2,e3,e5,g1,g2,w1,w2,w3,w4,w5,w6,w7,sw]
theorem Zt{b g e n a l m idx:Nat}{σ:St}(hl8:8<=l)(hln:a+l<=255)(hi2:idx=a+l / 4*2+2):∃ fr,
  aX env mM [11,9,10,8,1,0] (hp.length+1) (Ow hp b g n e a l m idx) σ=some (.exit 0,fr,σ):=by
 have e3:Int.tdiv (l:Int) 4=((l / 4:Nat):Int):=by rw [Int.tdiv_eq_ediv_of_nonneg (by omega)];omega
 have g1:¬ (idx:Int)<=(a:Int)+((l / 4:Nat):Int)*2+1:=by omega
 have b1:l / 4<=255:=by omega
 have b2:a<=255:=by omega
 unfold Ow
 rw [aB mM.eq_1]
 simp (disch:=first | exact AM.dis | fail) only [af.sy,simprocAttr,-List.reduceReplicate,e3,g1]
 exact ⟨_,rfl⟩
theorem oq(a l m:Nat)(st:UInt64×Array Pr)(i:Nat):(Go.Sort.breakStep a l m st i).2.size=st.2.size:=by
 unfold Go.Sort.breakStep
 simp only
 split<;>rw [swp_size]
theorem JF{b g e n a be:Nat}{W:Array Pr}(hb:hp[b]?=some (.cells g true (prs W)))(hD:W.size=n)(hL:L<=b)(hh:H.contains b=false)(he:e=0\/e=2)(hn:n<=255)(hab:a<=be)(hbe:be<=n)(hF:Fit hp.length L H) :
  aN env (.func 271) [.slice (some ⟨b,0,some g⟩) n e,.int .i64 a,.int .i64 be,aJ] ⟨hp,L,H,d⟩=some (.tuple #[],⟨hp.set b (.cells g true (prs (Go.Sort.breakPatterns W a be))),L,H,d⟩):=by
 rw [aA 271 _ _ abO]
 have hbl:=(List.getElem?_eq_some_iff.1 hb).1
 have e1:(be:Int) - (a:Int)=((be - a:Nat):Int):=by omega
 unfold Go.Sort.breakPatterns
 simp only
 by_cases h8:be - a>=8
 ·rw [if_pos h8]
  have g1:((be - a:Nat):Int)>=8:=by omega
  have hln:a+(be - a)<=n:=by omega
  generalize hl:be - a=l at *
  have e3:Int.tdiv (l:Int) 4=((l / 4:Nat):Int):=by rw [Int.tdiv_eq_ediv_of_nonneg (by omega)];omega
  have b1:l / 4<=255:=by omega
  have b2:a<=255:=by omega
  have kp:=fun hp L H d hF=>Tw (hp:=hp) (L:=L) (H:=H) (d:=d) (x:=l) (by omega) hF
  have hU:((UInt64.ofNat l).toNat:Int)=(l:Int):=by rw [UInt64.toNat_ofNat'];omega
  obtain ⟨i,hi⟩:∃ i,i=a+l / 4*2 - 1:=⟨_,rfl⟩
  have e4:(a:Int)+((l / 4:Nat):Int)*2 - 1=(i:Int):=by omega
  rw [<- hi]
  have s1:=Dh (hp:=hp) (L:=L) (H:=H) (b:=b) (g:=g) (e:=e) (a:=a) (idx:=i) hbl hL hh he hn (by omega) hln hF (UInt64.ofNat l,W) hD (by omega) (by omega)
  have D1:=oq a l (1 <<< Go.Sort.bitsLen l) (UInt64.ofNat l,W) i
  have s1':=Dh (hp:=hp) (L:=L) (H:=H) (b:=b) (g:=g) (e:=e) (a:=a) (idx:=i+1) hbl hL hh he hn (by omega) hln hF (Go.Sort.breakStep a l (1 <<< Go.Sort.bitsLen l) (UInt64.ofNat l,W) i) (by rw [D1];exact hD) (by omega) (by omega)
  have D2:=oq a l (1 <<< Go.Sort.bitsLen l) (Go.Sort.breakStep a l (1 <<< Go.Sort.bitsLen l) (UInt64.ofNat l,W) i) (i+1)
  have ach:=Dh (hp:=hp) (L:=L) (H:=H) (b:=b) (g:=g) (e:=e) (a:=a) (idx:=i+2) hbl hL hh he hn (by omega) hln hF (Go.Sort.breakStep a l (1 <<< Go.Sort.bitsLen l) (Go.Sort.breakStep a l (1 <<< Go.Sort.bitsLen l) (UInt64.ofNat l,W) i) (i+1)) (by rw [D2,D1];exact hD) (by omega) (by omega)
  obtain ⟨fr,hend⟩:=Zt (hp:=hp) (b:=b) (g:=g) (e:=e) (n:=n) (a:=a) (l:=l) (m:=1 <<< Go.Sort.bitsLen l) (idx:=i+2+1) (σ:=⟨Tx hp b g (Go.Sort.breakStep a l (1 <<< Go.Sort.bitsLen l) (Go.Sort.breakStep a l (1 <<< Go.Sort.bitsLen l) (Go.Sort.breakStep a l (1 <<< Go.Sort.bitsLen l) (UInt64.ofNat l,W) i) (i+1)) (i+2)),L,H,[]⟩) (by omega) (by omega) (by omega)
  rw [<- ach,<- s1',<- s1] at hend
  generalize Go.Sort.breakStep a l (1 <<< Go.Sort.bitsLen l) (Go.Sort.breakStep a l (1 <<< Go.Sort.bitsLen l) (Go.Sort.breakStep a l (1 <<< Go.Sort.bitsLen l) (UInt64.ofNat l,W) i) (i+1)) (i+2)=R at *
  clear s1 s1' ach D1 D2
  obtain ⟨rr,W3⟩:=R
  unfold Ow Tx at hend
  simp only [hU] at hend ⊢
  rw [dS hb] at hend
  generalize 1 <<< Go.Sort.bitsLen l=m at *
  simp only [aJ] at hend ⊢
  have l0:(l:Int)<=255:=by omega
  simp (disch:=first | exact AM.dis | fail) only [af.sy,simprocAttr,-List.reduceReplicate,hF.all,F2,e1,e3,e4,g1,kp,hend]
 ·rw [if_neg h8]
  have g1:¬ ((be - a:Nat):Int)>=8:=by omega
  rw [dS hb]
  simp (disch:=first | exact AM.dis | fail) only [af.sy,simprocAttr,-List.reduceReplicate,hF.all,F2,e1,g1]
end
end TtO
namespace TtP
open Go Go.RowKit AM af LtA SyP TmM TsA TsB TsE TsI TsJ TtA TtB TtC TtD TtE TtF TtG TtH TtI TtJ TtK TtL TtM TtN TtO Bt
def K3:aC:=(.seq (.seq (.drawn [⟨(some 81),none,0,false,.mv (T 1)⟩,⟨(some 82),none,1,false,.bin .gtr (T 81) (Ki 0)⟩,⟨(some 83),none,3,false,.mv (T 82)⟩,⟨(some 84),(some (83,true)),7,false,.mv (T 4)⟩,⟨(some 85),(some (83,true)),7,false,.mv (T 0)⟩,⟨(some 86),(some (83,true)),7,false,.mv (T 1)⟩,⟨(some 87),(some (83,true)),39,false,.bin .sub (T 86) (Ki 1)⟩,⟨(some 88),(some (83,true)),119,false,.aI 2 (T 85) (T 87)⟩,⟨(some 89),(some (83,true)),247,false,.load (some 2) (T 88)⟩,⟨(some 90),(some (83,true)),7,false,.mv (T 0)⟩,⟨(some 91),(some (83,true)),7,false,.mv (T 13)⟩,⟨(some 92),(some (83,true)),1543,false,.aI 2 (T 90) (T 91)⟩,⟨(some 93),(some (83,true)),3591,false,.load (some 2) (T 92)⟩,⟨(some 94),(some (83,true)),8191,true,.cW (T 84) [(T 89),(T 93)]⟩,⟨(some 95),(some (83,true)),16383,false,.bin .lss (T 94) (Ki 0)⟩,⟨(some 96),(some (83,true)),32767,false,.un .not (T 95)⟩,⟨(some 97),none,65535,false,.pick (T 83) (T 96) (Kb false)⟩]) (.cond (T 97) (.seq (.region [Mv 98 0,Mv 99 1,Mv 100 2,Mv 101 13,Mv 102 4,D 103 (.call 275 [(T 98),(T 99),(T 100),(T 101),(T 102)]),Mv 15 103]) (.seq (.region [Mv 104 15,Mv 1 104]) (.exit 1))) .skip)) (.seq (.region [Mv 106 0,Mv 107 1,Mv 108 2,Mv 109 13,Mv 110 4,D 111 (.call 276 [(T 106),(T 107),(T 108),(T 109),(T 110)]),Mv 105 111,D 112 (.ext (T 105) 0),D 113 (.ext (T 105) 1),Mv 16 112,Mv 17 113]) (.seq (.region [Mv 114 17,Mv 11 114]) (.seq (.region [Mv 115 16,Mv 116 1,D 117 (.bin .sub (T 115) (T 116)),Mv 118 2,Mv 119 16,D 120 (.bin .sub (T 118) (T 119)),Mv 18 117,Mv 19 120]) (.seq (.region [Mv 121 12,D 122 (.bin .quo (T 121) (Ki 8)),Mv 20 122]) (.seq (.region [Mv 123 18,Mv 124 19,D 125 (.bin .lss (T 123) (T 124))]) (.cond (T 125) (.seq (.region [Mv 126 18,Mv 127 20,D 128 (.bin .geq (T 126) (T 127)),Mv 10 128]) (.seq (.region [Mv 129 0,Mv 130 1,Mv 131 16,Mv 132 3,Mv 133 4,D 134 (.call 255 [(T 129),(T 130),(T 131),(T 132),(T 133)])]) (.region [Mv 135 16,D 136 (.bin .add (T 135) (Ki 1)),Mv 1 136]))) (.seq (.region [Mv 137 19,Mv 138 20,D 139 (.bin .geq (T 137) (T 138)),Mv 10 139]) (.seq (.region [Mv 140 0,Mv 141 16,D 142 (.bin .add (T 141) (Ki 1)),Mv 143 2,Mv 144 3,Mv 145 4,D 146 (.call 255 [(T 140),(T 142),(T 143),(T 144),(T 145)])]) (.region [Mv 147 16,Mv 2 147]))))))))))
def K2:aC:=(.seq (.seq (.region [Mv 68 10,Mv 69 68,Gd 70 69 true (.mv (T 11)),D 71 (.pick (T 69) (T 70) (Kb false)),Mv 72 71,Gd 73 72 true (.mv (T 14)),Gd 74 72 true (.bin .eql (T 73) (Ki 1)),D 75 (.pick (T 72) (T 74) (Kb false))]) (.cond (T 75) (.seq (.region [Mv 76 0,Mv 77 1,Mv 78 2,Mv 79 4,D 80 (.call 274 [(T 76),(T 77),(T 78),(T 79)])]) (.cond (T 80) .ret .skip)) .skip)) K3)
def K1:aC:=(.seq (.region [Mv 48 0,Mv 49 1,Mv 50 2,Mv 51 4,D 52 (.call 272 [(T 48),(T 49),(T 50),(T 51)]),Mv 47 52,D 53 (.ext (T 47) 0),D 54 (.ext (T 47) 1),Mv 13 53,Mv 14 54]) (.seq (.seq (.region [Mv 55 14,D 56 (.bin .eql (T 55) (Ki 2))]) (.cond (T 56) (.seq (.region [Mv 57 0,Mv 58 1,Mv 59 2,Mv 60 4,D 61 (.call 273 [(T 57),(T 58),(T 59),(T 60)])]) (.seq (.region [Mv 62 2,D 63 (.bin .sub (T 62) (Ki 1)),Mv 64 13,Mv 65 1,D 66 (.bin .sub (T 64) (T 65)),D 67 (.bin .sub (T 63) (T 66)),Mv 13 67]) (.region [D 14 (.mv (Ki 1))]))) .skip)) K2))
theorem split:kI=(.block 1 (.seq (.region [Mv 21 2,Mv 22 1,D 23 (.bin .sub (T 21) (T 22)),Mv 12 23]) (.seq (.seq (.region [Mv 24 12,D 25 (.bin .leq (T 24) (Ki 12))]) (.cond (T 25) (.seq (.region [Mv 26 0,Mv 27 1,Mv 28 2,Mv 29 4,D 30 (.call 269 [(T 26),(T 27),(T 28),(T 29)])]) .ret) .skip)) (.seq (.seq (.region [Mv 31 3,D 32 (.bin .eql (T 31) (Ki 0))]) (.cond (T 32) (.seq (.region [Mv 33 0,Mv 34 1,Mv 35 2,Mv 36 4,D 37 (.call 270 [(T 33),(T 34),(T 35),(T 36)])]) .ret) .skip)) (.seq (.seq (.region [Mv 38 10,D 39 (.un .not (T 38))]) (.cond (T 39) (.seq (.region [Mv 40 0,Mv 41 1,Mv 42 2,Mv 43 4,D 44 (.call 271 [(T 40),(T 41),(T 42),(T 43)])]) (.region [Mv 45 3,D 46 (.bin .sub (T 45) (Ki 1)),Mv 3 46])) .skip)) K1))))):=rfl
def Wz(W:Array Pr)(pv a be limit:Nat)(wb wp:Bool):Array Pr:=
 if a > 0&&!ltP W[a - 1]! W[pv]! then
  match Go.Sort.partitionEqual ltP W a be pv with
  | (mid,d4)=>if _h:a < mid/\mid<=be then Go.Sort.pdq ltP d4 mid be limit wb wp else d4
 else
  match Go.Sort.partition ltP W a be pv with
  | (mid,ap,d4)=>
   if _h:a<=mid/\mid < be then
    if mid - a < be - mid then Go.Sort.pdq ltP (Go.Sort.pdq ltP d4 a mid limit true true) (mid+1) be limit (decide (mid - a>=(be - a) / 8)) ap
    else Go.Sort.pdq ltP (Go.Sort.pdq ltP d4 (mid+1) be limit true true) a mid limit (decide (be - mid>=(be - a) / 8)) ap
   else d4
def Ox(W:Array Pr)(pv:Nat)(hint:Go.Sort.Hint)(a be limit:Nat)(wb wp:Bool):Array Pr:=
 let pi:=if wb&&wp&&hint=.increasing then Go.Sort.partialInsertionSort ltP W a be else (W,false)
 if pi.2 then pi.1 else Wz pi.1 pv a be limit wb wp
def Zu(W:Array Pr)(a be limit:Nat)(wb wp:Bool):Array Pr:=
 let c:=Go.Sort.choosePivot ltP W a be
 Ox (if c.2=.decreasing then Go.Sort.reverseRange W a be else W) (if c.2=.decreasing then (be - 1) - (c.1 - a) else c.1) (if c.2=.decreasing then Go.Sort.Hint.increasing else c.2) a be limit wb wp
theorem Ty(W:Array Pr)(a be limit:Nat)(wb wp:Bool):Go.Sort.pdq ltP W a be limit wb wp =
  if be - a<=12 then Go.Sort.insertionSort ltP W a be else
  if limit=0 then Go.Sort.heapSort ltP W a be else
  Zu (if !wb then Go.Sort.breakPatterns W a be else W) a be (if !wb then limit - 1 else limit) wb wp:=by
 rw [Go.Sort.pdq]
 rfl
section
variable{hp:List Blk}{L:Nat}{H d:List Nat}
def JG(b g n e:Nat)(a be limit:Nat)(wb wp:Bool):Fr:=[(3,.int .i64 limit),(11,.bool wp),(10,.bool wb),(0,.slice (some ⟨b,0,some g⟩) n e),(1,.int .i64 a),(2,.int .i64 be),(4,aJ)]
def PIH(hp:List Blk)(L:Nat)(H:List Nat)(b g n e k:Nat):Prop:=∀ (W:Array Pr) (a be limit:Nat) (wb wp:Bool),be - a<=k->W.size=n->a<=be->be<=n->limit<=64->Go.Sort.Below ltP a be W->∃ fr,
 aX env kI [3,11,10,0,1,2,4] hp.length (JG b g n e a be limit wb wp) ⟨hp.set b (.cells g true (prs W)),L,H,[]⟩=some (.ret,fr,⟨hp.set b (.cells g true (prs (Go.Sort.pdq ltP W a be limit wb wp))),L,H,[]⟩)
structure PqG(fr:Fr)(b g n e:Nat)(a be limit:Nat)(wb wp:Bool):Prop where
 g0:fr.get 0=some (.slice (some ⟨b,0,some g⟩) n e)
 g1:fr.get 1=some (.int .i64 a)
 g2:fr.get 2=some (.int .i64 be)
 g3:fr.get 3=some (.int .i64 limit)
 g4:fr.get 4=some aJ
 g10:fr.get 10=some (.bool wb)
 g11:fr.get 11=some (.bool wp)
 g12:fr.get 12=some (.int .i64 (be - a:Nat))
theorem yO{b g n e k a be limit:Nat}{W:Array Pr}(hb:b < hp.length)(ih:PIH hp L H b g n e k)(hk:be - a<=k)(hD:W.size=n)(hab:a<=be)(hbe:be<=n)(k7:limit<=64)(hB:Go.Sort.Below ltP a be W)(hF:Fit hp.length L H) :
  aN env (.func 255) [.slice (some ⟨b,0,some g⟩) n e,.int .i64 a,.int .i64 be,.int .i64 limit,aJ] ⟨hp.set b (.cells g true (prs W)),L,H,d⟩=some (.tuple #[],⟨hp.set b (.cells g true (prs (Go.Sort.pdq ltP W a be limit true true))),L,H,d⟩):=by
 rw [aA 255 _ _ abG]
 obtain ⟨fr,h⟩:=ih W a be limit true true hk hD hab hbe k7 hB
 unfold JG at h
 simp only [aJ] at h ⊢
 have hl2:∀ B:Blk,(hp.set b B).length=hp.length:=fun B=>List.length_set ..
 simp (disch:=first | exact AM.dis | fail) only [af.sy,simprocAttr,-List.reduceReplicate,hF.all,Lk,hl2,h]
theorem LJ{b g n e k a be limit pv:Nat}{wb wp:Bool}{W:Array Pr}(hb:b < hp.length)(hL:L<=b)(hh:H.contains b=false)(he:e=0\/e=2)(hn:n<=255)(ih:PIH hp L H b g n e k)(hk:be - a<=k+1)(hD:W.size=n)(hab:a < be)(hbe:be<=n)(k7:limit<=64)(hB:Go.Sort.Below ltP a be W)(hp1:a<=pv)(hp2:pv < be)
  {fr:Fr} (G:PqG fr b g n e a be limit wb wp) (g13:fr.get 13=some (.int .i64 pv)) (hF:Fit hp.length L H):∃ fr2,
  nV env kI [3,11,10,0,1,2,4] hp.length (k9 1 (bh env K3 fr ⟨hp.set b (.cells g true (prs W)),L,H,[]⟩))=some (.ret,fr2,⟨hp.set b (.cells g true (prs (Wz W pv a be limit wb wp))),L,H,[]⟩):=by
 obtain ⟨g0,g1,g2,g3,g4,g10,g11,g12⟩:=G
 have hg1:∀ B:Blk,(hp.set b B)[b]?=some B:=fun B=>List.getElem?_set_self hb
 have hss:∀ A B:Blk,(hp.set b A).set b B=hp.set b B:=fun A B=>List.set_set ..
 have hl2:∀ B:Blk,(hp.set b B).length=hp.length:=fun B=>List.length_set ..
 have hl:=fun p q hp L H d hF=>dn (hp:=hp) (L:=L) (H:=H) (d:=d) p q hF
 have hFb:∀ B:Blk,Fit (hp.set b B).length L H:=fun B=>by rw [hl2];exact hF
 have e8:Int.tdiv ((be - a:Nat):Int) 8=(((be - a) / 8:Nat):Int):=by rw [Int.tdiv_eq_ediv_of_nonneg (by omega)];omega
 have hlen:(prs W).length=2*n:=by rw [dV,hD]
 by_cases hc:(decide (a > 0)&&!ltP W[a - 1]! W[pv]!)=true
 ·obtain ⟨ha0,hnl⟩:=(Bool.and_eq_true _ _ ▸ hc:_/\_)
  replace ha0:a > 0:=of_decide_eq_true ha0
  replace hnl:ltP W[a - 1]! W[pv]! = false:=by simpa using hnl
  have cc:¬ fA W[a - 1]! W[pv]! < 0:=fun h=>by rw [show ltP W[a - 1]! W[pv]! = true from decide_eq_true h] at hnl;cases hnl
  have h1:(a:Int) > 0:=by omega
  have e1:(a:Int) - 1=((a - 1:Nat):Int):=by omega
  obtain ⟨w1,w2,w3,w4,w5,w6,w7⟩:=cL hD (x:=a - 1) (y:=pv) (by omega) (by omega)
  have pe:=fun d=>GI (hp:=hp.set b (.cells g true (prs W))) (L:=L) (H:=H) (d:=d) (g:=g) (e:=e) (a:=a) (be:=be) (pv:=pv) (hg1 _) hD hL hh he (by omega) hab hbe hp2 (hFb _)
  unfold Wz
  rw [if_pos hc]
  have hr:=Go.Sort.round_eq mT (Go.Sort.partitionEqual_holds ltP) ha0 hp1 hp2 (by rw [hD];exact hbe) hB hnl (show Go.Sort.partitionEqual ltP W a be pv=((Go.Sort.partitionEqual ltP W a be pv).1,(Go.Sort.partitionEqual ltP W a be pv).2) from rfl)
  generalize Go.Sort.partitionEqual ltP W a be pv=R at *
  obtain ⟨mid,d4⟩:=R
  simp only at pe hr ⊢
  obtain ⟨m1,m2,m3,m4,_⟩:=hr
  rw [dif_pos ⟨m1,m2⟩]
  obtain ⟨fr2,h⟩:=ih d4 mid be limit wb wp (by omega) (by rw [m3];exact hD) m2 hbe k7 m4
  unfold JG at h
  simp only [aJ,hss] at h pe g4 ⊢
  unfold K3
  refine ⟨fr2,?_⟩
  simp (disch:=first | exact AM.dis | fail) only [af.sy,simprocAttr,-List.reduceReplicate,hF.all,g0,g1,g2,g3,g4,g10,g11,g12,g13,hg1,hh,hl,h1,e1,w1,w2,w3,w4,w5,w6,w7,cc,pe,h]
 ·have pe:=fun d=>jM (hp:=hp.set b (.cells g true (prs W))) (L:=L) (H:=H) (d:=d) (g:=g) (e:=e) (a:=a) (be:=be) (pv:=pv) (hg1 _) hD hL hh he (by omega) hab hbe hp2 (hFb _)
  unfold Wz
  rw [if_neg hc]
  have hr:=Go.Sort.round_part mT (Go.Sort.partition_holds ltP) hp1 hp2 (by rw [hD];exact hbe) hB (show Go.Sort.partition ltP W a be pv=((Go.Sort.partition ltP W a be pv).1,(Go.Sort.partition ltP W a be pv).2.1,(Go.Sort.partition ltP W a be pv).2.2) from rfl)
  generalize Go.Sort.partition ltP W a be pv=R at *
  obtain ⟨mid,ap,d4⟩:=R
  simp only at pe hr ⊢
  obtain ⟨m1,m2,m3,m4,m5,m6,m7⟩:=hr
  rw [dif_pos ⟨m1,m2⟩]
  have e1:(mid:Int) - (a:Int)=((mid - a:Nat):Int):=by omega
  have e2:(be:Int) - (mid:Int)=((be - mid:Nat):Int):=by omega
  have hcs:(a=0/\¬ (a:Int) > 0)\/((a:Int) > 0/\fA W[a - 1]! W[pv]! < 0):=by
   by_cases h0:a=0
   ·exact .inl ⟨h0,by omega⟩
   ·refine .inr ⟨by omega,?_⟩
    cases hlt:ltP W[a - 1]! W[pv]! with
    | true=>exact of_decide_eq_true hlt
    | false=>exact absurd (by rw [hlt];simp;omega) hc
  clear hc
  by_cases hlr:mid - a < be - mid
  ·rw [if_pos hlr]
   have h2:((mid - a:Nat):Int) < ((be - mid:Nat):Int):=by omega
   have cl:=fun d=>yO (d:=d) hb ih (by omega) (m3.trans hD) m1 (by omega) k7 m4 hF
   obtain ⟨p1,p2⟩:=Go.Sort.pdq_sorts ltP mT d4 a mid limit true true m1 (by rw [m3,hD];omega) m4
   obtain ⟨q1,_⟩:=m6 _ p1 p2
   generalize Go.Sort.pdq ltP d4 a mid limit true true=d5 at *
   obtain ⟨fr2,h⟩:=ih d5 (mid+1) be limit (decide (mid - a>=(be - a) / 8)) ap (by omega) (by rw [p1.1,m3,hD]) (by omega) hbe k7 q1
   unfold JG at h
   have e3:decide (((mid - a:Nat):Int)>=(((be - a) / 8:Nat):Int))=decide (mid - a>=(be - a) / 8):=by rw [decide_eq_decide];omega
   generalize decide (mid - a>=(be - a) / 8)=wb2 at *
   simp only [aJ,hss,Int.natCast_add,Int.natCast_one] at h pe cl g4 ⊢
   unfold K3
   refine ⟨fr2,?_⟩
   rcases hcs with ⟨h0,h1⟩ | ⟨h1,cc⟩
   ·clear hl
    simp (disch:=first | exact AM.dis | fail) only [af.sy,simprocAttr,-List.reduceReplicate,hF.all,g0,g1,g2,g3,g4,g10,g11,g12,g13,hg1,hh,h1,e1,e2,e3,e8,h2,pe,cl,h]
   ·have e4:(a:Int) - 1=((a - 1:Nat):Int):=by omega
    obtain ⟨w1,w2,w3,w4,w5,w6,w7⟩:=cL hD (x:=a - 1) (y:=pv) (by omega) (by omega)
    simp (disch:=first | exact AM.dis | fail) only [af.sy,simprocAttr,-List.reduceReplicate,hF.all,g0,g1,g2,g3,g4,g10,g11,g12,g13,hg1,hh,hl,h1,e1,e2,e3,e4,e8,h2,w1,w2,w3,w4,w5,w6,w7,cc,pe,cl,h]
  ·rw [if_neg hlr]
   have h2:¬ ((mid - a:Nat):Int) < ((be - mid:Nat):Int):=by omega
   have cl:=fun d=>yO (d:=d) hb ih (by omega) (m3.trans hD) (by omega) hbe k7 m5 hF
   obtain ⟨p1,p2⟩:=Go.Sort.pdq_sorts ltP mT d4 (mid+1) be limit true true (by omega) (by rw [m3,hD];omega) m5
   obtain ⟨q1,_⟩:=m7 _ p1 p2
   generalize Go.Sort.pdq ltP d4 (mid+1) be limit true true=d5 at *
   obtain ⟨fr2,h⟩:=ih d5 a mid limit (decide (be - mid>=(be - a) / 8)) ap (by omega) (by rw [p1.1,m3,hD]) (by omega) (by omega) k7 q1
   unfold JG at h
   have e3:decide (((be - mid:Nat):Int)>=(((be - a) / 8:Nat):Int))=decide (be - mid>=(be - a) / 8):=by rw [decide_eq_decide];omega
   generalize decide (be - mid>=(be - a) / 8)=wb2 at *
   simp only [aJ,hss,Int.natCast_add,Int.natCast_one] at h pe cl g4 ⊢
   unfold K3
   refine ⟨fr2,?_⟩
   rcases hcs with ⟨h0,h1⟩ | ⟨h1,cc⟩
   ·clear hl
    simp (disch:=first | exact AM.dis | fail) only [af.sy,simprocAttr,-List.reduceReplicate,hF.all,g0,g1,g2,g3,g4,g10,g11,g12,g13,hg1,hh,h1,e1,e2,e3,e8,h2,pe,cl,h]
   ·have e4:(a:Int) - 1=((a - 1:Nat):Int):=by omega
    obtain ⟨w1,w2,w3,w4,w5,w6,w7⟩:=cL hD (x:=a - 1) (y:=pv) (by omega) (by omega)
    simp (disch:=first | exact AM.dis | fail) only [af.sy,simprocAttr,-List.reduceReplicate,hF.all,g0,g1,g2,g3,g4,g10,g11,g12,g13,hg1,hh,hl,h1,e1,e2,e3,e4,e8,h2,w1,w2,w3,w4,w5,w6,w7,cc,pe,cl,h]
theorem GJ{hint:Go.Sort.Hint} : (pT hint:Int)=1↔hint=.increasing:=by cases hint<;>simp [pT]
theorem aci{b g n e k a be limit pv:Nat}{hint:Go.Sort.Hint}{wb wp:Bool}{W:Array Pr}(hb:b < hp.length)(hL:L<=b)(hh:H.contains b=false)(he:e=0\/e=2)(hn:n<=255)(ih:PIH hp L H b g n e k)(hk:be - a<=k+1)(hD:W.size=n)(hab:a < be)(hbe:be<=n)(k7:limit<=64)(hB:Go.Sort.Below ltP a be W)(hp1:a<=pv)(hp2:pv < be)
  {fr:Fr} (G:PqG fr b g n e a be limit wb wp) (g13:fr.get 13=some (.int .i64 pv)) (g14:fr.get 14=some (.int .i64 (pT hint))) (hF:Fit hp.length L H) (hc:¬ (wb&&wp&&decide (hint=.increasing))=true):∃ fr2,
  nV env kI [3,11,10,0,1,2,4] hp.length (k9 1 (bh env K2 fr ⟨hp.set b (.cells g true (prs W)),L,H,[]⟩))=some (.ret,fr2,⟨hp.set b (.cells g true (prs (Ox W pv hint a be limit wb wp))),L,H,[]⟩):=by
 obtain ⟨g0,g1,g2,g3,g4,g10,g11,g12⟩:=G
 have hg1:∀ B:Blk,(hp.set b B)[b]?=some B:=fun B=>List.getElem?_set_self hb
 have hss:∀ A B:Blk,(hp.set b A).set b B=hp.set b B:=fun A B=>List.set_set ..
 have hl2:∀ B:Blk,(hp.set b B).length=hp.length:=fun B=>List.length_set ..
 have hFb:∀ B:Blk,Fit (hp.set b B).length L H:=fun B=>by rw [hl2];exact hF
 have k3:=fun (fr:Fr) G g13=>LJ (pv:=pv) hb hL hh he hn ih hk hD hab hbe k7 hB hp1 hp2 (fr:=fr) (wb:=wb) (wp:=wp) G g13 hF
 unfold Ox
 simp only
 rw [if_neg hc,if_neg (by simp)]
 cases wb with
 | false=>
  simp only [aJ] at g4 ⊢
  unfold K2
  simp (disch:=first | exact AM.dis | fail) only [af.sy,simprocAttr,-List.reduceReplicate,hF.all,g0,g1,g2,g3,g4,g10,g11,g12,g13,g14]
  exact k3 _ ⟨by simp only [jZ];exact g0,g1,g2,g3,g4,g10,g11,g12⟩ g13
 | true=>
  cases wp with
  | false=>
   simp only [aJ] at g4 ⊢
   unfold K2
   simp (disch:=first | exact AM.dis | fail) only [af.sy,simprocAttr,-List.reduceReplicate,hF.all,g0,g1,g2,g3,g4,g10,g11,g12,g13,g14]
   exact k3 _ ⟨by simp only [jZ];exact g0,g1,g2,g3,g4,g10,g11,g12⟩ g13
  | true=>
   have hx:¬ (pT hint:Int)=1:=fun h=>hc (by rw [GJ.1 h];rfl)
   clear hc
   simp only [aJ] at g4 ⊢
   unfold K2
   simp (disch:=first | exact AM.dis | fail) only [af.sy,simprocAttr,-List.reduceReplicate,hF.all,g0,g1,g2,g3,g4,g10,g11,g12,g13,g14,hx]
   exact k3 _ ⟨by simp only [jZ];exact g0,g1,g2,g3,g4,g10,g11,g12⟩ g13
theorem Zv{b g n e k a be limit pv:Nat}{hint:Go.Sort.Hint}{wb wp:Bool}{W:Array Pr}(hb:b < hp.length)(hL:L<=b)(hh:H.contains b=false)(he:e=0\/e=2)(hn:n<=255)(ih:PIH hp L H b g n e k)(hk:be - a<=k+1)(hD:W.size=n)(hab:a < be)(hbe:be<=n)(k7:limit<=64)(hB:Go.Sort.Below ltP a be W)(hp1:a<=pv)(hp2:pv < be)
  {fr:Fr} (G:PqG fr b g n e a be limit wb wp) (g13:fr.get 13=some (.int .i64 pv)) (g14:fr.get 14=some (.int .i64 (pT hint))) (hF:Fit hp.length L H) (hc:(wb&&wp&&decide (hint=.increasing))=true):∃ fr2,
  nV env kI [3,11,10,0,1,2,4] hp.length (k9 1 (bh env K2 fr ⟨hp.set b (.cells g true (prs W)),L,H,[]⟩))=some (.ret,fr2,⟨hp.set b (.cells g true (prs (Ox W pv hint a be limit wb wp))),L,H,[]⟩):=by
 obtain ⟨g0,g1,g2,g3,g4,g10,g11,g12⟩:=G
 have hg1:∀ B:Blk,(hp.set b B)[b]?=some B:=fun B=>List.getElem?_set_self hb
 have hss:∀ A B:Blk,(hp.set b A).set b B=hp.set b B:=fun A B=>List.set_set ..
 have hl2:∀ B:Blk,(hp.set b B).length=hp.length:=fun B=>List.length_set ..
 have hFb:∀ B:Blk,Fit (hp.set b B).length L H:=fun B=>by rw [hl2];exact hF
 unfold Ox
 simp only
 rw [if_pos hc]
 obtain ⟨rfl,rfl,hi⟩:wb=true/\wp=true/\hint=.increasing:=by
  simp only [Bool.and_eq_true,decide_eq_true_eq] at hc
  exact ⟨hc.1.1,hc.1.2,hc.2⟩
 clear hc
 have hx:(pT hint:Int)=1:=GJ.2 hi
 have pe:=fun d=>Dg (hp:=hp.set b (.cells g true (prs W))) (L:=L) (H:=H) (d:=d) (g:=g) (e:=e) (a:=a) (be:=be) (hg1 _) hD hL hh he (by omega) hab hbe (hFb _)
 obtain ⟨p1,p2⟩:=Go.Sort.partialInsertionSort_holds mT W a be hab (by rw [hD];exact hbe) hB
 generalize Go.Sort.partialInsertionSort ltP W a be=R at *
 obtain ⟨W1,f⟩:=R
 simp only at pe p1 ⊢
 cases f with
 | true=>
  rw [if_pos rfl]
  simp only [aJ,hss] at g4 pe ⊢
  unfold K2
  simp (disch:=first | exact AM.dis | fail) only [af.sy,simprocAttr,-List.reduceReplicate,hF.all,g0,g1,g2,g3,g4,g10,g11,g12,g13,g14,hx,pe]
  exact ⟨_,rfl⟩
 | false=>
  rw [if_neg (by simp)]
  have hB1:=hB.perm (by rw [hD];exact hbe) p1
  have k3':=fun (fr:Fr) G g13=>LJ (pv:=pv) hb hL hh he hn ih hk (p1.1.trans hD) hab hbe k7 hB1 hp1 hp2 (fr:=fr) (wb:=true) (wp:=true) G g13 hF
  simp only [aJ,hss] at g4 pe ⊢
  unfold K2
  simp (disch:=first | exact AM.dis | fail) only [af.sy,simprocAttr,-List.reduceReplicate,hF.all,g0,g1,g2,g3,g4,g10,g11,g12,g13,g14,hx,pe]
  exact k3' _ ⟨by simp only [jZ];exact g0,g1,g2,g3,g4,g10,g11,g12⟩ g13
theorem LK{b g n e k a be limit pv:Nat}{hint:Go.Sort.Hint}{wb wp:Bool}{W:Array Pr}(hb:b < hp.length)(hL:L<=b)(hh:H.contains b=false)(he:e=0\/e=2)(hn:n<=255)(ih:PIH hp L H b g n e k)(hk:be - a<=k+1)(hD:W.size=n)(hab:a < be)(hbe:be<=n)(k7:limit<=64)(hB:Go.Sort.Below ltP a be W)(hp1:a<=pv)(hp2:pv < be)
  {fr:Fr} (G:PqG fr b g n e a be limit wb wp) (g13:fr.get 13=some (.int .i64 pv)) (g14:fr.get 14=some (.int .i64 (pT hint))) (hF:Fit hp.length L H):∃ fr2,
  nV env kI [3,11,10,0,1,2,4] hp.length (k9 1 (bh env K2 fr ⟨hp.set b (.cells g true (prs W)),L,H,[]⟩))=some (.ret,fr2,⟨hp.set b (.cells g true (prs (Ox W pv hint a be limit wb wp))),L,H,[]⟩):=by
 by_cases hc:(wb&&wp&&decide (hint=.increasing))=true
 ·exact Zv hb hL hh he hn ih hk hD hab hbe k7 hB hp1 hp2 G g13 g14 hF hc
 ·exact aci hb hL hh he hn ih hk hD hab hbe k7 hB hp1 hp2 G g13 g14 hF hc
theorem LL{b g n e k a be limit:Nat}{wb wp:Bool}{W:Array Pr}(hb:b < hp.length)(hL:L<=b)(hh:H.contains b=false)(he:e=0\/e=2)(hn:n<=255)(ih:PIH hp L H b g n e k)(hk:be - a<=k+1)(hD:W.size=n)(hab:a < be)(hbe:be<=n)(k7:limit<=64)(hB:Go.Sort.Below ltP a be W)
  {fr:Fr} (G:PqG fr b g n e a be limit wb wp) (hF:Fit hp.length L H):∃ fr2,
  nV env kI [3,11,10,0,1,2,4] hp.length (k9 1 (bh env K1 fr ⟨hp.set b (.cells g true (prs W)),L,H,[]⟩))=some (.ret,fr2,⟨hp.set b (.cells g true (prs (Zu W a be limit wb wp))),L,H,[]⟩):=by
 obtain ⟨g0,g1,g2,g3,g4,g10,g11,g12⟩:=G
 have hg1:∀ B:Blk,(hp.set b B)[b]?=some B:=fun B=>List.getElem?_set_self hb
 have hss:∀ A B:Blk,(hp.set b A).set b B=hp.set b B:=fun A B=>List.set_set ..
 have hl2:∀ B:Blk,(hp.set b B).length=hp.length:=fun B=>List.length_set ..
 have hFb:∀ B:Blk,Fit (hp.set b B).length L H:=fun B=>by rw [hl2];exact hF
 have pc:=fun d=>JD (hp:=hp.set b (.cells g true (prs W))) (L:=L) (H:=H) (d:=d) (g:=g) (e:=e) (a:=a) (be:=be) (hg1 _) hD hh he (by omega) hab hbe (hFb _)
 have hc:=Go.Sort.choosePivot_holds ltP W a be hab
 unfold Zu
 simp only
 generalize Go.Sort.choosePivot ltP W a be=R at *
 obtain ⟨pv,hint⟩:=R
 simp only at pc hc ⊢
 by_cases hd:hint=.decreasing
 ·subst hd
  rw [if_pos rfl,if_pos rfl,if_pos rfl]
  have pr:=fun d=>zZ (hp:=hp.set b (.cells g true (prs W))) (L:=L) (H:=H) (d:=d) (g:=g) (e:=e) (a:=a) (be:=be) (hg1 _) hD hL hh he (by omega) hbe (by omega) (by omega) (hFb _)
  have p1:=Go.Sort.reverseRange_holds W a be (by omega) (by rw [hD];exact hbe)
  generalize Go.Sort.reverseRange W a be=W1 at *
  have hB1:=hB.perm (by rw [hD];exact hbe) p1
  have k2:=fun (fr:Fr) G g13 g14=>LK (pv:=be - 1 - (pv - a)) (hint:=.increasing) hb hL hh he hn ih hk (p1.1.trans hD) hab hbe k7 hB1 (by omega) (by omega) (fr:=fr) (wb:=wb) (wp:=wp) G g13 g14 hF
  have e1:(be:Int) - 1 - ((pv:Int) - (a:Int))=((be - 1 - (pv - a):Nat):Int):=by omega
  simp only [aJ,hss] at g4 pc pr ⊢
  unfold K1
  simp only [pT] at pc
  simp (disch:=first | exact AM.dis | fail) only [af.sy,simprocAttr,-List.reduceReplicate,hF.all,g0,g1,g2,g3,g4,g10,g11,g12,pc,pr,e1]
  exact k2 _ ⟨by simp only [jZ];exact g0,g1,g2,g3,g4,g10,g11,g12⟩ rfl rfl
 ·rw [if_neg hd,if_neg hd,if_neg hd]
  have hx:¬ (pT hint:Int)=2:=by cases hint<;>first | exact absurd rfl hd | decide
  have k2:=fun (fr:Fr) G g13 g14=>LK (pv:=pv) (hint:=hint) hb hL hh he hn ih hk hD hab hbe k7 hB hc.1 hc.2 (fr:=fr) (wb:=wb) (wp:=wp) G g13 g14 hF
  simp only [aJ,hss] at g4 pc ⊢
  unfold K1
  simp (disch:=first | exact AM.dis | fail) only [af.sy,simprocAttr,-List.reduceReplicate,hF.all,g0,g1,g2,g3,g4,g10,g11,g12,pc,hx]
  exact k2 _ ⟨by simp only [jZ];exact g0,g1,g2,g3,g4,g10,g11,g12⟩ rfl rfl
theorem Tz{b g n e:Nat}(hb:b < hp.length)(hL:L<=b)(hh:H.contains b=false)(he:e=0\/e=2)(hn:n<=255)(hF:Fit hp.length L H):∀ k,PIH hp L H b g n e k:=by
 intro k
 have hg1:∀ B:Blk,(hp.set b B)[b]?=some B:=fun B=>List.getElem?_set_self hb
 have hss:∀ A B:Blk,(hp.set b A).set b B=hp.set b B:=fun A B=>List.set_set ..
 have hl2:∀ B:Blk,(hp.set b B).length=hp.length:=fun B=>List.length_set ..
 have hFb:∀ B:Blk,Fit (hp.set b B).length L H:=fun B=>by rw [hl2];exact hF
 induction k with
 | zero=>
  intro W a be limit wb wp hk hD hab hbe k7 hB
  rw [Ty,if_pos (by omega)]
  have e1:(be:Int) - (a:Int)=((be - a:Nat):Int):=by omega
  have h1:((be - a:Nat):Int)<=12:=by omega
  have ci:=fun d=>GD (hp:=hp.set b (.cells g true (prs W))) (L:=L) (H:=H) (d:=d) (g:=g) (e:=e) (a:=a) (be:=be) (hg1 _) hD hL hh he (by omega) hbe (by omega) (hFb _)
  unfold JG
  rw [aB split]
  simp only [aJ,hss] at ci ⊢
  simp (disch:=first | exact AM.dis | fail) only [af.sy,simprocAttr,-List.reduceReplicate,hF.all,e1,h1,ci]
  exact ⟨_,rfl⟩
 | succ k ih=>
  intro W a be limit wb wp hk hD hab hbe k7 hB
  rw [Ty]
  have e1:(be:Int) - (a:Int)=((be - a:Nat):Int):=by omega
  unfold JG
  rw [aB split]
  by_cases h12:be - a<=12
  ·rw [if_pos h12]
   have h1:((be - a:Nat):Int)<=12:=by omega
   have ci:=fun d=>GD (hp:=hp.set b (.cells g true (prs W))) (L:=L) (H:=H) (d:=d) (g:=g) (e:=e) (a:=a) (be:=be) (hg1 _) hD hL hh he (by omega) hbe (by omega) (hFb _)
   simp only [aJ,hss] at ci ⊢
   simp (disch:=first | exact AM.dis | fail) only [af.sy,simprocAttr,-List.reduceReplicate,hF.all,e1,h1,ci]
   exact ⟨_,rfl⟩
  ·rw [if_neg h12]
   have h1:¬ ((be - a:Nat):Int)<=12:=by omega
   by_cases h0:limit=0
   ·rw [if_pos h0]
    subst h0
    have ci:=fun d=>Ou (hp:=hp.set b (.cells g true (prs W))) (L:=L) (H:=H) (d:=d) (g:=g) (e:=e) (a:=a) (be:=be) (hg1 _) hD hL hh he (by omega) (by omega) hbe (hFb _)
    simp only [aJ,hss,Int.natCast_zero] at ci ⊢
    simp (disch:=first | exact AM.dis | fail) only [af.sy,simprocAttr,-List.reduceReplicate,hF.all,e1,h1,ci]
    exact ⟨_,rfl⟩
   ·rw [if_neg h0]
    have h2:¬ (limit:Int)=0:=by omega
    cases wb with
    | true=>
     have k1:=fun (fr:Fr) G=>LL hb hL hh he hn ih hk hD (by omega) hbe k7 hB (fr:=fr) (wb:=true) (wp:=wp) G hF
     simp only [Bool.not_true,Bool.false_eq_true,↓reduceIte]
     simp only [aJ,hss]
     simp (disch:=first | exact AM.dis | fail) only [af.sy,simprocAttr,-List.reduceReplicate,hF.all,e1,h1,h2]
     exact k1 _ ⟨rfl,rfl,rfl,rfl,rfl,rfl,rfl,rfl⟩
    | false=>
     simp only [Bool.not_false,↓reduceIte]
     have pb:=fun d=>JF (hp:=hp.set b (.cells g true (prs W))) (L:=L) (H:=H) (d:=d) (g:=g) (e:=e) (a:=a) (be:=be) (hg1 _) hD hL hh he hn hab hbe (hFb _)
     have p1:=Go.Sort.breakPatterns_holds W a be hab (by rw [hD];exact hbe)
     generalize Go.Sort.breakPatterns W a be=W1 at *
     have hB1:=hB.perm (by rw [hD];exact hbe) p1
     have k1:=fun (fr:Fr) G=>LL hb hL hh he hn ih hk (p1.1.trans hD) (by omega) hbe (show limit - 1<=64 by omega) hB1 (fr:=fr) (wb:=false) (wp:=wp) G hF
     have e2:(limit:Int) - 1=((limit - 1:Nat):Int):=by omega
     simp only [aJ,hss] at pb ⊢
     simp (disch:=first | exact AM.dis | fail) only [af.sy,simprocAttr,-List.reduceReplicate,hF.all,e1,e2,h1,h2,pb]
     exact k1 _ ⟨rfl,rfl,rfl,rfl,rfl,rfl,rfl,rfl⟩
theorem Oy{b g n e:Nat}{W:Array Pr}(hb:hp[b]?=some (.cells g true (prs W)))(hD:W.size=n)(hL:L<=b)(hh:H.contains b=false)(he:e=0\/e=2)(hn:n<=255)(hF:Fit hp.length L H) :
  aN env (.func 222) [.slice (some ⟨b,0,some g⟩) n e,aJ] ⟨hp,L,H,d⟩=some (.tuple #[],⟨hp.set b (.cells g true (prs (Go.Sort.sort ltP W))),L,H,d⟩):=by
 rw [aA 222 _ _ abv]
 have hbl:=(List.getElem?_eq_some_iff.1 hb).1
 have cl:=fun d=>yO (hp:=hp) (L:=L) (H:=H) (d:=d) (g:=g) (e:=e) (a:=0) (be:=n) (limit:=Go.Sort.bitsLen n) (k:=n) (W:=W) hbl (Tz hbl hL hh he hn hF n) (by omega) hD (by omega) (by omega) (by have:=qy n (by omega);omega) (.inl rfl) hF
 rw [dS hb] at cl
 have kl:=fun d=>Bm (hp:=hp) (L:=L) (H:=H) (d:=d) (x:=n) (by omega) hF
 unfold Go.Sort.sort
 rw [hD]
 simp only [aJ,Int.natCast_zero] at cl ⊢
 simp (disch:=first | exact AM.dis | fail) only [af.sy,simprocAttr,-List.reduceReplicate,hF.all,Lg,cl,kl]
end
end TtP
namespace AM
open Go Go.RowKit
section
variable{aa:ay}{fr:Fr}{σ:St}
theorem Oz:aop aa .iY fr σ=some (.map (some σ.heap.length),⟨σ.heap++[.map []],σ.lock,σ.hid,σ.ak⟩):=rfl
def TA:Bool->Option Blk->Option (List (Value×Value))
 | false,some (.map es)=>some es
 | _,_=>none
theorem j3(es:List (Value×Value)):TA false (some (.map es))=some es:=rfl
theorem rU(h:List Blk)(L:Nat)(H d:List Nat)(r:Nat):St.jO ⟨h,L,H,d⟩ r=TA (H.contains r) h[r]?:=by
 unfold St.jO TA
 cases H.contains r with
 | true=>rfl
 | false=>
  simp only [Bool.false_eq_true,if_false]
  cases h[r]? with
  | none=>rfl
  | some B=>cases B<;>rfl
def Yt(σ:St):Option (List (Value×Value))->Option (Value×St)
 | some es=>some (.int .i64 es.length,σ)
 | none=>none
def Yu(σ:St)(m:Option Value):Option (Value×St):=m.bind fun m=>match m with
  | .map (some r)=>(σ.jO r).map fun es=>(.int .i64 es.length,σ)
  | _=>none
theorem yP(r:Nat):Yu σ (some (.map (some r)))=Yt σ (σ.jO r):=by
 show (σ.jO r).map _=_
 cases σ.jO r<;>rfl
theorem yQ(es:List (Value×Value)):Yt σ (some es)=some (.int .i64 es.length,σ):=rfl
theorem GK(m:Operand):aop aa (.wH m) fr σ=Yu σ (ev fr m):=rfl
def TB(σ:St)(ag:Bool)(sh:List Sh)(z:Value)(ok:Bool)(m k:Option Value):Option (Value×St):=m.bind fun m=>k.bind fun k=>match m with
  | .map (some r)=>(σ.jO r).bind fun es=>(eU ag sh k es).bind fun q=>
    if bX ag sh k then some (if ok then .tuple #[q.getD z,.bool q.isSome] else q.getD z,σ) else none
  | _=>none
def GL(σ:St)(ag:Bool)(sh:List Sh)(z:Value)(ok:Bool)(k:Value):Option (Option Value)->Option (Value×St)
 | some q=>if bX ag sh k then some (if ok then .tuple #[q.getD z,.bool q.isSome] else q.getD z,σ) else none
 | none=>none
def Yv(σ:St)(ag:Bool)(sh:List Sh)(z:Value)(ok:Bool)(k:Value):Option (List (Value×Value))->Option (Value×St)
 | some es=>GL σ ag sh z ok k (eU ag sh k es)
 | none=>none
theorem mV(ag:Bool)(sh:List Sh)(z:Value)(ok:Bool)(r:Nat)(k:Value):TB σ ag sh z ok (some (.map (some r))) (some k)=Yv σ ag sh z ok k (σ.jO r):=by
 show (σ.jO r).bind _=_
 cases σ.jO r with
 | none=>rfl
 | some es=>
  show (eU ag sh k es).bind _=GL σ ag sh z ok k (eU ag sh k es)
  cases eU ag sh k es<;>rfl
theorem mW(ag:Bool)(sh:List Sh)(z:Value)(ok:Bool)(k:Value)(es:List (Value×Value)):Yv σ ag sh z ok k (some es)=GL σ ag sh z ok k (eU ag sh k es):=rfl
theorem GM(ag:Bool)(sh:List Sh)(z k:Value)(q:Option Value):GL σ ag sh z true k (some q)=if bX ag sh k then some (.tuple #[q.getD z,.bool q.isSome],σ) else none:=rfl
theorem GN(ag:Bool)(sh:List Sh)(z k:Value)(q:Option Value):GL σ ag sh z false k (some q)=if bX ag sh k then some (q.getD z,σ) else none:=rfl
theorem rV(ag:Bool)(sh:List Sh)(z:Value)(ok:Bool)(m k:Operand):aop aa (.wG ag sh z ok m k) fr σ=TB σ ag sh z ok (ev fr m) (ev fr k):=by
 simp only [aop,TB]
 congr 1
def TC(σ:St)(ag:Bool)(sh:List Sh)(m k x:Option Value):Option (Value×St):=m.bind fun m=>k.bind fun k=>x.bind fun x=>match m with
  | .map (some r)=>if r < σ.lock then none else (σ.jO r).bind fun es=>(eU ag sh k es).bind fun q=>
    if q.isNone&&bX ag sh k&&held x then some (.tuple #[],{ σ with heap:=σ.heap.set r (.map (es++[(k,x)])),ak:=bA σ r [x] }) else none
  | _=>none
def GO(σ:St)(ag:Bool)(sh:List Sh)(r:Nat)(k x:Value)(es:List (Value×Value)):Option (Option Value)->Option (Value×St)
 | some q=>if q.isNone&&bX ag sh k&&held x then some (.tuple #[],⟨σ.heap.set r (.map (es++[(k,x)])),σ.lock,σ.hid,bA σ r [x]⟩) else none
 | none=>none
def Yw(σ:St)(ag:Bool)(sh:List Sh)(r:Nat)(k x:Value):Option (List (Value×Value))->Option (Value×St)
 | some es=>GO σ ag sh r k x es (eU ag sh k es)
 | none=>none
theorem JH(ag:Bool)(sh:List Sh)(r:Nat)(k x:Value):TC σ ag sh (some (.map (some r))) (some k) (some x)=if r < σ.lock then none else Yw σ ag sh r k x (σ.jO r):=by
 show (if r < σ.lock then none else (σ.jO r).bind _)=_
 split
 ·rfl
 ·cases σ.jO r with
  | none=>rfl
  | some es=>
   show (eU ag sh k es).bind _=GO σ ag sh r k x es (eU ag sh k es)
   cases eU ag sh k es<;>rfl
theorem JI(ag:Bool)(sh:List Sh)(r:Nat)(k x:Value)(es:List (Value×Value)):Yw σ ag sh r k x (some es)=GO σ ag sh r k x es (eU ag sh k es):=rfl
theorem OA(ag:Bool)(sh:List Sh)(r:Nat)(k:Value)(i:IntKind)(x:Int)(es:List (Value×Value)):GO σ ag sh r k (.int i x) es (some none)=if bX ag sh k then some (.tuple #[],⟨σ.heap.set r (.map (es++[(k,.int i x)])),σ.lock,σ.hid,σ.ak⟩) else none:=by
 unfold GO
 cases bX ag sh k<;>rfl
theorem TD(ag:Bool)(sh:List Sh)(m k x:Operand):aop aa (.ef ag sh m k x) fr σ=TC σ ag sh (ev fr m) (ev fr k) (ev fr x):=by
 simp only [aop,TC]
 congr 1
end
end AM
namespace TuA
open Go Go.RowKit AM af LtA SyP TmM TsA TsB TsE TsI TsJ TtA TtB TtC TtD TtE TtF TtG TtH TtI TtJ TtK TtL TtM TtN TtO TtP Bt
def pv(p:Pr):Value:=.agg #[.int .i64 p.1,.int .i64 p.2]
def ent:List Pr->Nat->List (Value×Value)
 | [],_=>[]
 | p::k,i=>(pv p,.int .i64 i)::ent k (i+1)
theorem GP(p:Pr):∀ (k:List Pr) (i:Nat),ent (k++[p]) i=ent k i++[(pv p,.int .i64 (i+k.length:Nat))]
 | [],i=>rfl
 | q::k,i=>by
  rw [List.cons_append,ent,GP p k (i+1),ent,List.cons_append,List.length_cons,show i+1+k.length=i+(k.length+1) by omega]
theorem Di:∀ (k:List Pr) (i:Nat),(ent k i).length=k.length
 | [],i=>rfl
 | q::k,i=>by rw [ent,List.length_cons,List.length_cons,Di k]
theorem JJ(p:Pr):bX true [.nu,.nu] (pv p)=true:=rfl
theorem yR(p:Pr):∀ (k:List Pr) (i:Nat),eU true [.nu,.nu] (pv p) (ent k i)=some (if p∈k then some (.int .i64 (i+k.idxOf p:Nat)) else none)
 | [],i=>rfl
 | q::k,i=>by
  have e:bD [.nu,.nu] (cellsOf (pv p)) (cellsOf (pv q))=some (p==q):=by
   show bD [.nu,.nu] [.int .i64 p.1,.int .i64 p.2] [.int .i64 q.1,.int .i64 q.2]=some (p==q)
   simp [bD,jk]
   rfl
  rw [ent,eU,JJ,if_pos rfl,e,yR p k (i+1)]
  simp only [Option.bind_some,Option.map_some,List.mem_cons]
  by_cases h:p=q
  ·subst h
   simp
  ·have h1:(p==q)=false:=by simpa using h
   have h2:(q==p)=false:=by simpa using Ne.symm h
   rw [h1,List.idxOf_cons,h2]
   simp only [Bool.false_eq_true,if_false,cond_false,h,false_or]
   rw [show i+1+k.idxOf p=i+(k.idxOf p+1) by omega]
section
variable{hp:List Blk}{L:Nat}{H d:List Nat}
theorem Zw(W:Array Pr):(prs W).all AM.sc=true:=Tu _
theorem Bn:∀ (l:List Pr),(prL l).all aW=true
 | []=>rfl
 | p::l=>by rw [prL];simp only [List.all_cons,Bn l];rfl
theorem OB(W:Array Pr):(prs W).all aW=true:=Bn _
theorem GQ{n:Nat}{W:Array Pr}(hD:W.size=n)(h0:1<=n)(hn:n<=255)(hF:Fit hp.length L H) :
  St.append ⟨hp++[.cells 0 true []],L,H,d⟩ true 2 (.slice (some ⟨hp.length,0,some 0⟩) 0 2) n (prs W)=some (.slice (some ⟨hp.length,0,some (n*2)⟩) n 2,⟨hp++[.cells (n*2) true (prs W)],L,H,d⟩):=by
 have hk:St.blk ⟨hp++[.cells 0 true []],L,H,d⟩ ⟨hp.length,0,some 0⟩=some (true,[]):=by
  unfold St.blk
  simp only [hF.kg,bY];simp
 have h1:¬ n=0:=by omega
 have hs:small (n*2)=true:=by unfold small;simp;omega
 have hs1:=Zw W
 have hs2:=OB W
 have hL:¬ hp.length < L:=by have:=hF.1;omega
 simp only [St.append]
 rw [if_neg h1,if_neg (by simp [hL]),hk]
 simp [hs1,hs2,hs,bA,fL]
theorem qx{b g n e:Nat}{W:Array Pr}(hb:hp[b]?=some (.cells g true (prs W)))(hD:W.size=n)(hh:H.contains b=false)(h0:1<=n)(hn:n<=255)(hF:Fit hp.length L H) :
  aN env (.func 221) [.slice (some ⟨b,0,some g⟩) n e] ⟨hp,L,H,d⟩=some (.slice (some ⟨hp.length,0,some (n*2)⟩) n 2,⟨hp++[.cells (n*2) true (prs W)],L,H,d⟩):=by
 rw [aA 221 _ _ abu]
 have hbl:=(List.getElem?_eq_some_iff.1 hb).1
 have ha:=fun d=>GQ (d:=d) hD h0 hn hF
 have hs0:small 0=true:=by decide
 have hlen:(prs W).length=2*n:=by rw [dV,hD]
 have htk:(prs W).take (n*2)=prs W:=List.take_of_length_le (by omega)
 have hle:n*2<=2*n:=by omega
 have hgl:∀ B:Blk,(hp++[B])[b]?=some (.cells g true (prs W)):=fun B=>by rw [lI hbl];exact hb
 simp (disch:=first | exact AM.dis | fail) only [af.sy,simprocAttr,-List.reduceReplicate,hF.all,Lf,hs0,hb,hh,hgl,hlen,htk,hle,ha,oS (kj.plain _ _)]
end
end TuA
namespace RdP
abbrev Pr:=Int×Int
def plt(p q:Pr):Prop:=p.1 < q.1\/p.1=q.1/\p.2 < q.2
instance (p q:Pr):Decidable (plt p q):=by unfold plt;infer_instance
theorem LM(p:Pr):¬ plt p p:=by unfold plt;omega
theorem WA{p q:Pr}(h:plt p q):¬ plt q p:=by unfold plt at *;omega
theorem WB(p q:Pr):plt p q\/p=q\/plt q p:=by
 unfold plt
 rcases p with ⟨a,b⟩
 rcases q with ⟨c,d⟩
 simp only [Prod.mk.injEq]
 omega
structure Keys(l k:List Pr):Prop where
 sorted:k.Pairwise plt
 mem:∀ p,p∈k↔p∈l
def rnk(l k:List Pr):List Nat:=l.map k.idxOf
theorem oX(l k:List Pr):(rnk l k).length=l.length:=by simp [rnk]
theorem Keys.nodup{l k:List Pr}(h:Keys l k):k.Nodup:=List.Pairwise.imp (fun {a b} (hp:plt a b) (e:a=b)=>LM b (by rw [e] at hp;exact hp)) h.sorted
theorem Keys.lt{l k:List Pr}(h:Keys l k){p q:Pr}(hp:p∈l)(hq:q∈l):k.idxOf p < k.idxOf q↔plt p q:=by
 have h1:=List.idxOf_lt_length_of_mem ((h.mem p).2 hp)
 have h2:=List.idxOf_lt_length_of_mem ((h.mem q).2 hq)
 have e1:k[k.idxOf p]=p:=List.getElem_idxOf h1
 have e2:k[k.idxOf q]=q:=List.getElem_idxOf h2
 have hs:=List.pairwise_iff_getElem.1 h.sorted
 constructor
 ·intro hlt
  have:=hs _ _ h1 h2 hlt
  rwa [e1,e2] at this
 ·intro hlt
  rcases Nat.lt_trichotomy (k.idxOf p) (k.idxOf q) with h3 | h3 | h3
  ·exact h3
  ·have:p=q:=by rw [<- e1,<- e2];simp only [h3]
   subst this
   exact absurd hlt (LM _)
  ·have:=hs _ _ h2 h1 h3
   rw [e1,e2] at this
   exact absurd hlt (WA this)
def pre(T:List Nat)(w i:Nat):List Nat:=(T.drop i).take w
theorem qz:∀ (w:Nat) (a b:List Nat),a.take w < b.take w->a < b
 | 0,a,b,h=>by simp at h
 | w+1,a,[],h=>by simp at h
 | w+1,[],y::b,h=>by simp
 | w+1,x::a,y::b,h=>by
  rw [List.take_succ_cons,List.take_succ_cons,List.cons_lt_cons_iff] at h
  rw [List.cons_lt_cons_iff]
  rcases h with h | ⟨h1,h2⟩
  ·exact .inl h
  ·exact .inr ⟨h1,qz w a b h2⟩
theorem GR{T:List Nat}{w v i j:Nat}(h:pre T w i < pre T w j)(hv:w<=v):pre T v i < pre T v j:=by
 apply qz w
 unfold pre at *
 rw [List.take_take,List.take_take,Nat.min_eq_left hv]
 exact h
theorem Bo:∀ (c a b:List Nat),c++a < c++b↔a < b
 | [],a,b=>by simp
 | x::c,a,b=>by
  rw [List.cons_append,List.cons_append,List.cons_lt_cons_iff,Bo c a b]
  simp
theorem WC{T:List Nat}{w i j:Nat}(h:pre T w i=pre T w j):pre T (2*w) i < pre T (2*w) j↔pre T w (i+w) < pre T w (j+w):=by
 have e:∀ i,pre T (2*w) i=pre T w i++pre T w (i+w):=fun i=>by
  unfold pre
  rw [show 2*w=w+w by omega,List.take_add,List.drop_drop]
 rw [e,e,h,Bo]
theorem wq(T:List Nat)(w i:Nat):(pre T w i).length=min w (T.length - i):=by simp [pre]
structure tO(T:List Nat)(w:Nat)(r:List Nat):Prop where
 len:r.length=T.length+1
 lt:∀ i j,i<=T.length->j<=T.length->(r.getD i 0 < r.getD j 0↔pre T w i < pre T w j)
def first(T:List Nat):List Pr:=(List.range (T.length+1)).map fun i=>(if i < T.length then 1+(T.getD i 0:Int) else 0,0)
def pairs(r:List Nat)(w:Nat):List Pr:=(List.range r.length).map fun i=>((r.getD i 0:Int),if i+w < r.length then (r.getD (i+w) 0:Int) else -1)
theorem lR(T:List Nat):(first T).length=T.length+1:=by simp [first]
theorem gO(r:List Nat)(w:Nat):(pairs r w).length=r.length:=by simp [pairs]
theorem hH{l k:List Pr}{i:Nat}(h:i < l.length):(rnk l k).getD i 0=k.idxOf l[i]:=by
 simp [rnk,List.getD_eq_getElem?_getD,h]
theorem Zx(a b:List Nat):a < b\/a=b\/b < a:=by
 by_cases h:a < b
 ·exact .inl h
 by_cases h2:b < a
 ·exact .inr (.inr h2)
 exact .inr (.inl (List.le_antisymm (List.not_lt.1 h2) (List.not_lt.1 h)))
theorem drop_one(T:List Nat)(i:Nat):pre T 1 i=if i < T.length then [T.getD i 0] else []:=by
 unfold pre
 split
 ·rename_i h
  rw [List.drop_eq_getElem_cons h,List.getD_eq_getElem?_getD,List.getElem?_eq_getElem h];rfl
 ·rename_i h
  rw [List.drop_eq_nil_of_le (by omega)];rfl
theorem Zy(a b:Nat):([a]:List Nat) < [b]↔a < b:=by rw [List.cons_lt_cons_iff];simp
theorem tO.first{T:List Nat}{k:List Pr}(h:Keys (first T) k):tO T 1 (rnk (RdP.first T) k):=by
 refine ⟨by rw [oX,lR],fun i j hi hj=>?_⟩
 have li:i < (RdP.first T).length:=by rw [lR];omega
 have lj:j < (RdP.first T).length:=by rw [lR];omega
 rw [hH li,hH lj,h.lt (List.getElem_mem _) (List.getElem_mem _),drop_one,drop_one]
 simp only [RdP.first,List.getElem_map,List.getElem_range,plt]
 split<;>split
 ·rw [Zy];omega
 ·simp
  omega
 ·simp
  omega
 ·simp
theorem tO.eq{T:List Nat}{w:Nat}{r:List Nat}(h:tO T w r){i j:Nat}(hi:i<=T.length)(hj:j<=T.length):r.getD i 0=r.getD j 0↔pre T w i=pre T w j:=by
 have h1:=h.lt i j hi hj
 have h2:=h.lt j i hj hi
 constructor
 ·intro e
  rcases Zx (pre T w i) (pre T w j) with h3 | h3 | h3
  ·have:=h1.2 h3;omega
  ·exact h3
  ·have:=h2.2 h3;omega
 ·intro e
  rcases Nat.lt_trichotomy (r.getD i 0) (r.getD j 0) with h3 | h3 | h3
  ·have:=h1.1 h3;rw [e] at this;exact absurd this (List.lt_irrefl _)
  ·exact h3
  ·have:=h2.1 h3;rw [e] at this;exact absurd this (List.lt_irrefl _)
theorem tO.step{T:List Nat}{w:Nat}{r:List Nat}{k:List Pr}(h:tO T w r)(hk:Keys (pairs r w) k):tO T (2*w) (rnk (pairs r w) k):=by
 refine ⟨by rw [oX,gO,h.len],fun i j hi hj=>?_⟩
 have hlen:=h.len
 have li:i < (pairs r w).length:=by rw [gO];omega
 have lj:j < (pairs r w).length:=by rw [gO];omega
 rw [hH li,hH lj,hk.lt (List.getElem_mem _) (List.getElem_mem _)]
 simp only [pairs,List.getElem_map,List.getElem_range,plt]
 have h1:=h.lt i j hi hj
 have h2:=h.lt j i hj hi
 have he:=h.eq hi hj
 rcases Nat.lt_trichotomy (r.getD i 0) (r.getD j 0) with h3 | h3 | h3
 ·have:=GR (h1.1 h3) (show w<=2*w by omega)
  simp only [this,iff_true]
  omega
 ·have e:=he.1 h3
  rw [WC e]
  have l1:=wq T w i
  have l2:=wq T w j
  rw [e] at l1
  by_cases hfull:w<=T.length - i/\w<=T.length - j
  ·by_cases hi2:i+w<=T.length
   ·have hj2:j+w<=T.length:=by omega
    rw [if_pos (by omega),if_pos (by omega)]
    have:=h.lt (i+w) (j+w) hi2 hj2
    rw [<- this]
    omega
   ·omega
  ·have hij:i=j:=by omega
   subst hij
   simp only [List.lt_irrefl,iff_false]
   omega
 ·have:=GR (h2.1 h3) (show w<=2*w by omega)
  have h4:=List.lt_asymm this
  simp only [h4,iff_false]
  omega
theorem uX{α:Type}[DecidableEq α]:∀ (k l:List α),k.Nodup->(∀ p∈k,p∈l)->l.length<=k.length->l.Perm k
 | [],l,_,_,h=>by
  cases l with
  | nil=>exact .refl _
  | cons a l=>simp at h
 | a::k,l,hn,hs,h=>by
  have ha:=hs a (by simp)
  have hp:=List.perm_cons_erase ha
  rw [List.nodup_cons] at hn
  refine hp.trans (.cons a (uX k (l.erase a) hn.2 (fun p hp'=>?_) ?_))
  ·have hne:p≠a:=fun e=>hn.1 (e ▸ hp')
   exact (List.mem_erase_of_ne hne).2 (hs p (by simp [hp']))
  ·rw [List.length_erase_of_mem ha];simp only [List.length_cons] at h;omega
theorem xD{α:Type}[DecidableEq α]:∀ (k l:List α),k.Nodup->(∀ p∈k,p∈l)->k.length<=l.length
 | [],l,_,_=>by simp
 | a::k,l,hn,hs=>by
  have ha:=hs a (by simp)
  rw [List.nodup_cons] at hn
  have:=xD k (l.erase a) hn.2 fun p hp'=>by
   have hne:p≠a:=fun e=>hn.1 (e ▸ hp')
   exact (List.mem_erase_of_ne hne).2 (hs p (by simp [hp']))
  rw [List.length_erase_of_mem ha] at this
  have:0 < l.length:=List.length_pos_of_mem ha
  simp only [List.length_cons];omega
theorem Keys.perm{l k:List Pr}(h:Keys l k)(hl:l.length<=k.length):l.Perm k:=uX k l h.nodup (fun p hp=>(h.mem p).1 hp) hl
theorem OC{l:List Pr}(h:l.Nodup):l.map l.idxOf=List.range l.length:=by
 apply List.ext_getElem
 ·simp
 ·intro i h1 h2
  simp only [List.getElem_map,List.getElem_range]
  exact h.idxOf_getElem i (by simpa using h1)
def rows(l k:List Pr):List Nat:=k.map l.idxOf
theorem WD{l k:List Pr}(h:Keys l k)(hl:l.length<=k.length){i:Nat}(hi:i < l.length):(rows l k)[(rnk l k).getD i 0]?=some i:=by
 have hn:l.Nodup:=(h.perm hl).nodup_iff.2 h.nodup
 rw [hH hi]
 have hm:l[i]∈k:=(h.mem _).2 (List.getElem_mem _)
 have h1:=List.idxOf_lt_length_of_mem hm
 simp only [rows,List.getElem?_map,List.getElem?_eq_getElem h1,List.getElem_idxOf,Option.map_some]
 rw [hn.idxOf_getElem i hi]
theorem TE{T:List Nat}{w:Nat}{l k:List Pr}(h:Keys l k)(hl:l.length<=k.length)(hr:tO T w (rnk l k)) :
  (rows l k).Perm (List.range (T.length+1))/\(rows l k).Pairwise fun i j=>T.drop i < T.drop j:=by
 have hp:=h.perm hl
 have hn:l.Nodup:=hp.nodup_iff.2 h.nodup
 have hlen:l.length=T.length+1:=by rw [<- hr.len,oX]
 refine ⟨?_,?_⟩
 ·rw [<- hlen,<- OC hn]
  exact (hp.map _).symm
 ·unfold rows
  rw [List.pairwise_map]
  refine List.Pairwise.imp_of_mem (fun {p q} hp hq hlt=>?_) h.sorted
  have hp':=(h.mem p).1 hp
  have hq':=(h.mem q).1 hq
  have i1:=List.idxOf_lt_length_of_mem hp'
  have i2:=List.idxOf_lt_length_of_mem hq'
  have:=(hr.lt (l.idxOf p) (l.idxOf q) (by omega) (by omega)).1 (by
   rw [hH i1,hH i2,List.getElem_idxOf,List.getElem_idxOf]
   exact (h.lt hp' hq').2 hlt)
  exact qz w _ _ this
theorem full{T:List Nat}{w:Nat}{l k:List Pr}(h:Keys l k)(hr:tO T w (rnk l k))(hw:T.length<=w):l.length<=k.length:=by
 have hlen:l.length=T.length+1:=by rw [<- hr.len,oX]
 have hn:l.Nodup:=by
  rw [List.Nodup,List.pairwise_iff_getElem]
  intro i j hi' hj' hij e
  have:=(hr.eq (i:=i) (j:=j) (by omega) (by omega)).1 (by
   rw [hH hi',hH hj']
   rw [e])
  have l1:=wq T w i
  have l2:=wq T w j
  rw [this] at l1
  omega
 exact xD l k hn fun p hp=>(h.mem p).2 hp
end RdP
namespace TuB
open Go Go.RowKit AM af LtA SyP TmM TsA TsB TsC TsE TsI TsJ TtA TtB TtC TtD TtE TtF TtG TtH TtI TtJ TtK TtL TtM TtN TtO TtP TuA Bt
def tP(k:List Pr)(p:Pr):List Pr:=if p∈k then k else k++[p]
def JK(S:List Pr):List Pr:=S.foldl tP []
theorem Bp:∀ (S k:List Pr) (q:Pr),q∈S.foldl tP k↔q∈k\/q∈S
 | [],k,q=>by simp
 | p::S,k,q=>by
  rw [List.foldl_cons,Bp S (tP k p) q]
  unfold tP
  split
  ·rename_i h
   simp only [List.mem_cons]
   constructor
   ·rintro (h1 | h1)
    ·exact .inl h1
    ·exact .inr (.inr h1)
   ·rintro (h1 | h1 | h1)
    ·exact .inl h1
    ·subst h1;exact .inl h
    ·exact .inr h1
  ·simp only [List.mem_append,List.mem_cons,List.not_mem_nil,or_false]
   constructor
   ·rintro ((h1 | h1) | h1)
    ·exact .inl h1
    ·exact .inr (.inl h1)
    ·exact .inr (.inr h1)
   ·rintro (h1 | h1 | h1)
    ·exact .inl (.inl h1)
    ·exact .inl (.inr h1)
    ·exact .inr h1
theorem rW:∀ (S k:List Pr),k.Pairwise RdP.plt->(∀ q∈k,∀ p∈S,¬ RdP.plt p q)->S.Pairwise (fun p q=>¬ RdP.plt q p)->(S.foldl tP k).Pairwise RdP.plt
 | [],k,h,_,_=>h
 | p::S,k,h,h1,h2=>by
  rw [List.pairwise_cons] at h2
  rw [List.foldl_cons]
  refine rW S (tP k p) ?_ ?_ h2.2
  ·unfold tP
   split
   ·exact h
   ·rename_i hm
    rw [List.pairwise_append]
    refine ⟨h,by simp,fun q hq r hr=>?_⟩
    simp only [List.mem_cons,List.not_mem_nil,or_false] at hr
    subst hr
    rcases RdP.WB q r with h3 | h3 | h3
    ·exact h3
    ·subst h3;exact absurd hq hm
    ·exact absurd h3 (h1 q hq r (by simp))
  ·intro q hq r hr
   have:q∈k\/q=p:=by
    unfold tP at hq
    split at hq
    ·exact .inl hq
    ·simpa using hq
   rcases this with h3 | h3
   ·exact h1 q h3 r (by simp [hr])
   ·subst h3;exact h2.1 r hr
theorem WE{p q:Pr} : RdP.plt p q↔ltP p q=true:=Df.symm
theorem uY(W:Array Pr):(W.extract 0 W.size).toList=W.toList:=by simp
theorem Dj(W:Array Pr):RdP.Keys W.toList (JK (Go.Sort.sort ltP W).toList):=by
 obtain ⟨⟨h1,h2,h3⟩,h4⟩:=Go.Sort.sort_sorts ltP mT W
 have h5:(Go.Sort.sort ltP W).toList.Perm W.toList:=by
  have e:(Go.Sort.sort ltP W).extract 0 W.size=(Go.Sort.sort ltP W).extract 0 (Go.Sort.sort ltP W).size:=by rw [h1]
  rw [e,uY,uY] at h3
  exact h3
 refine ⟨?_,fun p=>?_⟩
 ·refine rW _ [] (by simp) (by simp) ?_
  rw [List.pairwise_iff_getElem]
  intro i j hi hj hij
  have:=h4 i j (by omega) hij (by rw [Array.length_toList] at hj;omega)
  simp only [Array.length_toList] at hi hj
  rw [getElem!_pos _ j hj,getElem!_pos _ i hi] at this
  rw [WE]
  simp only [Array.getElem_toList]
  simp [this]
 ·unfold JK
  rw [Bp,h5.mem_iff]
  simp
section
variable{hp:List Blk}{L:Nat}{H d:List Nat}
theorem yS{b g n e:Nat}{S:Array Pr}(hS:S.size=n)(hn:n<=255)(hb:b < hp.length)(hF:Fit hp.length L H):∀ (j i:Nat) (k:List Pr),i+j=n->k.length<=i->∃ fr,
  aX env vR [19,18,2,0,17,5] (hp.length+2) [(19,.int .i64 i),(18,.int .i64 n),(2,.slice none 0 0),(0,.slice (some ⟨b,0,some g⟩) n e),(17,.slice (some ⟨hp.length,0,some (n*2)⟩) n 2),(5,.map (some (hp.length+1)))] ⟨hp++[.cells (n*2) true (prs S),.map (ent k 0)],L,H,[]⟩
   = some (.exit 0,fr,⟨hp++[.cells (n*2) true (prs S),.map (ent ((S.toList.drop i).foldl tP k) 0)],L,H,[]⟩)/\fr.get 2=some (.slice none 0 0)/\fr.get 0=some (.slice (some ⟨b,0,some g⟩) n e)/\fr.get 5=some (.map (some (hp.length+1)))
 | 0,i,k,hij,hk=>by
  have h1:¬ (i:Int) < (n:Int):=by omega
  rw [List.drop_of_length_le (by rw [Array.length_toList];omega),List.foldl_nil]
  rw [aB vR.eq_1]
  simp (disch:=first | exact AM.dis | fail) only [af.sy,simprocAttr,-List.reduceReplicate,hF.all,h1]
  exact ⟨_,rfl,rfl,rfl,rfl⟩
 | j+1,i,k,hij,hk=>by
  have h1:(i:Int) < (n:Int):=by omega
  have hi:i < S.toList.length:=by rw [Array.length_toList];omega
  have hlen:(prs S).length=2*n:=by rw [dV,hS]
  have r1:=cx S (i:=i) (by omega)
  rw [Nat.mul_comm] at r1
  have h2:0<=(i:Int)/\(i:Int) < (n:Int):=by omega
  have s1:i*2+2<=2*n:=by omega
  rw [List.drop_eq_getElem_cons hi,List.foldl_cons]
  have hS1:S.toList[i]=S[i]!:=by rw [getElem!_pos S i (by omega)];simp
  rw [hS1]
  generalize S[i]! = p at *
  have hf:=yR p k 0
  have hs:=GP p k 0
  have hfit:=JJ p
  have hlk:=Di k 0
  rw [Nat.zero_add] at hs hf
  unfold pv at hf hs hfit
  have hg:=fun c0 c1 c2 i1=>FI (hp:=hp) (nw:=[c0,c1,c2]) (L:=L) (H:=H) (fr:=[(19,.int .i64 i1),(18,.int .i64 n),(2,.slice none 0 0),(0,.slice (some ⟨b,0,some g⟩) n e),(17,.slice (some ⟨hp.length,0,some (n*2)⟩) n 2),(5,.map (some (hp.length+1)))]) 2 (by simp) (by
   intro q hq r hr
   simp only [List.mem_cons,List.not_mem_nil,or_false] at hq
   rcases hq with rfl | rfl | rfl | rfl | rfl | rfl<;>simp [refs,aT,aG] at hr<;>omega)
  simp only [List.take_succ_cons,List.take_zero] at hg
  rw [aB vR.eq_1]
  by_cases hm:p∈k
  ·have ha:tP k p=k:=by unfold tP;rw [if_pos hm]
   rw [ha]
   rw [if_pos hm] at hf
   obtain ⟨fr,ih,ih2⟩:=yS (g:=g) (e:=e) hS hn hb hF j (i+1) k (by omega) (by omega)
   refine ⟨fr,?_,ih2⟩
   simp only [Int.natCast_add,Int.natCast_one] at ih
   simp (disch:=first | exact AM.dis | fail) only [af.sy,simprocAttr,-List.reduceReplicate,hF.all,h1,h2,hlen,r1,s1,rU,j3,rV,mV,mW,GM,hf,hfit,Option.isSome_some,hg,ih]
  ·have ha:tP k p=k++[p]:=by unfold tP;rw [if_neg hm]
   rw [ha]
   rw [if_neg hm] at hf
   obtain ⟨fr,ih,ih2⟩:=yS (g:=g) (e:=e) hS hn hb hF j (i+1) (k++[p]) (by omega) (by simp;omega)
   refine ⟨fr,?_,ih2⟩
   rw [hs] at ih
   simp only [Int.natCast_add,Int.natCast_one] at ih
   simp (disch:=first | exact AM.dis | fail) only [af.sy,simprocAttr,-List.reduceReplicate,hF.all,h1,h2,hlen,r1,s1,rU,j3,rV,TD,GK,yP,yQ,JH,JI,OA,mV,mW,GM,hf,hfit,hlk,Option.isSome_none,hg,ih]
end
end TuB
namespace TuC
open Go Go.RowKit AM af LtA SyP TmM TsA TsB TsC TsE TsI TsJ TtA TtB TtC TtD TtE TtF TtG TtH TtI TtJ TtK TtL TtM TtN TtO TtP TuA TuB Bt
section
variable{hp:List Blk}{L:Nat}{H d:List Nat}
theorem LN{b g n e m k:Nat}{cs:List Value}{c0 c1:Blk}{nw:List Blk}{i1 i2:Int}(hk:nw[k]?=some (.cells n true cs))(hb:b < hp.length) :
  gQ (hp.length+2) [(2,.slice (some ⟨hp.length+2+k,0,some n⟩) n 1),(38,.int .i64 i1),(37,.int .i64 i2),(36,.slice (some ⟨b,0,some g⟩) m e),(5,.map (some (hp.length+1)))] ⟨hp++c0::c1::nw,L,H,[]⟩
   = some ([(2,.slice (some ⟨hp.length+2,0,some n⟩) n 1),(38,.int .i64 i1),(37,.int .i64 i2),(36,.slice (some ⟨b,0,some g⟩) m e),(5,.map (some (hp.length+1)))],⟨hp++[c0,c1,.cells n true cs],L,H,[]⟩):=by
 unfold gQ
 have ee:hp++c0::c1::nw=(hp++[c0,c1])++nw:=by simp
 have hl:(hp++[c0,c1]).length=hp.length+2:=by simp
 have G:=qt (h:=hp++[c0,c1]) (nw:=nw) (k:=k) (L:=L) (H:=H) (d:=[]) (vs:=List.map (·.2) [(2,Value.slice (some ⟨hp.length+2+k,0,some n⟩) n 1),(38,.int .i64 i1),(37,.int .i64 i2),(36,.slice (some ⟨b,0,some g⟩) m e),(5,.map (some (hp.length+1)))]) hk (by
  intro u hu r hr
  rw [hl]
  simp only [List.map_cons,List.map_nil,List.mem_cons,List.not_mem_nil,or_false] at hu
  rcases hu with rfl | rfl | rfl | rfl | rfl<;>simp [refs,aT,aG] at hr<;>omega) ⟨.slice (some ⟨hp.length+2+k,0,some n⟩) n 1,by simp,by rw [hl];simp [refs,aT,aG]⟩ rfl
 rw [hl] at G
 rw [ee,G]
 have o0:AM.one (hp.length+2) (hp.length+2+k) (hp.length+1)=hp.length+1:=iW (by omega)
 have o1:AM.one (hp.length+2) (hp.length+2+k) b=b:=iW (by omega)
 have o2:AM.one (hp.length+2) (hp.length+2+k) (hp.length+2+k)=hp.length+2:=dD
 simp only [Option.map_some,List.map_cons,List.map_nil,List.zip_cons_cons,List.zip_nil_left]
 simp only [ren,fm,cQ,o0,o1,o2,Option.map_some,List.append_assoc,List.cons_append,List.nil_append]
def WG(hp:List Blk)(b g n e i:Nat)(sl:Value):Fr:=[(2,sl),(38,.int .i64 i),(37,.int .i64 n),(36,.slice (some ⟨b,0,some g⟩) n e),(5,.map (some (hp.length+1)))]
theorem GS{b g n e:Nat}{W:Array Pr}{k:List Pr}{c0:Blk}(hb:hp[b]?=some (.cells g true (prs W)))(hh:H.contains b=false)(hD:W.size=n)(hn:n<=255)(hk:∀ p∈W.toList,p∈k)(hF:Fit hp.length L H):∀ (j i:Nat) (acc:List Nat),i+j=n->acc.length=i->∃ fr,
  aX env vQ [2,38,37,36,5] (hp.length+2) (WG hp b g n e i (slI (hp.length+2) acc)) ⟨hp++c0::.map (ent k 0)::ji acc,L,H,[]⟩
   = some (.exit 2,fr,⟨hp++c0::.map (ent k 0)::ji (acc++(W.toList.drop i).map k.idxOf),L,H,[]⟩)/\fr.get 2=some (slI (hp.length+2) (acc++(W.toList.drop i).map k.idxOf))/\fr.get 5=some (.map (some (hp.length+1)))
 | 0,i,acc,hij,hacc=>by
  have h1:¬ (i:Int) < (n:Int):=by omega
  rw [List.drop_of_length_le (by rw [Array.length_toList];omega),List.map_nil,List.append_nil]
  unfold WG
  rw [aB vQ.eq_1]
  simp (disch:=first | exact AM.dis | fail) only [af.sy,simprocAttr,-List.reduceReplicate,hF.all,h1]
  exact ⟨_,rfl,rfl,rfl⟩
 | j+1,i,acc,hij,hacc=>by
  have h1:(i:Int) < (n:Int):=by omega
  have hi:i < W.toList.length:=by rw [Array.length_toList];omega
  have hbl:=(List.getElem?_eq_some_iff.1 hb).1
  have hlen:(prs W).length=2*n:=by rw [dV,hD]
  have r1:=cx W (i:=i) (by omega)
  rw [Nat.mul_comm] at r1
  have h2:0<=(i:Int)/\(i:Int) < (n:Int):=by omega
  have s1:i*2+2<=2*n:=by omega
  rw [List.drop_eq_getElem_cons hi,List.map_cons]
  have hp1:=hk _ (List.getElem_mem hi)
  have hS1:W.toList[i]=W[i]!:=by rw [getElem!_pos W i (by omega)];simp
  rw [hS1] at hp1 ⊢
  generalize W[i]! = p at *
  have hf:=yR p k 0
  have hfit:=JJ p
  rw [if_pos hp1,Nat.zero_add] at hf
  unfold pv at hf hfit
  obtain ⟨fr,ih,ih2⟩:=GS (c0:=c0) (e:=e) hb hh hD hn hk hF j (i+1) (acc++[k.idxOf p]) (by omega) (by simp;omega)
  rw [List.append_assoc,List.singleton_append] at ih ih2
  refine ⟨fr,?_,ih2⟩
  refine Eq.trans ?_ ih
  generalize k.idxOf p=x at *
  have hgb:∀ nw:List Blk,(hp++nw)[b]?=some (.cells g true (prs W)):=fun nw=>by rw [lI hbl];exact hb
  have hs1:small 1=true:=by decide
  unfold WG
  rw [aB vQ.eq_1]
  simp only [Int.natCast_add,Int.natCast_one]
  by_cases ha0:acc=[]
  ·subst ha0
   have hN:([]++[x]:List Nat).length=1:=rfl
   rw [gM hN (by decide),eF hN (by decide)]
   have ha:=fun nw=>yH (hp:=hp++nw) (L:=L) (H:=H) (d:=[]) (x:=x)
   simp only [List.length_append] at ha
   have hg:=fun c0 c1 c2 c3 i1=>LN (hp:=hp) (L:=L) (H:=H) (b:=b) (g:=g) (e:=e) (m:=n) (k:=2) (n:=1) (cs:=is [x]) (c0:=c0) (c1:=c1) (nw:=[c2,c3,.cells 1 true (is [x])]) (i1:=i1) (i2:=(n:Int)) rfl hbl
   simp only [Nat.add_assoc,Nat.reduceAdd] at hg
   simp (disch:=first | exact AM.dis | fail) only [af.sy,simprocAttr,-List.reduceReplicate,hF.all,fS,eC,h1,h2,hlen,r1,s1,hs1,hb,hh,hgb,rU,j3,rV,mV,mW,GN,hf,hfit,ha,hg]
  ·have hao:¬ acc.length=0:=by cases acc<;>simp at ha0 ⊢
   have hN:(acc++[x]:List Nat).length=acc.length+1:=by simp
   rw [gM rfl hao,eF rfl hao,gM hN (by omega),eF hN (by omega)]
   have ha:=fun c0 c1 nw=>rP (hp:=hp++c0::c1::.cells acc.length true (is acc)::nw) (L:=L) (H:=H) (d:=[]) (b:=hp.length+2) (x:=x) rfl (by rw [b7];rfl) (by have:=hF.1;omega) (hF.jB 2) (by omega)
   have hg:=fun c0 c1 c2 c3 i1=>LN (hp:=hp) (L:=L) (H:=H) (b:=b) (g:=g) (e:=e) (m:=n) (k:=0) (n:=acc.length+1) (cs:=is (acc++[x])) (c0:=c0) (c1:=c1) (nw:=[.cells (acc.length+1) true (is (acc++[x])),c2,c3]) (i1:=i1) (i2:=(n:Int)) rfl hbl
   simp only [Nat.add_zero] at hg
   simp (disch:=first | exact AM.dis | fail) only [af.sy,simprocAttr,-List.reduceReplicate,hF.all,h1,h2,hlen,r1,s1,hs1,hb,hh,hgb,rU,j3,rV,mV,mW,GN,hf,hfit,ha,hg]
def gm(W:Array Pr):List Pr:=JK (Go.Sort.sort ltP W).toList
theorem OD(W:Array Pr):(Go.Sort.sort ltP W).size=W.size:=(Go.Sort.sort_sorts ltP mT W).1.1
theorem ot{b g n e:Nat}{W:Array Pr}(hb:hp[b]?=some (.cells g true (prs W)))(hh:H.contains b=false)(hD:W.size=n)(h0:1<=n)(hn:n<=255)(hF:Fit hp.length L H) :
  aN env (.func 173) [.slice (some ⟨b,0,some g⟩) n e] ⟨hp,L,H,d⟩=some (.tuple #[.slice (some ⟨hp.length,0,some n⟩) n 1,.int .i64 (gm W).length],⟨hp++[.cells n true (is (RdP.rnk W.toList (gm W)))],L,H,d⟩):=by
 rw [aA 173 _ _ abh]
 have hbl:=(List.getElem?_eq_some_iff.1 hb).1
 have kc:=fun d=>qx (d:=d) (e:=e) hb hD hh h0 hn hF
 have ks:=fun d=>Oy (hp:=hp++[.cells (n*2) true (prs W)]) (L:=L) (H:=H) (d:=d) (b:=hp.length) (g:=n*2) (n:=n) (e:=2) (W:=W) (by rw [bY]) hD hF.1 hF.kg (.inr rfl) hn (hF.mono (by simp))
 simp only [fL] at ks
 have hK:=Dj W
 have hSz:=OD W
 obtain ⟨fr,l0,l1,l2,l3⟩:=yS (hp:=hp) (L:=L) (H:=H) (b:=b) (g:=g) (e:=e) (S:=Go.Sort.sort ltP W) (hSz.trans hD) hn hbl hF n 0 [] (by omega) (by simp)
 rw [List.drop_zero] at l0
 change _=some (Ex.exit 0,fr,(⟨hp++[.cells (n*2) true (prs (Go.Sort.sort ltP W)),.map (ent (gm W) 0)],L,H,[]⟩:St)) at l0
 have hkm:∀ p∈W.toList,p∈gm W:=fun p hp=>(hK.mem p).2 hp
 have hkl:=Di (gm W) 0
 generalize gm W=k at *
 generalize Go.Sort.sort ltP W=S at *
 obtain ⟨fr2,q0,q1,q2⟩:=GS (hp:=hp) (L:=L) (H:=H) (b:=b) (g:=g) (e:=e) (c0:=.cells (n*2) true (prs S)) hb hh hD hn hkm hF n 0 [] (by omega) rfl
 rw [List.drop_zero,List.nil_append] at q0 q1
 have hR:((W.toList).map k.idxOf).length=n:=by rw [List.length_map,Array.length_toList,hD]
 change _=some (Ex.exit 2,fr2,(⟨hp++.cells (n*2) true (prs S)::.map (ent k 0)::ji (RdP.rnk W.toList k),L,H,[]⟩:St)) at q0
 change fr2.get 2=some (slI (hp.length+2) (RdP.rnk W.toList k)) at q1
 change (RdP.rnk W.toList k).length=n at hR
 generalize RdP.rnk W.toList k=R at *
 rw [eF hR (by omega)] at q0
 rw [gM hR (by omega)] at q1
 unfold WG at q0
 simp only [fS,eC,Int.natCast_zero] at q0 l0
 have hG:=gA (h:=hp) (nw:=[.cells (n*2) true (prs S),.map (ent k 0),.cells n true (is R)]) (L:=L) (H:=H) (v:=.tuple #[.slice (some ⟨hp.length+2,0,some n⟩) n 1,.int .i64 k.length]) 2 rfl (by simp [refs,aT,aG]) (by simp [refs,aT,aG])
 have o2:AM.one hp.length (hp.length+2) (hp.length+2)=hp.length:=dD
 have e0:ent [] 0=[]:=rfl
 rw [e0] at l0
 simp only [aJ] at ks
 simp (disch:=first | exact AM.dis | fail) only [af.sy,simprocAttr,-List.reduceReplicate,hF.all,FQ,kc,ks,Oz,l0,l1,l2,l3,q0,q1,q2,rU,j3,GK,yP,yQ,hkl,hG,ren,fm,cQ,o2,List.map_cons,List.map_nil]
end
end TuC
namespace TuD
open Go Go.RowKit AM af LtA SyP TmM TsA TsB TsC TsE TsI TsJ TtA TtB TtC TtD TtE TtF TtG TtH TtI TtJ TtK TtL TtM TtN TtO TtP TuA TuB TuC Bt
theorem GU:∀ n:Nat,(List.replicate n [Value.int .i64 0,Value.int .i64 0]).flatten=prL (List.replicate n ((0:Int),(0:Int)))
 | 0=>rfl
 | n+1=>by rw [List.replicate_succ,List.flatten_cons,GU n,List.replicate_succ];rfl
theorem yT:∀ (l:List Pr) (i:Nat) (h:i < l.length) (a:Int),(prL l).set (i*2) (.int .i64 a)=prL (l.set i (a,l[i].2))
 | p::l,0,h,a=>rfl
 | p::l,i+1,h,a=>by
  rw [prL,show (i+1)*2=i*2+1+1 by omega,List.set_cons_succ,List.set_cons_succ,yT l i (by simpa using h) a]
  rfl
theorem yU:∀ (l:List Pr) (i:Nat) (h:i < l.length) (a:Int),(prL l).set (i*2+1) (.int .i64 a)=prL (l.set i (l[i].1,a))
 | p::l,0,h,a=>rfl
 | p::l,i+1,h,a=>by
  rw [prL,show (i+1)*2+1=(i*2+1)+1+1 by omega,List.set_cons_succ,List.set_cons_succ,yU l i (by simpa using h) a]
  rfl
theorem TF:∀ (l:List Pr) (i:Nat) (h:i < l.length) (a c:Int),((prL l).set (i*2) (.int .i64 a)).set (i*2+1) (.int .i64 c)=prL (l.set i (a,c)):=fun l i h a c=>by
 rw [yT l i h,yU _ i (by simpa using h),List.set_set]
 simp
def fI(x:List Nat)(i:Nat):List Pr:=(List.range (x.length+1)).map fun q=>(if q < i/\q < x.length then 1+(x.getD q 0:Int) else 0,0)
theorem Zz(x:List Nat)(i:Nat):(fI x i).length=x.length+1:=by simp [fI]
theorem WH(x:List Nat):fI x 0=List.replicate (x.length+1) (0,0):=by
 apply List.ext_getElem
 ·simp [fI]
 ·intro q h1 h2
  simp [fI]
theorem ZA(x:List Nat):fI x x.length=RdP.first x:=by
 apply List.ext_getElem
 ·simp [fI,RdP.first]
 ·intro q h1 h2
  simp only [fI,RdP.first,List.getElem_map,List.getElem_range]
  by_cases h:q < x.length
  ·rw [if_pos ⟨h,h⟩,if_pos h]
  ·rw [if_neg (fun k=>h k.1),if_neg h]
theorem ZB{x:List Nat}{i:Nat}(h:i < x.length)(hl:i < (fI x i).length):(fI x i).set i (1+(x.getD i 0:Int),(fI x i)[i].2)=fI x (i+1):=by
 apply List.ext_getElem
 ·simp [fI]
 ·intro q h1 h2
  rw [List.getElem_set]
  simp only [fI,List.getElem_map,List.getElem_range]
  by_cases e:i=q
  ·subst e
   rw [if_pos rfl,if_pos ⟨by omega,h⟩]
  ·rw [if_neg e]
   by_cases e2:q < i/\q < x.length
   ·rw [if_pos e2,if_pos ⟨by omega,e2.2⟩]
   ·rw [if_neg e2,if_neg (by omega)]
section
variable{hp:List Blk}{L:Nat}{H d:List Nat}
theorem GV{x:List Nat}{a:Option Addr}{e n m:Nat}(hR:Rd ⟨hp,L,H,[]⟩ (.slice a n e) x)(hxs:x.length<=254)(h8:By x)(hm:m=x.length+1)(hF:Fit hp.length L H):∀ (j i:Nat),i+j=x.length->∃ fr,
  aX env vM [16,15,14,3] (hp.length+1) [(16,.int .i64 i),(15,.int .i64 x.length),(14,.slice a n e),(3,.slice (some ⟨hp.length,0,some 0⟩) m 2)] ⟨hp++[.cells 0 true (prL (fI x i))],L,H,[]⟩
   = some (.exit 0,fr,⟨hp++[.cells 0 true (prL (RdP.first x))],L,H,[]⟩)/\fr.get 3=some (.slice (some ⟨hp.length,0,some 0⟩) m 2)
 | 0,i,hij=>by
  have h1:¬ (i:Int) < (x.length:Int):=by omega
  obtain rfl:i=x.length:=by omega
  rw [ZA,aB vM.eq_1]
  simp (disch:=first | exact AM.dis | fail) only [af.sy,simprocAttr,-List.reduceReplicate,hF.all,h1]
  exact ⟨_,rfl,rfl⟩
 | j+1,i,hij=>by
  have h1:(i:Int) < (x.length:Int):=by omega
  have hi:i < x.length:=by omega
  obtain ⟨b,of,g,pl,cs,rfl,rfl,hh,hb,hcx⟩:=hR.at_ hi
  have hbl:=(List.getElem?_eq_some_iff.1 hb).1
  obtain ⟨fr,ih,ih2⟩:=GV hR hxs h8 hm hF j (i+1) (by omega)
  refine ⟨fr,?_,ih2⟩
  have hfl:=Zz x i
  have hil:i < (fI x i).length:=by omega
  have hgd:x[i]=x.getD i 0:=by rw [List.getD_eq_getElem?_getD,List.getElem?_eq_getElem hi];rfl
  have hv8:=h8 _ (List.getElem_mem hi)
  have cY:=yT (fI x i) i hil (1+(x.getD i 0:Int))
  rw [ZB hi hil] at cY
  rw [hgd] at hcx hv8
  clear hgd
  have hpl:(prL (fI x i)).length=2*m:=by rw [mS,hfl,hm]
  generalize prL (fI x i)=P at *
  generalize prL (fI x (i+1))=P' at *
  generalize x.getD i 0=c at *
  have h2:0<=(i:Int)/\(i:Int) < (x.length:Int):=by omega
  have h3:0<=(i:Int)/\(i:Int) < (m:Int):=by omega
  have s1:i*2+1<=2*m:=by omega
  simp only [Int.natCast_add,Int.natCast_one] at ih
  rw [aB vM.eq_1]
  have hgb:∀ nw:List Blk,(hp++nw)[b]?=some (.cells g pl cs):=fun nw=>by rw [lI hbl];exact hb
  simp (disch:=first | exact AM.dis | fail) only [af.sy,simprocAttr,-List.reduceReplicate,hF.all,h1,h2,h3,hh,hb,hgb,hcx,hpl,s1,cY,ih]
def pI(l:List Pr)(r:List Nat)(w i:Nat):List Pr:=(RdP.pairs r w).take i++l.drop i
theorem LO(l:List Pr)(r:List Nat)(w:Nat):pI l r w 0=l:=by simp [pI]
theorem ZC{l:List Pr}{r:List Nat}{w:Nat}(h:l.length=r.length):pI l r w r.length=RdP.pairs r w:=by
 unfold pI
 rw [List.take_of_length_le (by rw [RdP.gO];omega),List.drop_of_length_le (by omega),List.append_nil]
theorem ZD{l:List Pr}{r:List Nat}{w i:Nat}(h:l.length=r.length):(pI l r w i).length=r.length:=by
 unfold pI;simp [RdP.gO];omega
theorem ZE{l:List Pr}{r:List Nat}{w i:Nat}(h:l.length=r.length)(hi:i < r.length):(pI l r w i).set i ((r.getD i 0:Int),if i+w < r.length then (r.getD (i+w) 0:Int) else -1)=pI l r w (i+1):=by
 unfold pI
 have hl:i < (RdP.pairs r w).length:=by rw [RdP.gO];exact hi
 rw [List.set_append_right _ _ (by rw [List.length_take];exact Nat.min_le_left _ _),List.length_take,Nat.min_eq_left (by omega),Nat.sub_self,List.drop_eq_getElem_cons (show i < l.length by omega),List.set_cons_zero,List.take_succ_eq_append_getElem hl,List.append_assoc]
 simp [RdP.pairs]
theorem yV{r:List Nat}{w n b q:Nat}(hb:b < hp.length)(hq:hp[q]?=some (.cells n true (is r)))(hbq:b≠q)(hL:L<=b)(hhb:H.contains b=false)(hhq:H.contains q=false)(hn:r.length=n)(hn2:n<=255)(hw1:1<=w)(hw:w<=1000){l:List Pr}(hl:l.length=n)(hF:Fit hp.length L H):∀ (j i:Nat),i+j=n->∃ fr,
  aX env vL [42,41,3,6,8] hp.length [(42,.int .i64 i),(41,.int .i64 n),(3,.slice (some ⟨b,0,some 0⟩) n 2),(6,.slice (some ⟨q,0,some n⟩) n 1),(8,.int .i64 w)] ⟨hp.set b (.cells 0 true (prL (pI l r w i))),L,H,[]⟩
   = some (.exit 4,fr,⟨hp.set b (.cells 0 true (prL (RdP.pairs r w))),L,H,[]⟩)/\fr.get 3=some (.slice (some ⟨b,0,some 0⟩) n 2)/\fr.get 6=some (.slice (some ⟨q,0,some n⟩) n 1)/\fr.get 8=some (.int .i64 w)
 | 0,i,hij=>by
  have h1:¬ (i:Int) < (n:Int):=by omega
  obtain rfl:i=n:=by omega
  rw [<- hn,ZC (hl.trans hn.symm),aB vL.eq_1]
  rw [<- hn] at h1
  simp (disch:=first | exact AM.dis | fail) only [af.sy,simprocAttr,-List.reduceReplicate,hF.all,h1]
  exact ⟨_,rfl,rfl,rfl,rfl⟩
 | j+1,i,hij=>by
  have h1:(i:Int) < (n:Int):=by omega
  obtain ⟨fr,ih,ih2⟩:=yV hb hq hbq hL hhb hhq hn hn2 hw1 hw hl hF j (i+1) (by omega)
  refine ⟨fr,?_,ih2⟩
  have hpn:=ZD (w:=w) (i:=i) (hl.trans hn.symm)
  have cY:=ZE (w:=w) (i:=i) (hl.trans hn.symm) (by omega)
  have hsp:=TF (pI l r w i) i (by omega) (r.getD i 0:Int)
  have acj:=fun c c'=>yU ((pI l r w i).set i ((r.getD i 0:Int),c)) i (by simp;omega) c'
  simp only [List.getElem_set_self,List.set_set] at acj
  have hpl:(prL (pI l r w i)).length=2*n:=by rw [mS,hpn,hn]
  have hql:=(List.getElem?_eq_some_iff.1 hq).1
  have hg1:∀ B:Blk,(hp.set b B)[b]?=some B:=fun B=>List.getElem?_set_self hb
  have hg2:∀ B:Blk,(hp.set b B)[q]?=some (.cells n true (is r)):=fun B=>by rw [List.getElem?_set_ne hbq];exact hq
  have hss:∀ A B:Blk,(hp.set b A).set b B=hp.set b B:=fun A B=>List.set_set ..
  have hnl:¬ b < L:=by omega
  have hc1:(is r)[i]?=some (.int .i64 (r.getD i 0:Nat)):=by
   rw [is,List.getElem?_map,List.getD_eq_getElem?_getD,List.getElem?_eq_getElem (by omega)];rfl
  have h2:0<=(i:Int)/\(i:Int) < (n:Int):=by omega
  have s1:i*2+2<=2*n:=by omega
  have s2:i*2+1+1<=2*n:=by omega
  rw [aB vL.eq_1]
  simp only [Int.natCast_add,Int.natCast_one] at ih
  by_cases hiw:i+w < n
  ·have h3:(i:Int)+(w:Int) < (n:Int):=by omega
   have h4:0<=(i:Int)+(w:Int)/\(i:Int)+(w:Int) < (n:Int):=by omega
   have h5:((i:Int)+(w:Int)).toNat=i+w:=by omega
   have hc2:(is r)[i+w]?=some (.int .i64 (r.getD (i+w) 0:Nat)):=by
    rw [is,List.getElem?_map,List.getD_eq_getElem?_getD,List.getElem?_eq_getElem (by omega)];rfl
   rw [if_pos (by omega)] at cY
   generalize r.getD (i+w) 0=y at *
   generalize r.getD i 0=z at *
   have t1:=hsp (-1)
   have t2:=acj (-1) y
   rw [cY] at t2
   have l2:(prL ((pI l r w i).set i ((z:Int),(-1:Int)))).length=2*n:=by rw [mS,List.length_set,hpn,hn]
   generalize prL (pI l r w i)=P at *
   generalize prL ((pI l r w i).set i ((z:Int),(-1:Int)))=P1 at *
   generalize prL (pI l r w (i+1))=P2 at *
   simp (disch:=first | exact AM.dis | fail) only [af.sy,simprocAttr,-List.reduceReplicate,hF.all,h1,h2,h3,h4,h5,hhb,hhq,hg1,hg2,hss,hnl,hc1,hc2,hpl,l2,s1,s2,t1,t2,ih]
  ·have h3:¬ (i:Int)+(w:Int) < (n:Int):=by omega
   rw [if_neg (by omega)] at cY
   generalize r.getD i 0=z at *
   have t1:=hsp (-1)
   rw [cY] at t1
   generalize prL (pI l r w i)=P at *
   generalize prL (pI l r w (i+1))=P2 at *
   simp (disch:=first | exact AM.dis | fail) only [af.sy,simprocAttr,-List.reduceReplicate,hF.all,h1,h2,h3,hhb,hhq,hg1,hg2,hss,hnl,hc1,hpl,s1,s2,t1,ih]
end
end TuD
end Go.Proofs.YtgdpefeomemllaaGreat
