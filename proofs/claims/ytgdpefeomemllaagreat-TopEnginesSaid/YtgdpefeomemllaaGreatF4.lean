/- Conditions: none. -/
import Derived.Test.YtgdpefeomemllaaGreatF3
set_option linter.all false
set_option maxRecDepth 100000
namespace Go.Proofs.YtgdpefeomemllaaGreat
namespace TtJ
open Go Go.RowKit AM aE LtA SyP TmM TsA TsB TsE TsI TsJ TtA TtB TtC TtD TtE TtF TtG TtH TtI Bt
def p7:Go.Sort.Hint->Nat
 | .unknown=>0
 | .increasing=>1
 | .decreasing=>2
def Ba(s:Nat):Go.Sort.Hint:=if s=0 then .increasing else if s=12 then .decreasing else .unknown
theorem ox{W:Array Pr}{x y z s:Nat} : (Go.Sort.median ltP W x y z s).2<=s+3:=by unfold Go.Sort.median;have h1:=ot (W:=W) (x:=x) (y:=y) (s:=s);have h2:=ot (W:=W) (x:=(Go.Sort.order2 ltP W x y s).2.1) (y:=z) (s:=(Go.Sort.order2 ltP W x y s).2.2);have h3:=ot (W:=W) (x:=(Go.Sort.order2 ltP W x y s).1) (y:=(Go.Sort.order2 ltP W (Go.Sort.order2 ltP W x y s).2.1 z (Go.Sort.order2 ltP W x y s).2.2).1) (s:=(Go.Sort.order2 ltP W (Go.Sort.order2 ltP W x y s).2.1 z (Go.Sort.order2 ltP W x y s).2.2).2.2);simp only;omega
section
variable{hp:List Blk}{L:Nat}{H d:List Nat}
theorem Jm{b g e n a be:Nat}{W:Array Pr}(hb:hp[b]?=some (.cells g true (prs W)))(hD:W.size=n)(hh:H.contains b=false)(he:e=0\/e=2)(hn:n<=100000)(hab:a < be)(hbe:be<=n)(hF:Fit hp.length L H) :
  aN env (.func 272) [.slice (some ⟨b,0,some g⟩) n e,.int .i64 a,.int .i64 be,aB] ⟨hp,L,H,d⟩=some (.tuple #[.int .i64 (Go.Sort.choosePivot ltP W a be).1,.int .i64 (p7 (Go.Sort.choosePivot ltP W a be).2)],⟨hp,L,H,d⟩):=by
 rw [av 272 _ _ aaW];have hbl:=(List.getElem?_eq_some_iff.1 hb).1;have hbh:∀ B:Blk,(hp++[B])[b]?=some (.cells g true (prs W)):=fun B=>by rw [jX hbl];exact hb
 have bK:∀ A B:Blk,(hp++[A]).set hp.length B=hp++[B]:=fun A B=>iV ..;have hF1:∀ B:Blk,Fit (hp++[B]).length L H:=fun B=>hF.mono (by simp);have kA:=fun (x s:Nat) (hx:1<=x) (hx2:x+1 < n) (hs:s<=90000) d=>F9 (hp:=hp++[.cells 0 true [.int .i64 s]]) (d:=d) (q:=hp.length) (x:=x) (s:=s) (hbh _) hD hh he hn hx hx2 (dK ..) hF.1 hF.jv (by omega) hs (hF1 _);have kM:=fun (x y z s:Nat) (hx:x < n) (hy:y < n) (hz:z < n) (hs:s<=90000) d=>uS (hp:=hp++[.cells 0 true [.int .i64 s]]) (d:=d) (q:=hp.length) (x:=x) (y:=y) (z:=z) (s:=s) (hbh _) hD hh he hn hx hy hz (dK ..) hF.1 hF.jv (by omega) hs (hF1 _);simp only [bK,aB] at kA kM;have e1:(be:Int) - (a:Int)=((be - a:Nat):Int):=by omega
 have e2:Int.tdiv ((be - a:Nat):Int) 4=(((be - a) / 4:Nat):Int):=by rw [Int.tdiv_eq_ediv_of_nonneg (by omega)];omega
 have ei:(a:Int)+((((be - a) / 4:Nat)):Int)=((a+(be - a) / 4*1:Nat):Int):=by omega
 have ej:(a:Int)+((((be - a) / 4:Nat)):Int)*2=((a+(be - a) / 4*2:Nat):Int):=by omega
 have ek:(a:Int)+((((be - a) / 4:Nat)):Int)*3=((a+(be - a) / 4*3:Nat):Int):=by omega
 have hi:a+(be - a) / 4*1 < n:=by omega
 have hj:a+(be - a) / 4*2 < n:=by omega
 have hk:a+(be - a) / 4*3 < n:=by omega
 have b1:((be - a) / 4:Nat)<=100000:=by omega
 have b2:be - a<=100000:=by omega
 by_cases h8:be - a>=8
 ·have g8:((be - a:Nat):Int)>=8:=by omega
  by_cases h50:be - a>=50
  ·have g50:((be - a:Nat):Int)>=50:=by omega
   have zM:Go.Sort.choosePivot ltP W a be=(let ri:=Go.Sort.medianAdjacent ltP W (a+(be - a) / 4*1) 0
    let rj:=Go.Sort.medianAdjacent ltP W (a+(be - a) / 4*2) ri.2;let rk:=Go.Sort.medianAdjacent ltP W (a+(be - a) / 4*3) rj.2;let r:=Go.Sort.median ltP W ri.1 rj.1 rk.1 rk.2
    (r.1,Ba r.2)):=by unfold Go.Sort.choosePivot;simp only [if_pos h8,if_pos h50];rfl
   rw [zM];clear zM;simp only;generalize hx:a+(be - a) / 4*1=x at *;generalize hy:a+(be - a) / 4*2=y at *;generalize hz:a+(be - a) / 4*3=z at *;have m1:=kA x 0 (by omega) (by omega) (by omega);have t1:(Go.Sort.medianAdjacent ltP W x 0).2<=0+3:=ox;have u1:=Go.Sort.medianAdjacent_mem ltP W x 0;generalize Go.Sort.medianAdjacent ltP W x 0=r1 at *;obtain ⟨x1,s1⟩:=r1;simp only at t1 u1 m1 ⊢;have m2:=kA y s1 (by omega) (by omega) (by omega);have t2:(Go.Sort.medianAdjacent ltP W y s1).2<=s1+3:=ox;have u2:=Go.Sort.medianAdjacent_mem ltP W y s1;generalize Go.Sort.medianAdjacent ltP W y s1=r2 at *;obtain ⟨y1,s2⟩:=r2;simp only at t2 u2 m2 ⊢;have m3:=kA z s2 (by omega) (by omega) (by omega);have t3:(Go.Sort.medianAdjacent ltP W z s2).2<=s2+3:=ox;have u3:=Go.Sort.medianAdjacent_mem ltP W z s2;generalize Go.Sort.medianAdjacent ltP W z s2=r3 at *;obtain ⟨z1,s3⟩:=r3;simp only at t3 u3 m3 ⊢;have m4:=kM x1 y1 z1 s3 (by omega) (by omega) (by omega) (by omega);have t4:(Go.Sort.median ltP W x1 y1 z1 s3).2<=s3+3:=ox;generalize Go.Sort.median ltP W x1 y1 z1 s3=r4 at *;obtain ⟨w,s4⟩:=r4;simp only [Int.natCast_zero] at t4 m1 m2 m3 m4 ⊢;clear kA kM;by_cases z0:s4=0
   ·subst z0;simp only [Int.natCast_zero] at m4;simp (disch:=first|exact dis|fail) only [sy,simprocAttr,-List.reduceReplicate,hF.all,uO,aB,e1,e2,ei,ej,ek,g8,g50,m1,m2,m3,m4];rfl
   ·have y0:¬ (s4:Int)=0:=by omega
    by_cases z2:s4=12
    ·subst z2;simp (disch:=first|exact dis|fail) only [sy,simprocAttr,-List.reduceReplicate,hF.all,uO,aB,e1,e2,ei,ej,ek,g8,g50,m1,m2,m3,m4];rfl
    ·have y2:¬ (s4:Int)=12:=by omega
     have hs:Ba s4=.unknown:=by unfold Ba;rw [if_neg z0,if_neg z2]
     rw [hs];simp (disch:=first|exact dis|fail) only [sy,simprocAttr,-List.reduceReplicate,hF.all,uO,aB,e1,e2,ei,ej,ek,g8,g50,m1,m2,m3,m4,y0,y2];rfl
  ·have g50:¬ ((be - a:Nat):Int)>=50:=by omega
   have zM:Go.Sort.choosePivot ltP W a be=(let r:=Go.Sort.median ltP W (a+(be - a) / 4*1) (a+(be - a) / 4*2) (a+(be - a) / 4*3) 0
    (r.1,Ba r.2)):=by unfold Go.Sort.choosePivot;simp only [if_pos h8,if_neg h50];rfl
   rw [zM];clear zM;simp only;generalize hx:a+(be - a) / 4*1=x at *;generalize hy:a+(be - a) / 4*2=y at *;generalize hz:a+(be - a) / 4*3=z at *;have m4:=kM x y z 0 (by omega) (by omega) (by omega) (by omega);have t4:(Go.Sort.median ltP W x y z 0).2<=0+3:=ox;generalize Go.Sort.median ltP W x y z 0=r4 at *;obtain ⟨w,s4⟩:=r4;simp only [Int.natCast_zero] at t4 m4 ⊢;clear kA kM;by_cases z0:s4=0
   ·subst z0;simp only [Int.natCast_zero] at m4;simp (disch:=first|exact dis|fail) only [sy,simprocAttr,-List.reduceReplicate,hF.all,uO,aB,e1,e2,ei,ej,ek,g8,g50,m4];rfl
   ·have y0:¬ (s4:Int)=0:=by omega
    have z2:¬ s4=12:=by omega
    have y2:¬ (s4:Int)=12:=by omega
    have hs:Ba s4=.unknown:=by unfold Ba;rw [if_neg z0,if_neg z2]
    rw [hs];simp (disch:=first|exact dis|fail) only [sy,simprocAttr,-List.reduceReplicate,hF.all,uO,aB,e1,e2,ei,ej,ek,g8,g50,m4,y0,y2];rfl
 ·have g8:¬ ((be - a:Nat):Int)>=8:=by omega
  have zM:Go.Sort.choosePivot ltP W a be=(a+(be - a) / 4*2,.increasing):=by unfold Go.Sort.choosePivot;simp only [if_neg h8];rfl
  rw [zM];clear zM kA kM;simp only;simp (disch:=first|exact dis|fail) only [sy,simprocAttr,-List.reduceReplicate,hF.all,uO,aB,e1,e2,ei,ej,ek,g8];rfl
end
end TtJ
namespace TtK
open Go Go.RowKit AM aE LtA SyP TmM TsA TsB TsE TsI TsJ TtA TtB TtC TtD TtE TtF TtG TtH TtI TtJ Bt
section
variable{hp:List Blk}{L:Nat}{H d:List Nat}
theorem up4{b g e n a j:Nat}{W:Array Pr}(hb:hp[b]?=some (.cells g true (prs W)))(hD:W.size=n)(hh:H.contains b=false)(he:e=0\/e=2)(hn:n<=100000)(ha:a < n)(hj:j < n)(hF:Fit hp.length L H):∀ (k i:Nat),j+1 - i<=k->i<=200000->∃ fr,
  aG env CY [12,4,1,0,13] hp.length [(12,.int .i64 i),(4,aB),(1,.int .i64 a),(0,.slice (some ⟨b,0,some g⟩) n e),(13,.int .i64 j)] ⟨hp,L,H,[]⟩
   = some (.exit 0,fr,⟨hp,L,H,[]⟩)/\fr.get 12=some (.int .i64 (Go.Sort.scanUp (fun x=>ltP x W[a]!) W j i:Nat))/\fr.get 4=some (aB)/\fr.get 1=some (.int .i64 a)/\fr.get 0=some ((.slice (some ⟨b,0,some g⟩) n e))/\fr.get 13=some (.int .i64 j)
 | k,i,hk,hi=>by
  rw [Go.Sort.scanUp,ak CY.eq_1];by_cases hij:i<=j
  ·cases k with
   | zero=>omega
   | succ k=>
   have h1:(i:Int)<=(j:Int):=by omega
   have hl:=fun p q hp L H d hF=>dc (hp:=hp) (L:=L) (H:=H) (d:=d) p q hF;have hlen:(prs W).length=2*n:=by rw [dL,hD]
   have r1:=cm W (i:=i) (by omega);have r0:=cm W (i:=a) (by omega);have h2:0<=((i:Nat):Int)/\((i:Nat):Int) < (n:Int):=by omega
   have h3:0<=(a:Int)/\(a:Int) < (n:Int):=by omega
   have s1:(i)*2+2<=2*n:=by omega
   have s0:a*2+2<=2*n:=by omega
   rw [Nat.mul_comm] at r1 r0;by_cases hlt:ltP W[i]! W[a]! = true
   ·have hc:eX W[i]! W[a]! < 0:=of_decide_eq_true hlt;obtain ⟨fr,ih,ih2⟩:=up4 hb hD hh he hn ha hj hF k (i+1) (by omega) (by omega);simp only [Int.natCast_add,Int.natCast_one] at ih;rw [if_pos (by show (decide (i<=j)&&ltP W[i]! W[a]!)=true;rw [hlt,decide_eq_true hij];rfl)];refine ⟨fr,?_,ih2⟩;simp only [aB] at ih ⊢;simp (disch:=first|exact dis|fail) only [sy,simprocAttr,-List.reduceReplicate,hF.all,h1,h2,h3,hb,hh,hlen,r1,r0,s1,s0,hl,hc,ih]
   ·have hc:¬ eX W[i]! W[a]! < 0:=fun h=>hlt (decide_eq_true h);replace hlt:ltP W[i]! W[a]! = false:=by simpa using hlt
    rw [if_neg (by show ¬ (decide (i<=j)&&ltP W[i]! W[a]!)=true;rw [hlt];simp)];simp only [aB];simp (disch:=first|exact dis|fail) only [sy,simprocAttr,-List.reduceReplicate,hF.all,h1,h2,h3,hb,hh,hlen,r1,r0,s1,s0,hl,hc];exact ⟨_,rfl,rfl,rfl,rfl,rfl,rfl⟩
  ·have h1:¬ (i:Int)<=(j:Int):=by omega
   rw [if_neg (by rw [decide_eq_false hij];simp)];simp (disch:=first|exact dis|fail) only [sy,simprocAttr,-List.reduceReplicate,hF.all,h1];exact ⟨_,rfl,rfl,rfl,rfl,rfl,rfl⟩
theorem WW{b g e n a i:Nat}{W:Array Pr}(hb:hp[b]?=some (.cells g true (prs W)))(hD:W.size=n)(hh:H.contains b=false)(he:e=0\/e=2)(hn:n<=100000)(ha:a < n)(hi:a < i)(hF:Fit hp.length L H):∀ (j:Nat),j < n->∃ fr,
  aG env wq [13,0,1,12,4] hp.length [(13,.int .i64 j),(0,.slice (some ⟨b,0,some g⟩) n e),(1,.int .i64 a),(12,.int .i64 i),(4,aB)] ⟨hp,L,H,[]⟩
   = some (.exit 2,fr,⟨hp,L,H,[]⟩)/\fr.get 12=some (.int .i64 i)/\fr.get 4=some (aB)/\fr.get 1=some (.int .i64 a)/\fr.get 0=some ((.slice (some ⟨b,0,some g⟩) n e))/\fr.get 13=some (.int .i64 (Go.Sort.scanDown (fun x=>!ltP x W[a]!) W i j:Nat))
 | 0,hj=>by
  have h1:¬ (i:Int)<=0:=by omega
  rw [ak wq.eq_1];simp only [Int.natCast_zero,Go.Sort.scanDown];simp (disch:=first|exact dis|fail) only [sy,simprocAttr,-List.reduceReplicate,hF.all,h1];exact ⟨_,rfl,rfl,rfl,rfl,rfl,rfl⟩
 | j+1,hj=>by
  rw [Go.Sort.scanDown,ak wq.eq_1];by_cases hij:i<=j+1
  ·have h1:(i:Int)<=((j+1:Nat):Int):=by omega
   have e1:((j+1:Nat):Int) - 1=(j:Int):=by omega
   have hl:=fun p q hp L H d hF=>dc (hp:=hp) (L:=L) (H:=H) (d:=d) p q hF;have hlen:(prs W).length=2*n:=by rw [dL,hD]
   have r1:=cm W (i:=j+1) (by omega);have r0:=cm W (i:=a) (by omega);have h2:0<=((j+1:Nat):Int)/\((j+1:Nat):Int) < (n:Int):=by omega
   have h3:0<=(a:Int)/\(a:Int) < (n:Int):=by omega
   have s1:(j+1)*2+2<=2*n:=by omega
   have s0:a*2+2<=2*n:=by omega
   rw [Nat.mul_comm] at r1 r0;by_cases hlt:ltP W[j+1]! W[a]! = true
   ·have hc:eX W[j+1]! W[a]! < 0:=of_decide_eq_true hlt;rw [if_neg (by show ¬ (decide (i<=j+1)&&!ltP W[j+1]! W[a]!)=true;rw [hlt];simp)];simp only [aB];simp (disch:=first|exact dis|fail) only [sy,simprocAttr,-List.reduceReplicate,hF.all,h1,h2,h3,e1,hb,hh,hlen,r1,r0,s1,s0,hl,hc];exact ⟨_,rfl,rfl,rfl,rfl,rfl,rfl⟩
   ·have hc:¬ eX W[j+1]! W[a]! < 0:=fun h=>hlt (decide_eq_true h);replace hlt:ltP W[j+1]! W[a]! = false:=by simpa using hlt
    obtain ⟨fr,ih,ih2⟩:=WW hb hD hh he hn ha hi hF j (by omega);rw [if_pos (by show (decide (i<=j+1)&&!ltP W[j+1]! W[a]!)=true;rw [hlt,decide_eq_true hij];rfl)];refine ⟨fr,?_,ih2⟩;simp only [aB] at ih ⊢;simp (disch:=first|exact dis|fail) only [sy,simprocAttr,-List.reduceReplicate,hF.all,h1,h2,h3,e1,hb,hh,hlen,r1,r0,s1,s0,hl,hc,ih]
  ·have h1:¬ (i:Int)<=((j+1:Nat):Int):=by omega
   rw [if_neg (by rw [decide_eq_false hij];simp)];simp (disch:=first|exact dis|fail) only [sy,simprocAttr,-List.reduceReplicate,hF.all,h1];exact ⟨_,rfl,rfl,rfl,rfl,rfl,rfl⟩
theorem up1{b g e n a j:Nat}{W:Array Pr}(hb:hp[b]?=some (.cells g true (prs W)))(hD:W.size=n)(hh:H.contains b=false)(he:e=0\/e=2)(hn:n<=100000)(ha:a < n)(hj:j < n)(hF:Fit hp.length L H):∀ (k i:Nat),j+1 - i<=k->i<=200000->∃ fr,
  aG env CX [12,4,1,0,13] hp.length [(12,.int .i64 i),(4,aB),(1,.int .i64 a),(0,.slice (some ⟨b,0,some g⟩) n e),(13,.int .i64 j)] ⟨hp,L,H,[]⟩
   = some (.exit 6,fr,⟨hp,L,H,[]⟩)/\fr.get 12=some (.int .i64 (Go.Sort.scanUp (fun x=>ltP x W[a]!) W j i:Nat))/\fr.get 4=some (aB)/\fr.get 1=some (.int .i64 a)/\fr.get 0=some ((.slice (some ⟨b,0,some g⟩) n e))/\fr.get 13=some (.int .i64 j)
 | k,i,hk,hi=>by
  rw [Go.Sort.scanUp,ak CX.eq_1];by_cases hij:i<=j
  ·cases k with
   | zero=>omega
   | succ k=>
   have h1:(i:Int)<=(j:Int):=by omega
   have hl:=fun p q hp L H d hF=>dc (hp:=hp) (L:=L) (H:=H) (d:=d) p q hF;have hlen:(prs W).length=2*n:=by rw [dL,hD]
   have r1:=cm W (i:=i) (by omega);have r0:=cm W (i:=a) (by omega);have h2:0<=((i:Nat):Int)/\((i:Nat):Int) < (n:Int):=by omega
   have h3:0<=(a:Int)/\(a:Int) < (n:Int):=by omega
   have s1:(i)*2+2<=2*n:=by omega
   have s0:a*2+2<=2*n:=by omega
   rw [Nat.mul_comm] at r1 r0;by_cases hlt:ltP W[i]! W[a]! = true
   ·have hc:eX W[i]! W[a]! < 0:=of_decide_eq_true hlt;obtain ⟨fr,ih,ih2⟩:=up1 hb hD hh he hn ha hj hF k (i+1) (by omega) (by omega);simp only [Int.natCast_add,Int.natCast_one] at ih;rw [if_pos (by show (decide (i<=j)&&ltP W[i]! W[a]!)=true;rw [hlt,decide_eq_true hij];rfl)];refine ⟨fr,?_,ih2⟩;simp only [aB] at ih ⊢;simp (disch:=first|exact dis|fail) only [sy,simprocAttr,-List.reduceReplicate,hF.all,h1,h2,h3,hb,hh,hlen,r1,r0,s1,s0,hl,hc,ih]
   ·have hc:¬ eX W[i]! W[a]! < 0:=fun h=>hlt (decide_eq_true h);replace hlt:ltP W[i]! W[a]! = false:=by simpa using hlt
    rw [if_neg (by show ¬ (decide (i<=j)&&ltP W[i]! W[a]!)=true;rw [hlt];simp)];simp only [aB];simp (disch:=first|exact dis|fail) only [sy,simprocAttr,-List.reduceReplicate,hF.all,h1,h2,h3,hb,hh,hlen,r1,r0,s1,s0,hl,hc];exact ⟨_,rfl,rfl,rfl,rfl,rfl,rfl⟩
  ·have h1:¬ (i:Int)<=(j:Int):=by omega
   rw [if_neg (by rw [decide_eq_false hij];simp)];simp (disch:=first|exact dis|fail) only [sy,simprocAttr,-List.reduceReplicate,hF.all,h1];exact ⟨_,rfl,rfl,rfl,rfl,rfl,rfl⟩
theorem WX{b g e n a i:Nat}{W:Array Pr}(hb:hp[b]?=some (.cells g true (prs W)))(hD:W.size=n)(hh:H.contains b=false)(he:e=0\/e=2)(hn:n<=100000)(ha:a < n)(hi:a < i)(hF:Fit hp.length L H):∀ (j:Nat),j < n->∃ fr,
  aG env wm [13,0,1,12,4] hp.length [(13,.int .i64 j),(0,.slice (some ⟨b,0,some g⟩) n e),(1,.int .i64 a),(12,.int .i64 i),(4,aB)] ⟨hp,L,H,[]⟩
   = some (.exit 8,fr,⟨hp,L,H,[]⟩)/\fr.get 12=some (.int .i64 i)/\fr.get 4=some (aB)/\fr.get 1=some (.int .i64 a)/\fr.get 0=some ((.slice (some ⟨b,0,some g⟩) n e))/\fr.get 13=some (.int .i64 (Go.Sort.scanDown (fun x=>!ltP x W[a]!) W i j:Nat))
 | 0,hj=>by
  have h1:¬ (i:Int)<=0:=by omega
  rw [ak wm.eq_1];simp only [Int.natCast_zero,Go.Sort.scanDown];simp (disch:=first|exact dis|fail) only [sy,simprocAttr,-List.reduceReplicate,hF.all,h1];exact ⟨_,rfl,rfl,rfl,rfl,rfl,rfl⟩
 | j+1,hj=>by
  rw [Go.Sort.scanDown,ak wm.eq_1];by_cases hij:i<=j+1
  ·have h1:(i:Int)<=((j+1:Nat):Int):=by omega
   have e1:((j+1:Nat):Int) - 1=(j:Int):=by omega
   have hl:=fun p q hp L H d hF=>dc (hp:=hp) (L:=L) (H:=H) (d:=d) p q hF;have hlen:(prs W).length=2*n:=by rw [dL,hD]
   have r1:=cm W (i:=j+1) (by omega);have r0:=cm W (i:=a) (by omega);have h2:0<=((j+1:Nat):Int)/\((j+1:Nat):Int) < (n:Int):=by omega
   have h3:0<=(a:Int)/\(a:Int) < (n:Int):=by omega
   have s1:(j+1)*2+2<=2*n:=by omega
   have s0:a*2+2<=2*n:=by omega
   rw [Nat.mul_comm] at r1 r0;by_cases hlt:ltP W[j+1]! W[a]! = true
   ·have hc:eX W[j+1]! W[a]! < 0:=of_decide_eq_true hlt;rw [if_neg (by show ¬ (decide (i<=j+1)&&!ltP W[j+1]! W[a]!)=true;rw [hlt];simp)];simp only [aB];simp (disch:=first|exact dis|fail) only [sy,simprocAttr,-List.reduceReplicate,hF.all,h1,h2,h3,e1,hb,hh,hlen,r1,r0,s1,s0,hl,hc];exact ⟨_,rfl,rfl,rfl,rfl,rfl,rfl⟩
   ·have hc:¬ eX W[j+1]! W[a]! < 0:=fun h=>hlt (decide_eq_true h);replace hlt:ltP W[j+1]! W[a]! = false:=by simpa using hlt
    obtain ⟨fr,ih,ih2⟩:=WX hb hD hh he hn ha hi hF j (by omega);rw [if_pos (by show (decide (i<=j+1)&&!ltP W[j+1]! W[a]!)=true;rw [hlt,decide_eq_true hij];rfl)];refine ⟨fr,?_,ih2⟩;simp only [aB] at ih ⊢;simp (disch:=first|exact dis|fail) only [sy,simprocAttr,-List.reduceReplicate,hF.all,h1,h2,h3,e1,hb,hh,hlen,r1,r0,s1,s0,hl,hc,ih]
  ·have h1:¬ (i:Int)<=((j+1:Nat):Int):=by omega
   rw [if_neg (by rw [decide_eq_false hij];simp)];simp (disch:=first|exact dis|fail) only [sy,simprocAttr,-List.reduceReplicate,hF.all,h1];exact ⟨_,rfl,rfl,rfl,rfl,rfl,rfl⟩
theorem abg{b g e n a j:Nat}{W:Array Pr}(hb:hp[b]?=some (.cells g true (prs W)))(hD:W.size=n)(hh:H.contains b=false)(he:e=0\/e=2)(hn:n<=100000)(ha:a < n)(hj:j < n)(hF:Fit hp.length L H):∀ (k i:Nat),j+1 - i<=k->i<=200000->∃ fr,
  aG env CW [11,0,1,4,12] hp.length [(11,.int .i64 i),(0,.slice (some ⟨b,0,some g⟩) n e),(1,.int .i64 a),(4,aB),(12,.int .i64 j)] ⟨hp,L,H,[]⟩
   = some (.exit 2,fr,⟨hp,L,H,[]⟩)/\fr.get 11=some (.int .i64 (Go.Sort.scanUp (fun x=>!ltP W[a]! x) W j i:Nat))/\fr.get 4=some (aB)/\fr.get 1=some (.int .i64 a)/\fr.get 0=some ((.slice (some ⟨b,0,some g⟩) n e))/\fr.get 12=some (.int .i64 j)
 | k,i,hk,hi=>by
  rw [Go.Sort.scanUp,ak CW.eq_1];by_cases hij:i<=j
  ·cases k with
   | zero=>omega
   | succ k=>
   have h1:(i:Int)<=(j:Int):=by omega
   have hl:=fun p q hp L H d hF=>dc (hp:=hp) (L:=L) (H:=H) (d:=d) p q hF;have hlen:(prs W).length=2*n:=by rw [dL,hD]
   have r1:=cm W (i:=i) (by omega);have r0:=cm W (i:=a) (by omega);have h2:0<=((i:Nat):Int)/\((i:Nat):Int) < (n:Int):=by omega
   have h3:0<=(a:Int)/\(a:Int) < (n:Int):=by omega
   have s1:(i)*2+2<=2*n:=by omega
   have s0:a*2+2<=2*n:=by omega
   rw [Nat.mul_comm] at r1 r0;by_cases hlt:ltP W[a]! W[i]! = true
   ·have hc:eX W[a]! W[i]! < 0:=of_decide_eq_true hlt;rw [if_neg (by show ¬ (decide (i<=j)&&!ltP W[a]! W[i]!)=true;rw [hlt];simp)];simp only [aB];simp (disch:=first|exact dis|fail) only [sy,simprocAttr,-List.reduceReplicate,hF.all,h1,h2,h3,hb,hh,hlen,r1,r0,s1,s0,hl,hc];exact ⟨_,rfl,rfl,rfl,rfl,rfl,rfl⟩
   ·have hc:¬ eX W[a]! W[i]! < 0:=fun h=>hlt (decide_eq_true h);replace hlt:ltP W[a]! W[i]! = false:=by simpa using hlt
    obtain ⟨fr,ih,ih2⟩:=abg hb hD hh he hn ha hj hF k (i+1) (by omega) (by omega);simp only [Int.natCast_add,Int.natCast_one] at ih;rw [if_pos (by show (decide (i<=j)&&!ltP W[a]! W[i]!)=true;rw [hlt,decide_eq_true hij];rfl)];refine ⟨fr,?_,ih2⟩;simp only [aB] at ih ⊢;simp (disch:=first|exact dis|fail) only [sy,simprocAttr,-List.reduceReplicate,hF.all,h1,h2,h3,hb,hh,hlen,r1,r0,s1,s0,hl,hc,ih]
  ·have h1:¬ (i:Int)<=(j:Int):=by omega
   rw [if_neg (by rw [decide_eq_false hij];simp)];simp (disch:=first|exact dis|fail) only [sy,simprocAttr,-List.reduceReplicate,hF.all,h1];exact ⟨_,rfl,rfl,rfl,rfl,rfl,rfl⟩
theorem Sc{b g e n a i:Nat}{W:Array Pr}(hb:hp[b]?=some (.cells g true (prs W)))(hD:W.size=n)(hh:H.contains b=false)(he:e=0\/e=2)(hn:n<=100000)(ha:a < n)(hi:a < i)(hF:Fit hp.length L H):∀ (j:Nat),j < n->∃ fr,
  aG env wj [12,11,4,1,0] hp.length [(12,.int .i64 j),(11,.int .i64 i),(4,aB),(1,.int .i64 a),(0,.slice (some ⟨b,0,some g⟩) n e)] ⟨hp,L,H,[]⟩
   = some (.exit 4,fr,⟨hp,L,H,[]⟩)/\fr.get 11=some (.int .i64 i)/\fr.get 4=some (aB)/\fr.get 1=some (.int .i64 a)/\fr.get 0=some ((.slice (some ⟨b,0,some g⟩) n e))/\fr.get 12=some (.int .i64 (Go.Sort.scanDown (fun x=>ltP W[a]! x) W i j:Nat))
 | 0,hj=>by
  have h1:¬ (i:Int)<=0:=by omega
  rw [ak wj.eq_1];simp only [Int.natCast_zero,Go.Sort.scanDown];simp (disch:=first|exact dis|fail) only [sy,simprocAttr,-List.reduceReplicate,hF.all,h1];exact ⟨_,rfl,rfl,rfl,rfl,rfl,rfl⟩
 | j+1,hj=>by
  rw [Go.Sort.scanDown,ak wj.eq_1];by_cases hij:i<=j+1
  ·have h1:(i:Int)<=((j+1:Nat):Int):=by omega
   have e1:((j+1:Nat):Int) - 1=(j:Int):=by omega
   have hl:=fun p q hp L H d hF=>dc (hp:=hp) (L:=L) (H:=H) (d:=d) p q hF;have hlen:(prs W).length=2*n:=by rw [dL,hD]
   have r1:=cm W (i:=j+1) (by omega);have r0:=cm W (i:=a) (by omega);have h2:0<=((j+1:Nat):Int)/\((j+1:Nat):Int) < (n:Int):=by omega
   have h3:0<=(a:Int)/\(a:Int) < (n:Int):=by omega
   have s1:(j+1)*2+2<=2*n:=by omega
   have s0:a*2+2<=2*n:=by omega
   rw [Nat.mul_comm] at r1 r0;by_cases hlt:ltP W[a]! W[j+1]! = true
   ·have hc:eX W[a]! W[j+1]! < 0:=of_decide_eq_true hlt;obtain ⟨fr,ih,ih2⟩:=Sc hb hD hh he hn ha hi hF j (by omega);rw [if_pos (by show (decide (i<=j+1)&&ltP W[a]! W[j+1]!)=true;rw [hlt,decide_eq_true hij];rfl)];refine ⟨fr,?_,ih2⟩;simp only [aB] at ih ⊢;simp (disch:=first|exact dis|fail) only [sy,simprocAttr,-List.reduceReplicate,hF.all,h1,h2,h3,e1,hb,hh,hlen,r1,r0,s1,s0,hl,hc,ih]
   ·have hc:¬ eX W[a]! W[j+1]! < 0:=fun h=>hlt (decide_eq_true h);replace hlt:ltP W[a]! W[j+1]! = false:=by simpa using hlt
    rw [if_neg (by show ¬ (decide (i<=j+1)&&ltP W[a]! W[j+1]!)=true;rw [hlt];simp)];simp only [aB];simp (disch:=first|exact dis|fail) only [sy,simprocAttr,-List.reduceReplicate,hF.all,h1,h2,h3,e1,hb,hh,hlen,r1,r0,s1,s0,hl,hc];exact ⟨_,rfl,rfl,rfl,rfl,rfl,rfl⟩
  ·have h1:¬ (i:Int)<=((j+1:Nat):Int):=by omega
   rw [if_neg (by rw [decide_eq_false hij];simp)];simp (disch:=first|exact dis|fail) only [sy,simprocAttr,-List.reduceReplicate,hF.all,h1];exact ⟨_,rfl,rfl,rfl,rfl,rfl,rfl⟩
end
end TtK
namespace TtL
open Go Go.RowKit AM aE LtA SyP TmM TsA TsB TsE TsI TsJ TtA TtB TtC TtD TtE TtF TtG TtH TtI TtJ TtK Bt
section
variable{hp:List Blk}{L:Nat}{H d:List Nat}
theorem cF{n x y:Nat}{W:Array Pr}(hD:W.size=n)(hx:x < n)(hy:y < n) :
  ((prs W).drop (x*2)).take 2=[.int .i64 W[x]!.1,.int .i64 W[x]!.2]/\((prs W).drop (y*2)).take 2=[.int .i64 W[y]!.1,.int .i64 W[y]!.2]/\(0<=(x:Int)/\(x:Int) < (n:Int))/\(0<=(y:Int)/\(y:Int) < (n:Int))/\x*2+2<=2*n/\y*2+2<=2*n
  /\ (prs W).length=2*n:=by have r1:=cm W (i:=x) (by omega);have r0:=cm W (i:=y) (by omega);rw [Nat.mul_comm] at r1 r0;exact ⟨r1,r0,by omega,by omega,by omega,by omega,by rw [dL,hD]⟩
theorem eK{n x y:Nat}{W:Array Pr}(hD:W.size=n)(hx:x < n)(hy:y < n):putAt (putAt (prs W) (x*2) [.int .i64 W[y]!.1,.int .i64 W[y]!.2]) (y*2) [.int .i64 W[x]!.1,.int .i64 W[x]!.2]=prs (Go.Sort.swp W x y):=by have:=o7 W (i:=x) (j:=y) (by omega) (by omega);rwa [Nat.mul_comm 2 x,Nat.mul_comm 2 y] at this
theorem uT(a:Nat):∀ (k i j:Nat) (W:Array Pr),j+1 - i<=k->(Go.Sort.partLoop ltP a i j W).1<=j
 | k,i,j,W,h=>by
  rw [Go.Sort.partLoop_eq];have h2:=Go.Sort.scanDown_le (fun x=>!ltP x W[a]!) W (Go.Sort.scanUp (fun x=>ltP x W[a]!) W j i) j;split
  ·exact h2
  ·rename_i hc;have g:=Go.Sort.partLoop_guard ltP a i j W hc;cases k with
   | zero=>omega
   | succ k=>
    have:=uT a k _ _ (Go.Sort.swp W (Go.Sort.scanUp (fun x=>ltP x W[a]!) W j i) (Go.Sort.scanDown (fun x=>!ltP x W[a]!) W (Go.Sort.scanUp (fun x=>ltP x W[a]!) W j i) j)) (Nat.le_of_lt_succ (Nat.lt_of_lt_of_le g h));omega
theorem Bb{b g e a n:Nat}(hb:b < hp.length)(hL:L<=b)(hh:H.contains b=false)(he:e=0\/e=2)(hn:n<=100000)(ha:a < n)(hF:Fit hp.length L H):∀ (k i j:Nat) (W:Array Pr),W.size=n->j+1 - i<=k->a < i->i<=n+1->j < n->∃ fr,
  aG env wo [12,4,1,0,13] hp.length [(12,.int .i64 i),(4,aB),(1,.int .i64 a),(0,.slice (some ⟨b,0,some g⟩) n e),(13,.int .i64 j)] ⟨hp.set b (.cells g true (prs W)),L,H,[]⟩
   = some (.exit 4,fr,⟨hp.set b (.cells g true (prs (Go.Sort.partLoop ltP a i j W).2)),L,H,[]⟩)/\fr.get 13=some (.int .i64 ((Go.Sort.partLoop ltP a i j W).1:Nat))/\fr.get 0=some (.slice (some ⟨b,0,some g⟩) n e)/\fr.get 1=some (.int .i64 a)
 | k,i,j,W,hD,hk,hai,hin,hj=>by
  have hg1:∀ B:Blk,(hp.set b B)[b]?=some B:=fun B=>List.getElem?_set_self hb;have hss:∀ A B:Blk,(hp.set b A).set b B=hp.set b B:=fun A B=>List.set_set ..;have hnl:¬ b < L:=by omega
  have hl2:∀ B:Blk,(hp.set b B).length=hp.length:=fun B=>List.length_set ..;have G:=Go.Sort.partLoop_guard ltP a i j W;rw [Go.Sort.partLoop_eq];obtain ⟨fu,u0,u1,u2,u3,u4,u5⟩:=up1 (hp:=hp.set b (.cells g true (prs W))) (L:=L) (H:=H) (g:=g) (e:=e) (a:=a) (j:=j) (hg1 _) hD hh he hn ha hj (by rw [hl2];exact hF) (j+1 - i) i (Nat.le_refl _) (by omega);have hge:=Go.Sort.scanUp_ge (fun x=>ltP x W[a]!) W j i;generalize Go.Sort.scanUp (fun x=>ltP x W[a]!) W j i=i2 at *;obtain ⟨fd,d0,d1,d2,d3,d4,d5⟩:=WX (hp:=hp.set b (.cells g true (prs W))) (L:=L) (H:=H) (g:=g) (e:=e) (a:=a) (i:=i2) (hg1 _) hD hh he hn ha (by omega) (by rw [hl2];exact hF) j hj;have hle:=Go.Sort.scanDown_le (fun x=>!ltP x W[a]!) W i2 j;generalize Go.Sort.scanDown (fun x=>!ltP x W[a]!) W i2 j=j2 at *;simp only [hl2,aB] at u0 u2 d0 d2 ⊢;by_cases hij:i2 > j2
  ·have h1:(i2:Int) > (j2:Int):=by omega
   rw [if_pos hij,ak wo.eq_1];simp (disch:=first|exact dis|fail) only [sy,simprocAttr,-List.reduceReplicate,hF.all,u0,u1,u2,u3,u4,u5,d0,d1,d2,d3,d4,d5,h1];exact ⟨_,rfl,by assumption,by assumption,by assumption⟩
  ·have h1:¬ (i2:Int) > (j2:Int):=by omega
   replace G:=G hij;cases k with
   | zero=>omega
   | succ k=>
    obtain ⟨fr,ih,ih2⟩:=Bb (g:=g) (e:=e) hb hL hh he hn ha hF k (i2+1) (j2 - 1) (Go.Sort.swp W i2 j2) (by rw [swp_size,hD]) (by omega) (by omega) (by omega) (by omega);obtain ⟨w1,w2,w3,w4,w5,w6,w7⟩:=cF hD (x:=i2) (y:=j2) (by omega) (by omega);have sw:=eK hD (x:=i2) (y:=j2) (by omega) (by omega);simp only [putAt] at sw;have e1:(j2:Int) - 1=((j2 - 1:Nat):Int):=by omega
    rw [if_neg hij,ak wo.eq_1];refine ⟨fr,?_,ih2⟩;simp only [Int.natCast_add,Int.natCast_one,aB] at ih;simp (disch:=first|exact dis|fail) only [sy,simprocAttr,-List.reduceReplicate,hF.all,u0,u1,u2,u3,u4,u5,d0,d1,d2,d3,d4,d5,h1,e1,hg1,hss,hh,hnl,w1,w2,w3,w4,w5,w6,w7,sw,ih]
theorem uU{b g e a n:Nat}(hb:b < hp.length)(hL:L<=b)(hh:H.contains b=false)(he:e=0\/e=2)(hn:n<=100000)(ha:a < n)(hF:Fit hp.length L H):∀ (k i j:Nat) (W:Array Pr),W.size=n->j+1 - i<=k->a < i->i<=n+1->j < n->∃ fr,
  aG env wk [11,4,1,0,12] hp.length [(11,.int .i64 i),(4,aB),(1,.int .i64 a),(0,.slice (some ⟨b,0,some g⟩) n e),(12,.int .i64 j)] ⟨hp.set b (.cells g true (prs W)),L,H,[]⟩
   = some (.exit 0,fr,⟨hp.set b (.cells g true (prs (Go.Sort.partEqLoop ltP a i j W).2)),L,H,[]⟩)/\fr.get 11=some (.int .i64 ((Go.Sort.partEqLoop ltP a i j W).1:Nat))/\fr.get 0=some (.slice (some ⟨b,0,some g⟩) n e)/\fr.get 1=some (.int .i64 a)
 | k,i,j,W,hD,hk,hai,hin,hj=>by
  have hg1:∀ B:Blk,(hp.set b B)[b]?=some B:=fun B=>List.getElem?_set_self hb;have hss:∀ A B:Blk,(hp.set b A).set b B=hp.set b B:=fun A B=>List.set_set ..;have hnl:¬ b < L:=by omega
  have hl2:∀ B:Blk,(hp.set b B).length=hp.length:=fun B=>List.length_set ..;have G:=Go.Sort.partEqLoop_guard ltP a i j W;rw [Go.Sort.partEqLoop_eq];obtain ⟨fu,u0,u1,u2,u3,u4,u5⟩:=abg (hp:=hp.set b (.cells g true (prs W))) (L:=L) (H:=H) (g:=g) (e:=e) (a:=a) (j:=j) (hg1 _) hD hh he hn ha hj (by rw [hl2];exact hF) (j+1 - i) i (Nat.le_refl _) (by omega);have hge:=Go.Sort.scanUp_ge (fun x=>!ltP W[a]! x) W j i;generalize Go.Sort.scanUp (fun x=>!ltP W[a]! x) W j i=i2 at *;obtain ⟨fd,d0,d1,d2,d3,d4,d5⟩:=Sc (hp:=hp.set b (.cells g true (prs W))) (L:=L) (H:=H) (g:=g) (e:=e) (a:=a) (i:=i2) (hg1 _) hD hh he hn ha (by omega) (by rw [hl2];exact hF) j hj;have hle:=Go.Sort.scanDown_le (fun x=>ltP W[a]! x) W i2 j;generalize Go.Sort.scanDown (fun x=>ltP W[a]! x) W i2 j=j2 at *;simp only [hl2,aB] at u0 u2 d0 d2 ⊢;by_cases hij:i2 > j2
  ·have h1:(i2:Int) > (j2:Int):=by omega
   rw [if_pos hij,ak wk.eq_1];simp (disch:=first|exact dis|fail) only [sy,simprocAttr,-List.reduceReplicate,hF.all,u0,u1,u2,u3,u4,u5,d0,d1,d2,d3,d4,d5,h1];exact ⟨_,rfl,by assumption,by assumption,by assumption⟩
  ·have h1:¬ (i2:Int) > (j2:Int):=by omega
   replace G:=G hij;cases k with
   | zero=>omega
   | succ k=>
    obtain ⟨fr,ih,ih2⟩:=uU (g:=g) (e:=e) hb hL hh he hn ha hF k (i2+1) (j2 - 1) (Go.Sort.swp W i2 j2) (by rw [swp_size,hD]) (by omega) (by omega) (by omega) (by omega);obtain ⟨w1,w2,w3,w4,w5,w6,w7⟩:=cF hD (x:=i2) (y:=j2) (by omega) (by omega);have sw:=eK hD (x:=i2) (y:=j2) (by omega) (by omega);simp only [putAt] at sw;have e1:(j2:Int) - 1=((j2 - 1:Nat):Int):=by omega
    rw [if_neg hij,ak wk.eq_1];refine ⟨fr,?_,ih2⟩;simp only [Int.natCast_add,Int.natCast_one,aB] at ih;simp (disch:=first|exact dis|fail) only [sy,simprocAttr,-List.reduceReplicate,hF.all,u0,u1,u2,u3,u4,u5,d0,d1,d2,d3,d4,d5,h1,e1,hg1,hss,hh,hnl,w1,w2,w3,w4,w5,w6,w7,sw,ih]
theorem Gb{b g e n a be pv:Nat}{W:Array Pr}(hb:hp[b]?=some (.cells g true (prs W)))(hD:W.size=n)(hL:L<=b)(hh:H.contains b=false)(he:e=0\/e=2)(hn:n<=100000)(hab:a < be)(hbe:be<=n)(hp2:pv < be)(hF:Fit hp.length L H) :
  aN env (.func 275) [.slice (some ⟨b,0,some g⟩) n e,.int .i64 a,.int .i64 be,.int .i64 pv,aB] ⟨hp,L,H,d⟩=some (.int .i64 ((Go.Sort.partitionEqual ltP W a be pv).1:Nat),⟨hp.set b (.cells g true (prs (Go.Sort.partitionEqual ltP W a be pv).2)),L,H,d⟩):=by
 rw [av 275 _ _ aaZ];have hbl:=(List.getElem?_eq_some_iff.1 hb).1;have hg1:∀ B:Blk,(hp.set b B)[b]?=some B:=fun B=>List.getElem?_set_self hbl;have hss:∀ A B:Blk,(hp.set b A).set b B=hp.set b B:=fun A B=>List.set_set ..;have hnl:¬ b < L:=by omega
 obtain ⟨w1,w2,w3,w4,w5,w6,w7⟩:=cF hD (x:=a) (y:=pv) (by omega) (by omega);have sw:=eK hD (x:=a) (y:=pv) (by omega) (by omega);simp only [putAt] at sw;have e1:(be:Int) - 1=((be - 1:Nat):Int):=by omega
 obtain ⟨fr,l0,l1,l2⟩:=uU (hp:=hp) (L:=L) (H:=H) (g:=g) (e:=e) (a:=a) hbl hL hh he hn (by omega) hF (be - 1+1 - (a+1)) (a+1) (be - 1) (Go.Sort.swp W a pv) (by rw [swp_size,hD]) (Nat.le_refl _) (by omega) (by omega) (by omega);unfold Go.Sort.partitionEqual;simp only [Int.natCast_add,Int.natCast_one,aB] at l0 ⊢;simp (disch:=first|exact dis|fail) only [sy,simprocAttr,-List.reduceReplicate,hF.all,RP,hb,hg1,hss,hh,hnl,w1,w2,w3,w4,w5,w6,w7,sw,e1,l0,l1]
theorem gF{b g e n a be pv:Nat}{W:Array Pr}(hb:hp[b]?=some (.cells g true (prs W)))(hD:W.size=n)(hL:L<=b)(hh:H.contains b=false)(he:e=0\/e=2)(hn:n<=100000)(hab:a < be)(hbe:be<=n)(hp2:pv < be)(hF:Fit hp.length L H) :
  aN env (.func 276) [.slice (some ⟨b,0,some g⟩) n e,.int .i64 a,.int .i64 be,.int .i64 pv,aB] ⟨hp,L,H,d⟩=some (.tuple #[.int .i64 ((Go.Sort.partition ltP W a be pv).1:Nat),.bool (Go.Sort.partition ltP W a be pv).2.1],⟨hp.set b (.cells g true (prs (Go.Sort.partition ltP W a be pv).2.2)),L,H,d⟩):=by
 rw [av 276 _ _ aa0];have hbl:=(List.getElem?_eq_some_iff.1 hb).1;have hg1:∀ B:Blk,(hp.set b B)[b]?=some B:=fun B=>List.getElem?_set_self hbl;have hss:∀ A B:Blk,(hp.set b A).set b B=hp.set b B:=fun A B=>List.set_set ..;have hl2:∀ B:Blk,(hp.set b B).length=hp.length:=fun B=>List.length_set ..;have hnl:¬ b < L:=by omega
 obtain ⟨w1,w2,w3,w4,w5,w6,w7⟩:=cF hD (x:=a) (y:=pv) (by omega) (by omega);have sw:=eK hD (x:=a) (y:=pv) (by omega) (by omega);simp only [putAt] at sw;have e1:(be:Int) - 1=((be - 1:Nat):Int):=by omega
 unfold Go.Sort.partition;simp only;have hD1:(Go.Sort.swp W a pv).size=n:=by rw [swp_size,hD]
 generalize Go.Sort.swp W a pv=W1 at *;obtain ⟨fu,u0,u1,u2,u3,u4,u5⟩:=up4 (hp:=hp.set b (.cells g true (prs W1))) (L:=L) (H:=H) (g:=g) (e:=e) (a:=a) (j:=be - 1) (hg1 _) hD1 hh he hn (by omega) (by omega) (by rw [hl2];exact hF) (be - 1+1 - (a+1)) (a+1) (Nat.le_refl _) (by omega);have hge:=Go.Sort.scanUp_ge (fun x=>ltP x W1[a]!) W1 (be - 1) (a+1);generalize Go.Sort.scanUp (fun x=>ltP x W1[a]!) W1 (be - 1) (a+1)=i2 at *;obtain ⟨fd,d0,d1,d2,d3,d4,d5⟩:=WW (hp:=hp.set b (.cells g true (prs W1))) (L:=L) (H:=H) (g:=g) (e:=e) (a:=a) (i:=i2) (hg1 _) hD1 hh he hn (by omega) (by omega) (by rw [hl2];exact hF) (be - 1) (by omega);have hle:=Go.Sort.scanDown_le (fun x=>!ltP x W1[a]!) W1 i2 (be - 1);generalize Go.Sort.scanDown (fun x=>!ltP x W1[a]!) W1 i2 (be - 1)=j2 at *;by_cases hij:i2 > j2
 ·have h1:(i2:Int) > (j2:Int):=by omega
  obtain ⟨x1,x2,x3,x4,x5,x6,x7⟩:=cF hD1 (x:=j2) (y:=a) (by omega) (by omega);have sx:=eK hD1 (x:=j2) (y:=a) (by omega) (by omega);simp only [putAt] at sx;rw [if_pos hij];simp only [Int.natCast_add,Int.natCast_one,hl2,aB] at u0 u2 d0 d2 ⊢;simp (disch:=first|exact dis|fail) only [sy,simprocAttr,-List.reduceReplicate,hF.all,Lb,hb,hg1,hss,hh,hnl,w1,w2,w3,w4,w5,w6,w7,sw,e1,u0,u1,u2,u3,u4,u5,d0,d1,d2,d3,d4,d5,h1,x1,x2,x3,x4,x5,x6,x7,sx]
 ·have h1:¬ (i2:Int) > (j2:Int):=by omega
  obtain ⟨x1,x2,x3,x4,x5,x6,x7⟩:=cF hD1 (x:=i2) (y:=j2) (by omega) (by omega);have sx:=eK hD1 (x:=i2) (y:=j2) (by omega) (by omega);simp only [putAt] at sx;rw [if_neg hij];have hD2:(Go.Sort.swp W1 i2 j2).size=n:=by rw [swp_size,hD1]
  generalize Go.Sort.swp W1 i2 j2=W2 at *;have e2:(j2:Int) - 1=((j2 - 1:Nat):Int):=by omega
  obtain ⟨fr,l0,l1,l2,l3⟩:=Bb (hp:=hp) (L:=L) (H:=H) (g:=g) (e:=e) (a:=a) hbl hL hh he hn (by omega) hF (j2 - 1+1 - (i2+1)) (i2+1) (j2 - 1) W2 hD2 (Nat.le_refl _) (by omega) (by omega) (by omega);have hm:=uT a (j2 - 1+1 - (i2+1)) (i2+1) (j2 - 1) W2 (Nat.le_refl _);have hD3:(Go.Sort.partLoop ltP a (i2+1) (j2 - 1) W2).2.size=n:=by rw [pZ a _ _ _ _ (Nat.le_refl _),hD2]
  generalize Go.Sort.partLoop ltP a (i2+1) (j2 - 1) W2=R at *;obtain ⟨m,W3⟩:=R;simp only at hm hD3 l0 l1 ⊢;obtain ⟨y1,y2,y3,y4,y5,y6,y7⟩:=cF hD3 (x:=m) (y:=a) (by omega) (by omega);have syy:=eK hD3 (x:=m) (y:=a) (by omega) (by omega);simp only [putAt] at syy;simp only [Int.natCast_add,Int.natCast_one,hl2,aB] at l0 u0 u2 d0 d2 ⊢;simp (disch:=first|exact dis|fail) only [sy,simprocAttr,-List.reduceReplicate,hF.all,Lb,hb,hg1,hss,hh,hnl,w1,w2,w3,w4,w5,w6,w7,sw,e1,e2,u0,u1,u2,u3,u4,u5,d0,d1,d2,d3,d4,d5,h1,x1,x2,x3,x4,x5,x6,x7,sx,l0,l1,l2,l3,y1,y2,y3,y4,y5,y6,y7,syy]
end
end TtL
namespace TtM
open Go Go.RowKit AM aE LtA SyP TmM TsA TsB TsE TsI TsJ TtA TtB TtC TtD TtE TtF TtG TtH TtI TtJ TtK TtL Bt
section
variable{hp:List Blk}{L:Nat}{H d:List Nat}
theorem uV{b g e n a be t:Nat}{W:Array Pr}(hb:hp[b]?=some (.cells g true (prs W)))(hD:W.size=n)(hh:H.contains b=false)(he:e=0\/e=2)(hn:n<=100000)(hbe:be<=n)(hF:Fit hp.length L H):∀ (k i:Nat),be - i<=k->1<=i->i<=200000->∃ fr,
  aG env CV [9,2,3,0,1,10] hp.length [(9,.int .i64 i),(2,.int .i64 be),(3,aB),(0,.slice (some ⟨b,0,some g⟩) n e),(1,.int .i64 a),(10,.int .i64 t)] ⟨hp,L,H,[]⟩
   = some (.exit 2,fr,⟨hp,L,H,[]⟩)/\fr.get 9=some (.int .i64 (Go.Sort.scanSorted ltP W be i:Nat))/\fr.get 2=some (.int .i64 be)/\fr.get 3=some aB/\fr.get 0=some (.slice (some ⟨b,0,some g⟩) n e)/\fr.get 1=some (.int .i64 a)/\fr.get 10=some (.int .i64 t)
 | k,i,hk,hi,hi2=>by
  rw [Go.Sort.scanSorted,ak CV.eq_1];by_cases hij:i < be
  ·cases k with
   | zero=>omega
   | succ k=>
   have h1:(i:Int) < (be:Int):=by omega
   have hl:=fun p q hp L H d hF=>dc (hp:=hp) (L:=L) (H:=H) (d:=d) p q hF;have hlen:(prs W).length=2*n:=by rw [dL,hD]
   have r1:=cm W (i:=i) (by omega);have r0:=cm W (i:=i - 1) (by omega);have e1:(i:Int) - 1=((i - 1:Nat):Int):=by omega
   have h2:0<=(i:Int)/\(i:Int) < (n:Int):=by omega
   have h3:0<=((i - 1:Nat):Int)/\((i - 1:Nat):Int) < (n:Int):=by omega
   have s1:i*2+2<=2*n:=by omega
   have s0:(i - 1)*2+2<=2*n:=by omega
   rw [Nat.mul_comm] at r1 r0;by_cases hlt:ltP W[i]! W[i - 1]! = true
   ·have hc:eX W[i]! W[i - 1]! < 0:=of_decide_eq_true hlt;rw [if_neg (by rw [hlt];simp)];simp only [aB];simp (disch:=first|exact dis|fail) only [sy,simprocAttr,-List.reduceReplicate,hF.all,h1,h2,h3,e1,hb,hh,hlen,r1,r0,s1,s0,hl,hc];exact ⟨_,rfl,rfl,rfl,rfl,rfl,rfl,rfl⟩
   ·have hc:¬ eX W[i]! W[i - 1]! < 0:=fun h=>hlt (decide_eq_true h);replace hlt:ltP W[i]! W[i - 1]! = false:=by simpa using hlt
    obtain ⟨fr,ih,ih2⟩:=uV (a:=a) (t:=t) hb hD hh he hn hbe hF k (i+1) (by omega) (by omega) (by omega);simp only [Int.natCast_add,Int.natCast_one] at ih;rw [if_pos (by rw [hlt,decide_eq_true hij];rfl)];refine ⟨fr,?_,ih2⟩;simp only [aB] at ih ⊢;simp (disch:=first|exact dis|fail) only [sy,simprocAttr,-List.reduceReplicate,hF.all,h1,h2,h3,e1,hb,hh,hlen,r1,r0,s1,s0,hl,hc,ih]
  ·have h1:¬ (i:Int) < (be:Int):=by omega
   rw [if_neg (by rw [decide_eq_false hij];simp)];simp (disch:=first|exact dis|fail) only [sy,simprocAttr,-List.reduceReplicate,hF.all,h1];exact ⟨_,rfl,rfl,rfl,rfl,rfl,rfl,rfl⟩
theorem yC{b g e n a be t i:Nat}(hb:b < hp.length)(hL:L<=b)(hh:H.contains b=false)(he:e=0\/e=2)(hn:n<=100000)(hF:Fit hp.length L H):∀ (j:Nat) (W:Array Pr),W.size=n->j < n->∃ fr,
  aG env wg [11,10,9,1,0,3,2] hp.length [(11,.int .i64 j),(10,.int .i64 t),(9,.int .i64 i),(1,.int .i64 a),(0,.slice (some ⟨b,0,some g⟩) n e),(3,aB),(2,.int .i64 be)] ⟨hp.set b (.cells g true (prs W)),L,H,[]⟩
   = some (.exit 4,fr,⟨hp.set b (.cells g true (prs (Go.Sort.shiftDown ltP j W))),L,H,[]⟩)/\fr.get 10=some (.int .i64 t)/\fr.get 9=some (.int .i64 i)/\fr.get 1=some (.int .i64 a)/\fr.get 0=some (.slice (some ⟨b,0,some g⟩) n e)/\fr.get 3=some aB/\fr.get 2=some (.int .i64 be)
 | 0,W,hD,hj=>by
  rw [Go.Sort.shiftDown,ak wg.eq_1];simp only [Int.natCast_zero];simp (disch:=first|exact dis|fail) only [sy,simprocAttr,-List.reduceReplicate,hF.all,hb];exact ⟨_,rfl,rfl,rfl,rfl,rfl,rfl,rfl⟩
 | j+1,W,hD,hj=>by
  rw [Go.Sort.shiftDown,ak wg.eq_1];have hl:=fun p q hp L H d hF=>dc (hp:=hp) (L:=L) (H:=H) (d:=d) p q hF;have hg1:∀ B:Blk,(hp.set b B)[b]?=some B:=fun B=>List.getElem?_set_self hb;have hss:∀ A B:Blk,(hp.set b A).set b B=hp.set b B:=fun A B=>List.set_set ..;have hnl:¬ b < L:=by omega
  have h1:((j+1:Nat):Int)>=1:=by omega
  have e1:((j+1:Nat):Int) - 1=(j:Int):=by omega
  obtain ⟨w1,w2,w3,w4,w5,w6,w7⟩:=cF hD (x:=j+1) (y:=j) (by omega) (by omega);by_cases hlt:ltP W[j+1]! W[j]! = true
  ·have hc:eX W[j+1]! W[j]! < 0:=of_decide_eq_true hlt;have sw:=eK hD (x:=j+1) (y:=j) (by omega) (by omega);simp only [putAt] at sw;obtain ⟨fr,ih,ih2⟩:=yC (b:=b) (g:=g) (e:=e) (a:=a) (be:=be) (t:=t) (i:=i) hb hL hh he hn hF j (Go.Sort.swp W (j+1) j) (by rw [swp_size,hD]) (by omega);rw [if_neg (by rw [hlt];simp)];refine ⟨fr,?_,ih2⟩;simp only [aB] at ih ⊢;simp (disch:=first|exact dis|fail) only [sy,simprocAttr,-List.reduceReplicate,hF.all,h1,e1,hg1,hss,hh,hnl,w1,w2,w3,w4,w5,w6,w7,hl,hc,sw,ih]
  ·have hc:¬ eX W[j+1]! W[j]! < 0:=fun h=>hlt (decide_eq_true h);rw [if_pos (by simpa using hlt)];simp only [aB];simp (disch:=first|exact dis|fail) only [sy,simprocAttr,-List.reduceReplicate,hF.all,h1,e1,hg1,hss,hh,hnl,w1,w2,w3,w4,w5,w6,w7,hl,hc];exact ⟨_,rfl,rfl,rfl,rfl,rfl,rfl,rfl⟩
theorem yD{b g e n a be t i:Nat}(hb:b < hp.length)(hL:L<=b)(hh:H.contains b=false)(he:e=0\/e=2)(hn:n<=100000)(hbe:be<=n)(hF:Fit hp.length L H):∀ (k j:Nat) (W:Array Pr),W.size=n->be - j<=k->1<=j->j<=200000->∃ fr,
  aG env CU [12,10,9,1,0,3,2] hp.length [(12,.int .i64 j),(10,.int .i64 t),(9,.int .i64 i),(1,.int .i64 a),(0,.slice (some ⟨b,0,some g⟩) n e),(3,aB),(2,.int .i64 be)] ⟨hp.set b (.cells g true (prs W)),L,H,[]⟩
   = some (.exit 6,fr,⟨hp.set b (.cells g true (prs (Go.Sort.shiftUp ltP be j W))),L,H,[]⟩)/\fr.get 10=some (.int .i64 t)/\fr.get 9=some (.int .i64 i)/\fr.get 1=some (.int .i64 a)/\fr.get 0=some (.slice (some ⟨b,0,some g⟩) n e)/\fr.get 3=some aB/\fr.get 2=some (.int .i64 be)
 | k,j,W,hD,hk,hj,hj2=>by
  rw [Go.Sort.shiftUp,ak CU.eq_1];by_cases hij:j < be
  ·cases k with
   | zero=>omega
   | succ k=>
    have hl:=fun p q hp L H d hF=>dc (hp:=hp) (L:=L) (H:=H) (d:=d) p q hF;have hg1:∀ B:Blk,(hp.set b B)[b]?=some B:=fun B=>List.getElem?_set_self hb;have hss:∀ A B:Blk,(hp.set b A).set b B=hp.set b B:=fun A B=>List.set_set ..;have hnl:¬ b < L:=by omega
    have h1:(j:Int) < (be:Int):=by omega
    have e1:(j:Int) - 1=((j - 1:Nat):Int):=by omega
    obtain ⟨w1,w2,w3,w4,w5,w6,w7⟩:=cF hD (x:=j) (y:=j - 1) (by omega) (by omega);rw [if_pos hij];by_cases hlt:ltP W[j]! W[j - 1]! = true
    ·have hc:eX W[j]! W[j - 1]! < 0:=of_decide_eq_true hlt;have sw:=eK hD (x:=j) (y:=j - 1) (by omega) (by omega);simp only [putAt] at sw;obtain ⟨fr,ih,ih2⟩:=yD (b:=b) (g:=g) (e:=e) (a:=a) (be:=be) (t:=t) (i:=i) hb hL hh he hn hbe hF k (j+1) (Go.Sort.swp W j (j - 1)) (by rw [swp_size,hD]) (by omega) (by omega) (by omega);rw [if_neg (by rw [hlt];simp)];refine ⟨fr,?_,ih2⟩;simp only [aB,Int.natCast_add,Int.natCast_one] at ih ⊢;simp (disch:=first|exact dis|fail) only [sy,simprocAttr,-List.reduceReplicate,hF.all,h1,e1,hg1,hss,hh,hnl,w1,w2,w3,w4,w5,w6,w7,hl,hc,sw,ih]
    ·have hc:¬ eX W[j]! W[j - 1]! < 0:=fun h=>hlt (decide_eq_true h);rw [if_pos (by simpa using hlt)];simp only [aB];simp (disch:=first|exact dis|fail) only [sy,simprocAttr,-List.reduceReplicate,hF.all,h1,e1,hg1,hss,hh,hnl,w1,w2,w3,w4,w5,w6,w7,hl,hc];exact ⟨_,rfl,rfl,rfl,rfl,rfl,rfl,rfl⟩
  ·have h1:¬ (j:Int) < (be:Int):=by omega
   rw [if_neg hij];simp (disch:=first|exact dis|fail) only [sy,simprocAttr,-List.reduceReplicate,hF.all,h1];exact ⟨_,rfl,rfl,rfl,rfl,rfl,rfl,rfl⟩
def abh(fr:Fr)(ex:Ex)(f:Bool):Prop:=(ex=.exit 0/\f=false)\/(ex=.ret/\fr.get 8=some (.bool f))
theorem rS{b g e n a be:Nat}(hb:b < hp.length)(hL:L<=b)(hh:H.contains b=false)(he:e=0\/e=2)(hn:n<=100000)(hbe:be<=n)(hab:a < be)(hF:Fit hp.length L H):∀ (s t i:Nat) (W:Array Pr),s+t=5->W.size=n->a < i->i<=be->∃ fr ex,
  aG env wh [9,1,0,3,2,10] hp.length [(9,.int .i64 i),(1,.int .i64 a),(0,.slice (some ⟨b,0,some g⟩) n e),(3,aB),(2,.int .i64 be),(10,.int .i64 t)] ⟨hp.set b (.cells g true (prs W)),L,H,[]⟩
   = some (ex,fr,⟨hp.set b (.cells g true (prs (Go.Sort.partialIns ltP a be s i W).1)),L,H,[]⟩)/\abh fr ex (Go.Sort.partialIns ltP a be s i W).2
 | 0,t,i,W,hst,hD,hai,hib=>by
  have h1:¬ (t:Int) < 5:=by omega
  rw [Go.Sort.partialIns,ak wh.eq_1];simp (disch:=first|exact dis|fail) only [sy,simprocAttr,-List.reduceReplicate,hF.all,h1];exact ⟨_,_,rfl,.inl ⟨rfl,rfl⟩⟩
 | s+1,t,i,W,hst,hD,hai,hib=>by
  have hg1:∀ B:Blk,(hp.set b B)[b]?=some B:=fun B=>List.getElem?_set_self hb;have hss:∀ A B:Blk,(hp.set b A).set b B=hp.set b B:=fun A B=>List.set_set ..;have hl2:∀ B:Blk,(hp.set b B).length=hp.length:=fun B=>List.length_set ..;have hnl:¬ b < L:=by omega
  have h1:(t:Int) < 5:=by omega
  rw [Go.Sort.partialIns,ak wh.eq_1];obtain ⟨fu,u0,u1,u2,u3,u4,u5,u6⟩:=uV (hp:=hp.set b (.cells g true (prs W))) (L:=L) (H:=H) (g:=g) (e:=e) (a:=a) (be:=be) (t:=t) (hg1 _) hD hh he hn hbe (by rw [hl2];exact hF) (be - i) i (Nat.le_refl _) (by omega) (by omega);have hsb:=pY be W (be - i) i (Nat.le_refl _) hib;simp only;generalize Go.Sort.scanSorted ltP W be i=i2 at *;simp only [hl2,aB] at u0 u3 ⊢;by_cases hib2:i2=be
  ·have g1:(i2:Int)=(be:Int):=by omega
   rw [if_pos hib2];simp (disch:=first|exact dis|fail) only [sy,simprocAttr,-List.reduceReplicate,hF.all,h1,u0,u1,u2,u3,u4,u5,u6,g1];exact ⟨_,_,rfl,.inr ⟨rfl,rfl⟩⟩
  ·have g1:¬ (i2:Int)=(be:Int):=by omega
   rw [if_neg hib2];have e1:(be:Int) - (a:Int)=((be - a:Nat):Int):=by omega
   by_cases h50:be - a < 50
   ·have g2:((be - a:Nat):Int) < 50:=by omega
    rw [if_pos h50];simp (disch:=first|exact dis|fail) only [sy,simprocAttr,-List.reduceReplicate,hF.all,h1,e1,u0,u1,u2,u3,u4,u5,u6,g1,g2];exact ⟨_,_,rfl,.inr ⟨rfl,rfl⟩⟩
   ·have g2:¬ ((be - a:Nat):Int) < 50:=by omega
    rw [if_neg h50];have e2:(i2:Int) - 1=((i2 - 1:Nat):Int):=by omega
    have e3:(i2:Int) - (a:Int)=((i2 - a:Nat):Int):=by omega
    have e4:(be:Int) - (i2:Int)=((be - i2:Nat):Int):=by omega
    obtain ⟨w1,w2,w3,w4,w5,w6,w7⟩:=cF hD (x:=i2) (y:=i2 - 1) (by omega) (by omega);have sw:=eK hD (x:=i2) (y:=i2 - 1) (by omega) (by omega);simp only [putAt] at sw;have hD1:(Go.Sort.swp W i2 (i2 - 1)).size=n:=by rw [swp_size,hD]
    generalize Go.Sort.swp W i2 (i2 - 1)=W1 at *;have hdn:=yC (hp:=hp) (L:=L) (H:=H) (g:=g) (e:=e) (a:=a) (be:=be) (t:=t) (i:=i2) hb hL hh he hn hF (i2 - 1) W1 hD1 (by omega);have hD2:(Go.Sort.shiftDown ltP (i2 - 1) W1).size=n:=by rw [ow,hD1]
    generalize Go.Sort.shiftDown ltP (i2 - 1) W1=W2 at *;obtain ⟨fd,d0,d1,d2,d3,d4,d5,d6⟩:=hdn;have e5:(i2:Int)+1=((i2+1:Nat):Int):=by omega
    simp only [aB] at d0 d5;by_cases c1:i2 - a>=2
    ·have g3:((i2 - a:Nat):Int)>=2:=by omega
     rw [if_pos c1];by_cases c2:be - i2>=2
     ·have g4:((be - i2:Nat):Int)>=2:=by omega
      rw [if_pos c2];have hup:=yD (hp:=hp) (L:=L) (H:=H) (g:=g) (e:=e) (a:=a) (be:=be) (t:=t) (i:=i2) hb hL hh he hn hbe hF (be - (i2+1)) (i2+1) W2 hD2 (Nat.le_refl _) (by omega) (by omega);have hD3:(Go.Sort.shiftUp ltP be (i2+1) W2).size=n:=by rw [mU be _ _ _ (Nat.le_refl _),hD2]
      generalize Go.Sort.shiftUp ltP be (i2+1) W2=W3 at *;obtain ⟨fe,p0,p1,p2,p3,p4,p5,p6⟩:=hup;obtain ⟨fr,ex,ih,ih2⟩:=rS (g:=g) (e:=e) hb hL hh he hn hbe hab hF s (t+1) i2 W3 (by omega) hD3 (by omega) (by omega);refine ⟨fr,ex,?_,ih2⟩;simp only [aB,Int.natCast_add,Int.natCast_one] at p0 p5 ih;simp (disch:=first|exact dis|fail) only [sy,simprocAttr,-List.reduceReplicate,hF.all,h1,e1,e2,e3,e4,u0,u1,u2,u3,u4,u5,u6,g1,g2,g3,g4,hg1,hss,hh,hnl,w1,w2,w3,w4,w5,w6,w7,sw,d0,d1,d2,d3,d4,d5,d6,p0,p1,p2,p3,p4,p5,p6,ih]
     ·have g4:¬ ((be - i2:Nat):Int)>=2:=by omega
      rw [if_neg c2];obtain ⟨fr,ex,ih,ih2⟩:=rS (g:=g) (e:=e) hb hL hh he hn hbe hab hF s (t+1) i2 W2 (by omega) hD2 (by omega) (by omega);refine ⟨fr,ex,?_,ih2⟩;simp only [aB,Int.natCast_add,Int.natCast_one] at ih;simp (disch:=first|exact dis|fail) only [sy,simprocAttr,-List.reduceReplicate,hF.all,h1,e1,e2,e3,e4,u0,u1,u2,u3,u4,u5,u6,g1,g2,g3,g4,hg1,hss,hh,hnl,w1,w2,w3,w4,w5,w6,w7,sw,d0,d1,d2,d3,d4,d5,d6,ih]
    ·have g3:¬ ((i2 - a:Nat):Int)>=2:=by omega
     rw [if_neg c1];by_cases c2:be - i2>=2
     ·have g4:((be - i2:Nat):Int)>=2:=by omega
      rw [if_pos c2];have hup:=yD (hp:=hp) (L:=L) (H:=H) (g:=g) (e:=e) (a:=a) (be:=be) (t:=t) (i:=i2) hb hL hh he hn hbe hF (be - (i2+1)) (i2+1) W1 hD1 (Nat.le_refl _) (by omega) (by omega);have hD3:(Go.Sort.shiftUp ltP be (i2+1) W1).size=n:=by rw [mU be _ _ _ (Nat.le_refl _),hD1]
      generalize Go.Sort.shiftUp ltP be (i2+1) W1=W3 at *;obtain ⟨fe,p0,p1,p2,p3,p4,p5,p6⟩:=hup;obtain ⟨fr,ex,ih,ih2⟩:=rS (g:=g) (e:=e) hb hL hh he hn hbe hab hF s (t+1) i2 W3 (by omega) hD3 (by omega) (by omega);refine ⟨fr,ex,?_,ih2⟩;simp only [aB,Int.natCast_add,Int.natCast_one] at p0 p5 ih;simp (disch:=first|exact dis|fail) only [sy,simprocAttr,-List.reduceReplicate,hF.all,h1,e1,e2,e3,e4,u0,u1,u2,u3,u4,u5,u6,g1,g2,g3,g4,hg1,hss,hh,hnl,w1,w2,w3,w4,w5,w6,w7,sw,p0,p1,p2,p3,p4,p5,p6,ih]
     ·exfalso;omega
theorem C6{b g e n a be:Nat}{W:Array Pr}(hb:hp[b]?=some (.cells g true (prs W)))(hD:W.size=n)(hL:L<=b)(hh:H.contains b=false)(he:e=0\/e=2)(hn:n<=100000)(hab:a < be)(hbe:be<=n)(hF:Fit hp.length L H) :
  aN env (.func 274) [.slice (some ⟨b,0,some g⟩) n e,.int .i64 a,.int .i64 be,aB] ⟨hp,L,H,d⟩=some (.bool (Go.Sort.partialInsertionSort ltP W a be).2,⟨hp.set b (.cells g true (prs (Go.Sort.partialInsertionSort ltP W a be).1)),L,H,d⟩):=by
 rw [av 274 _ _ aaY];have hbl:=(List.getElem?_eq_some_iff.1 hb).1;obtain ⟨fr,ex,h,h2⟩:=rS (hp:=hp) (L:=L) (H:=H) (g:=g) (e:=e) hbl hL hh he hn hbe hab hF 5 0 (a+1) W rfl hD (by omega) (by omega);rw [dY hb] at h;change _=some (ex,fr,(⟨hp.set b (.cells g true (prs (Go.Sort.partialInsertionSort ltP W a be).1)),L,H,[]⟩:St)) at h;change abh fr ex (Go.Sort.partialInsertionSort ltP W a be).2 at h2;generalize Go.Sort.partialInsertionSort ltP W a be=R at *;obtain ⟨W1,f⟩:=R;simp only at h h2;simp only [aB,Int.natCast_add,Int.natCast_one,Int.natCast_zero] at h ⊢;rcases h2 with ⟨rfl,rfl⟩ | ⟨rfl,h2⟩
 ·simp (disch:=first|exact dis|fail) only [sy,simprocAttr,-List.reduceReplicate,hF.all,La,h]
 ·simp (disch:=first|exact dis|fail) only [sy,simprocAttr,-List.reduceReplicate,hF.all,La,h,h2]
end
end TtM
namespace TtN
open Go Go.RowKit AM aE LtA SyP TmM TsA TsB TsE TsI TsJ TtA TtB TtC TtD TtE TtF TtG TtH TtI TtJ TtK TtL TtM Bt
theorem U6(x y:UInt64):XL 64 (x.toNat:Int) (y.toNat:Int)=((x ^^^ y).toNat:Int):=by unfold XL;rw [BitVec.ofInt_natCast,BitVec.ofInt_natCast,BitVec.toNat_xor,BitVec.toNat_ofNat,BitVec.toNat_ofNat,UInt64.toNat_xor,Nat.mod_eq_of_lt x.toNat_lt,Nat.mod_eq_of_lt y.toNat_lt]
theorem U7{x y:Nat}(hx:x < 18446744073709551616)(hy:y < 18446744073709551616):UL 64 (x:Int) (y:Int)=((x&&&y:Nat):Int):=by unfold UL;rw [BitVec.ofInt_natCast,BitVec.ofInt_natCast,BitVec.toNat_and,BitVec.toNat_ofNat,BitVec.toNat_ofNat,Nat.mod_eq_of_lt (by simpa using hx),Nat.mod_eq_of_lt (by simpa using hy)]
theorem wrap_u64(x:UInt64):IntKind.u64.wrap (x.toNat:Int)=(x.toNat:Int):=by have:=x.toNat_lt;exact Z3 (by omega) (by omega)
theorem abi(x:UInt64):IntKind.u64.wrap ((x.toNat:Int)*8192)=((x <<< 13).toNat:Int):=by rw [WQ,UInt64.toNat_shiftLeft,Nat.shiftLeft_eq,show (13:UInt64).toNat%64=13 from rfl];omega
theorem abj(x:UInt64):IntKind.u64.wrap ((x.toNat:Int)*131072)=((x <<< 17).toNat:Int):=by rw [WQ,UInt64.toNat_shiftLeft,Nat.shiftLeft_eq,show (17:UInt64).toNat%64=17 from rfl];omega
theorem acK(x:UInt64):(x.toNat:Int).fdiv 128=((x >>> 7).toNat:Int):=by rw [UInt64.toNat_shiftRight,Nat.shiftRight_eq_div_pow,show (7:UInt64).toNat%64=7 from rfl,Int.fdiv_eq_ediv_of_nonneg _ (by omega)];omega
def Yb:ByteArray:=⟨#[0,1,2,2,3,3,3,3,4,4,4,4,4,4,4,4,5,5,5,5,5,5,5,5,5,5,5,5,5,5,5,5,6,6,6,6,6,6,6,6,6,6,6,6,6,6,6,6,6,6,6,6,6,6,6,6,6,6,6,6,6,6,6,6,7,7,7,7,7,7,7,7,7,7,7,7,7,7,7,7,7,7,7,7,7,7,7,7,7,7,7,7,7,7,7,7,7,7,7,7,7,7,7,7,7,7,7,7,7,7,7,7,7,7,7,7,7,7,7,7,7,7,7,7,7,7,7,7,8,8,8,8,8,8,8,8,8,8,8,8,8,8,8,8,8,8,8,8,8,8,8,8,8,8,8,8,8,8,8,8,8,8,8,8,8,8,8,8,8,8,8,8,8,8,8,8,8,8,8,8,8,8,8,8,8,8,8,8,8,8,8,8,8,8,8,8,8,8,8,8,8,8,8,8,8,8,8,8,8,8,8,8,8,8,8,8,8,8,8,8,8,8,8,8,8,8,8,8,8,8,8,8,8,8,8,8,8,8,8,8,8,8,8,8,8,8,8,8,8,8,8,8,8,8,8,8]⟩
theorem NX:Yb.size=256:=by decide +kernel
theorem U8:∀ x < 256,Yb.data.toList[x]?=some (UInt8.ofNat (Go.Sort.bitsLen x)):=by decide +kernel
theorem qC:∀ x < 256,Go.Sort.bitsLen x<=8:=by decide +kernel
section
variable{hp:List Blk}{L:Nat}{H d:List Nat}
theorem tJ{r:UInt64}{q:Nat}(hq:hp[q]?=some (.cells 0 true [.int .u64 (r.toNat:Int)]))(hqL:L<=q)(hqh:H.contains q=false)(hF:Fit hp.length L H) :
  aN env (.func 288) [.pointer (some ⟨q,0,some 0⟩)] ⟨hp,L,H,d⟩=some (.int .u64 ((Go.Sort.xorNext r).toNat:Int),⟨hp.set q (.cells 0 true [.int .u64 ((Go.Sort.xorNext r).toNat:Int)]),L,H,d⟩):=by
 rw [av 288 _ _ aa7];have hql:=(List.getElem?_eq_some_iff.1 hq).1;have hg1:∀ B:Blk,(hp.set q B)[q]?=some B:=fun B=>List.getElem?_set_self hql;have hss:∀ A B:Blk,(hp.set q A).set q B=hp.set q B:=fun A B=>List.set_set ..;have hnl:¬ q < L:=by omega
 unfold Go.Sort.xorNext;simp only;simp (disch:=first|exact dis|fail) only [sy,simprocAttr,-List.reduceReplicate,hF.all,RS,hq,hqh,hg1,hss,hnl,abi,abj,acK,U6,wrap_u64]
set_option maxRecDepth 100000 in
theorem Jn{x:Nat}(hx:x < 256)(hF:Fit hp.length L H):aN env (.func 278) [.int .u64 x] ⟨hp,L,H,d⟩=some (.int .i64 (Go.Sort.bitsLen x:Nat),⟨hp,L,H,d⟩):=by
 rw [av 278 _ _ aa1];have g1:¬ (x:Int)>=4294967296:=by omega
 have g2:¬ (x:Int)>=65536:=by omega
 have g3:¬ (x:Int)>=256:=by omega
 have h2:0<=(x:Int)/\(x:Int) < 256:=by omega
 have h3:=U8 x hx;have h4:=qC x hx;have h5:((UInt8.ofNat (Go.Sort.bitsLen x)).toNat:Int)=(Go.Sort.bitsLen x:Int):=by rw [UInt8.toNat_ofNat'];omega
 have hS:(⟨#[0,1,2,2,3,3,3,3,4,4,4,4,4,4,4,4,5,5,5,5,5,5,5,5,5,5,5,5,5,5,5,5,6,6,6,6,6,6,6,6,6,6,6,6,6,6,6,6,6,6,6,6,6,6,6,6,6,6,6,6,6,6,6,6,7,7,7,7,7,7,7,7,7,7,7,7,7,7,7,7,7,7,7,7,7,7,7,7,7,7,7,7,7,7,7,7,7,7,7,7,7,7,7,7,7,7,7,7,7,7,7,7,7,7,7,7,7,7,7,7,7,7,7,7,7,7,7,7,8,8,8,8,8,8,8,8,8,8,8,8,8,8,8,8,8,8,8,8,8,8,8,8,8,8,8,8,8,8,8,8,8,8,8,8,8,8,8,8,8,8,8,8,8,8,8,8,8,8,8,8,8,8,8,8,8,8,8,8,8,8,8,8,8,8,8,8,8,8,8,8,8,8,8,8,8,8,8,8,8,8,8,8,8,8,8,8,8,8,8,8,8,8,8,8,8,8,8,8,8,8,8,8,8,8,8,8,8,8,8,8,8,8,8,8,8,8,8,8,8,8,8,8,8,8,8,8]⟩:ByteArray)=Yb:=rfl;simp (disch:=first|exact dis|fail) only [sy,simprocAttr,-List.reduceReplicate,hF.all,RQ,↓hS,NX,g1,g2,g3,h2,h3,h5]
end
end TtN
namespace TtO
open Go Go.RowKit AM aE LtA SyP TmM TsA TsB TsE TsI TsJ TtA TtB TtC TtD TtE TtF TtG TtH TtI TtJ TtK TtL TtM TtN Bt
section
variable{hp:List Blk}{L:Nat}{H d:List Nat}
theorem Bc{x:Nat}(hx:x < 256)(hF:Fit hp.length L H):aN env (.func 256) [.int .u64 x] ⟨hp,L,H,d⟩=some (.int .i64 (Go.Sort.bitsLen x:Nat),⟨hp,L,H,d⟩):=by rw [av 256 _ _ aaP];have k:=fun d=>Jn (hp:=hp) (L:=L) (H:=H) (d:=d) hx hF;simp (disch:=first|exact dis|fail) only [sy,simprocAttr,-List.reduceReplicate,hF.all,RK,k]
theorem Sd{x:Nat}(hx:x < 256)(hF:Fit hp.length L H):aN env (.func 287) [.int .i64 x] ⟨hp,L,H,d⟩=some (.int .u64 ((1 <<< Go.Sort.bitsLen x:Nat):Int),⟨hp,L,H,d⟩):=by
 rw [av 287 _ _ aa6];have k:=fun d=>Bc (hp:=hp) (L:=L) (H:=H) (d:=d) hx hF;have h8:=qC x hx;generalize Go.Sort.bitsLen x=y at *;have g1:¬ (y:Int) < 0:=by omega
 have g2:min y 64=y:=by omega
 have g3:IntKind.u64.wrap (2 ^ y)=((1 <<< y:Nat):Int):=by
  rw [Nat.shiftLeft_eq,Nat.one_mul];have:∀ y ≤ 8,IntKind.u64.wrap (2 ^ y)=((2 ^ y:Nat):Int):=by decide +kernel
  exact this y h8
 simp (disch:=first|exact dis|fail) only [sy,simprocAttr,-List.reduceReplicate,hF.all,RR,k,g1,g2,g3]
def NY(hp:List Blk)(b g n e a l m idx:Nat):Fr:=[(11,.int .i64 idx),(9,.pointer (some ⟨hp.length,0,some 0⟩)),(10,.int .u64 m),(8,.int .i64 l),(1,.int .i64 a),(0,.slice (some ⟨b,0,some g⟩) n e)]
def Se(hp:List Blk)(b g:Nat)(st:UInt64×Array Pr):List Blk:=hp.set b (.cells g true (prs st.2))++[.cells 0 true [.int .u64 (st.1.toNat:Int)]]
theorem C7{b g n e a l idx:Nat}(hb:b < hp.length)(hL:L<=b)(hh:H.contains b=false)(he:e=0\/e=2)(hn:n<=255)(hl8:8<=l)(hln:a+l<=n)(hF:Fit hp.length L H)(st:UInt64×Array Pr)(hD:st.2.size=n)(hix:idx < n)(hi2:idx<=a+l / 4*2+1) :
  aG env mP [11,9,10,8,1,0] (hp.length+1) (NY hp b g n e a l (1 <<< Go.Sort.bitsLen l) idx) ⟨Se hp b g st,L,H,[]⟩
   = aG env mP [11,9,10,8,1,0] (hp.length+1) (NY hp b g n e a l (1 <<< Go.Sort.bitsLen l) (idx+1)) ⟨Se hp b g (Go.Sort.breakStep a l (1 <<< Go.Sort.bitsLen l) st idx),L,H,[]⟩:=by
 obtain ⟨r,W⟩:=st;simp only at hD;have hgq:∀ B c:Blk,(hp.set b B++[c])[hp.length]?=some c:=fun B c=>by have:=dK (h:=hp.set b B) (nw:=[]) c;rwa [List.length_set] at this
 have hsq:∀ B c c':Blk,(hp.set b B++[c]).set hp.length c'=hp.set b B++[c']:=fun B c c'=>by have:=iV (h:=hp.set b B) (nw:=[]) c' c;rwa [List.length_set] at this
 have hgb:∀ B c:Blk,(hp.set b B++[c])[b]?=some B:=fun B c=>by rw [jX (by rw [List.length_set];exact hb)];exact List.getElem?_set_self hb
 have hsb:∀ A B c:Blk,(hp.set b A++[c]).set b B=hp.set b B++[c]:=fun A B c=>by rw [FD (by rw [List.length_set];exact hb),List.set_set]
 have hnl:¬ b < L:=by omega
 have k:=fun d=>tJ (hp:=hp.set b (.cells g true (prs W))++[.cells 0 true [.int .u64 (r.toNat:Int)]]) (L:=L) (H:=H) (d:=d) (r:=r) (hgq _ _) hF.1 hF.jv (hF.mono (by simp));simp only [hsq] at k;unfold Go.Sort.breakStep Se NY;simp only;generalize Go.Sort.xorNext r=r1 at *;have hm:1 <<< Go.Sort.bitsLen l<=2*l:=by have:=Go.Sort.two_pow_bitsLen_le (n:=l) (by omega);rw [Nat.shiftLeft_eq,Nat.one_mul];exact this
 have hm1:1<=1 <<< Go.Sort.bitsLen l:=by rw [Nat.shiftLeft_eq,Nat.one_mul];exact Nat.one_le_two_pow
 generalize 1 <<< Go.Sort.bitsLen l=m at *;have ha:r1.toNat&&&(m - 1)<=m - 1:=Nat.and_le_right;have e1:(m:Int) - 1=((m - 1:Nat):Int):=by omega
 have e2:UL 64 (r1.toNat:Int) ((m - 1:Nat):Int)=((r1.toNat&&&(m - 1):Nat):Int):=U7 r1.toNat_lt (by omega);generalize hq:r1.toNat&&&(m - 1)=q at *;clear hq;have e3:Int.tdiv (l:Int) 4=((l / 4:Nat):Int):=by rw [Int.tdiv_eq_ediv_of_nonneg (by omega)];omega
 have g1:(idx:Int)<=(a:Int)+((l / 4:Nat):Int)*2+1:=by omega
 have b1:l / 4<=255:=by omega
 have b2:a<=255:=by omega
 by_cases c1:q>=l
 ·have g2:(q:Int)>=(l:Int):=by omega
  have e4:(q:Int) - (l:Int)=((q - l:Nat):Int):=by omega
  rw [if_pos c1];obtain ⟨y,hy⟩:∃ y,y=a+(q - l):=⟨_,rfl⟩;rw [<- hy];have e5:(a:Int)+((q - l:Nat):Int)=(y:Int):=by omega
  obtain ⟨w1,w2,w3,w4,w5,w6,w7⟩:=cF hD (x:=idx) (y:=y) (by omega) (by omega);have sw:=eK hD (x:=idx) (y:=y) (by omega) (by omega);simp only [putAt] at sw;rw [ak mP.eq_1];simp only [Int.natCast_add,Int.natCast_one];simp (disch:=first|exact dis|fail) only [sy,simprocAttr,-List.reduceReplicate,hF.all,k,hgq,hsq,hgb,hsb,hnl,hh,e1,e2,e3,e4,e5,g1,g2,w1,w2,w3,w4,w5,w6,w7,sw]
 ·have g2:¬ (q:Int)>=(l:Int):=by omega
  rw [if_neg c1];obtain ⟨y,hy⟩:∃ y,y=a+q:=⟨_,rfl⟩;rw [<- hy];have e5:(a:Int)+(q:Int)=(y:Int):=by omega
  obtain ⟨w1,w2,w3,w4,w5,w6,w7⟩:=cF hD (x:=idx) (y:=y) (by omega) (by omega);have sw:=eK hD (x:=idx) (y:=y) (by omega) (by omega);simp only [putAt] at sw;rw [ak mP.eq_1];simp only [Int.natCast_add,Int.natCast_one];simp (disch:=first|exact dis|fail) only [sy,simprocAttr,-List.reduceReplicate,hF.all,k,hgq,hsq,hgb,hsb,hnl,hh,e1,e2,e3,e5,g1,g2,w1,w2,w3,w4,w5,w6,w7,sw]
theorem Yc{b g e n a l m idx:Nat}{σ:St}(hl8:8<=l)(hln:a+l<=255)(hi2:idx=a+l / 4*2+2):∃ fr,
  aG env mP [11,9,10,8,1,0] (hp.length+1) (NY hp b g n e a l m idx) σ=some (.exit 0,fr,σ):=by
 have e3:Int.tdiv (l:Int) 4=((l / 4:Nat):Int):=by rw [Int.tdiv_eq_ediv_of_nonneg (by omega)];omega
 have g1:¬ (idx:Int)<=(a:Int)+((l / 4:Nat):Int)*2+1:=by omega
 have b1:l / 4<=255:=by omega
 have b2:a<=255:=by omega
 unfold NY;rw [ak mP.eq_1];simp (disch:=first|exact dis|fail) only [sy,simprocAttr,-List.reduceReplicate,e3,g1];exact ⟨_,rfl⟩
theorem oy(a l m:Nat)(st:UInt64×Array Pr)(i:Nat):(Go.Sort.breakStep a l m st i).2.size=st.2.size:=by unfold Go.Sort.breakStep;simp only;split<;>rw [swp_size]
theorem Jo{b g e n a be:Nat}{W:Array Pr}(hb:hp[b]?=some (.cells g true (prs W)))(hD:W.size=n)(hL:L<=b)(hh:H.contains b=false)(he:e=0\/e=2)(hn:n<=255)(hab:a<=be)(hbe:be<=n)(hF:Fit hp.length L H) :
  aN env (.func 271) [.slice (some ⟨b,0,some g⟩) n e,.int .i64 a,.int .i64 be,aB] ⟨hp,L,H,d⟩=some (.tuple #[],⟨hp.set b (.cells g true (prs (Go.Sort.breakPatterns W a be))),L,H,d⟩):=by
 rw [av 271 _ _ aaV];have hbl:=(List.getElem?_eq_some_iff.1 hb).1;have e1:(be:Int) - (a:Int)=((be - a:Nat):Int):=by omega
 unfold Go.Sort.breakPatterns;simp only;by_cases h8:be - a>=8
 ·rw [if_pos h8];have g1:((be - a:Nat):Int)>=8:=by omega
  have hln:a+(be - a)<=n:=by omega
  generalize hl:be - a=l at *;have e3:Int.tdiv (l:Int) 4=((l / 4:Nat):Int):=by rw [Int.tdiv_eq_ediv_of_nonneg (by omega)];omega
  have b1:l / 4<=255:=by omega
  have b2:a<=255:=by omega
  have kp:=fun hp L H d hF=>Sd (hp:=hp) (L:=L) (H:=H) (d:=d) (x:=l) (by omega) hF;have hU:((UInt64.ofNat l).toNat:Int)=(l:Int):=by rw [UInt64.toNat_ofNat'];omega
  obtain ⟨i,hi⟩:∃ i,i=a+l / 4*2 - 1:=⟨_,rfl⟩;have e4:(a:Int)+((l / 4:Nat):Int)*2 - 1=(i:Int):=by omega
  rw [<- hi];have s1:=C7 (hp:=hp) (L:=L) (H:=H) (b:=b) (g:=g) (e:=e) (a:=a) (idx:=i) hbl hL hh he hn (by omega) hln hF (UInt64.ofNat l,W) hD (by omega) (by omega);have D1:=oy a l (1 <<< Go.Sort.bitsLen l) (UInt64.ofNat l,W) i;have s1':=C7 (hp:=hp) (L:=L) (H:=H) (b:=b) (g:=g) (e:=e) (a:=a) (idx:=i+1) hbl hL hh he hn (by omega) hln hF (Go.Sort.breakStep a l (1 <<< Go.Sort.bitsLen l) (UInt64.ofNat l,W) i) (by rw [D1];exact hD) (by omega) (by omega);have D2:=oy a l (1 <<< Go.Sort.bitsLen l) (Go.Sort.breakStep a l (1 <<< Go.Sort.bitsLen l) (UInt64.ofNat l,W) i) (i+1);have abk:=C7 (hp:=hp) (L:=L) (H:=H) (b:=b) (g:=g) (e:=e) (a:=a) (idx:=i+2) hbl hL hh he hn (by omega) hln hF (Go.Sort.breakStep a l (1 <<< Go.Sort.bitsLen l) (Go.Sort.breakStep a l (1 <<< Go.Sort.bitsLen l) (UInt64.ofNat l,W) i) (i+1)) (by rw [D2,D1];exact hD) (by omega) (by omega);obtain ⟨fr,hend⟩:=Yc (hp:=hp) (b:=b) (g:=g) (e:=e) (n:=n) (a:=a) (l:=l) (m:=1 <<< Go.Sort.bitsLen l) (idx:=i+2+1) (σ:=⟨Se hp b g (Go.Sort.breakStep a l (1 <<< Go.Sort.bitsLen l) (Go.Sort.breakStep a l (1 <<< Go.Sort.bitsLen l) (Go.Sort.breakStep a l (1 <<< Go.Sort.bitsLen l) (UInt64.ofNat l,W) i) (i+1)) (i+2)),L,H,[]⟩) (by omega) (by omega) (by omega);rw [<- abk,<- s1',<- s1] at hend;generalize Go.Sort.breakStep a l (1 <<< Go.Sort.bitsLen l) (Go.Sort.breakStep a l (1 <<< Go.Sort.bitsLen l) (Go.Sort.breakStep a l (1 <<< Go.Sort.bitsLen l) (UInt64.ofNat l,W) i) (i+1)) (i+2)=R at *;clear s1 s1' abk D1 D2;obtain ⟨rr,W3⟩:=R;unfold NY Se at hend;simp only [hU] at hend ⊢;rw [dY hb] at hend;generalize 1 <<< Go.Sort.bitsLen l=m at *;simp only [aB] at hend ⊢;have l0:(l:Int)<=255:=by omega
  simp (disch:=first|exact dis|fail) only [sy,simprocAttr,-List.reduceReplicate,hF.all,K9,e1,e3,e4,g1,kp,hend]
 ·rw [if_neg h8];have g1:¬ ((be - a:Nat):Int)>=8:=by omega
  rw [dY hb];simp (disch:=first|exact dis|fail) only [sy,simprocAttr,-List.reduceReplicate,hF.all,K9,e1,g1]
end
end TtO
namespace TtP
open Go Go.RowKit AM aE LtA SyP TmM TsA TsB TsE TsI TsJ TtA TtB TtC TtD TtE TtF TtG TtH TtI TtJ TtK TtL TtM TtN TtO Bt
def K3:az:=(.seq (.seq (.drawn [⟨(some 81),none,0,false,.mv (T 1)⟩,⟨(some 82),none,1,false,.bin .gtr (T 81) (Ki 0)⟩,⟨(some 83),none,3,false,.mv (T 82)⟩,⟨(some 84),(some (83,true)),7,false,.mv (T 4)⟩,⟨(some 85),(some (83,true)),7,false,.mv (T 0)⟩,⟨(some 86),(some (83,true)),7,false,.mv (T 1)⟩,⟨(some 87),(some (83,true)),39,false,.bin .sub (T 86) (Ki 1)⟩,⟨(some 88),(some (83,true)),119,false,.aD 2 (T 85) (T 87)⟩,⟨(some 89),(some (83,true)),247,false,.load (some 2) (T 88)⟩,⟨(some 90),(some (83,true)),7,false,.mv (T 0)⟩,⟨(some 91),(some (83,true)),7,false,.mv (T 13)⟩,⟨(some 92),(some (83,true)),1543,false,.aD 2 (T 90) (T 91)⟩,⟨(some 93),(some (83,true)),3591,false,.load (some 2) (T 92)⟩,⟨(some 94),(some (83,true)),8191,true,.dw (T 84) [(T 89),(T 93)]⟩,⟨(some 95),(some (83,true)),16383,false,.bin .lss (T 94) (Ki 0)⟩,⟨(some 96),(some (83,true)),32767,false,.un .not (T 95)⟩,⟨(some 97),none,65535,false,.pick (T 83) (T 96) (Kb false)⟩]) (.cond (T 97) (.seq (.region [Mv 98 0,Mv 99 1,Mv 100 2,Mv 101 13,Mv 102 4,D 103 (.call 275 [(T 98),(T 99),(T 100),(T 101),(T 102)]),Mv 15 103]) (.seq (.region [Mv 104 15,Mv 1 104]) (.exit 1))) .skip)) (.seq (.region [Mv 106 0,Mv 107 1,Mv 108 2,Mv 109 13,Mv 110 4,D 111 (.call 276 [(T 106),(T 107),(T 108),(T 109),(T 110)]),Mv 105 111,D 112 (.ext (T 105) 0),D 113 (.ext (T 105) 1),Mv 16 112,Mv 17 113]) (.seq (.region [Mv 114 17,Mv 11 114]) (.seq (.region [Mv 115 16,Mv 116 1,D 117 (.bin .sub (T 115) (T 116)),Mv 118 2,Mv 119 16,D 120 (.bin .sub (T 118) (T 119)),Mv 18 117,Mv 19 120]) (.seq (.region [Mv 121 12,D 122 (.bin .quo (T 121) (Ki 8)),Mv 20 122]) (.seq (.region [Mv 123 18,Mv 124 19,D 125 (.bin .lss (T 123) (T 124))]) (.cond (T 125) (.seq (.region [Mv 126 18,Mv 127 20,D 128 (.bin .geq (T 126) (T 127)),Mv 10 128]) (.seq (.region [Mv 129 0,Mv 130 1,Mv 131 16,Mv 132 3,Mv 133 4,D 134 (.call 255 [(T 129),(T 130),(T 131),(T 132),(T 133)])]) (.region [Mv 135 16,D 136 (.bin .add (T 135) (Ki 1)),Mv 1 136]))) (.seq (.region [Mv 137 19,Mv 138 20,D 139 (.bin .geq (T 137) (T 138)),Mv 10 139]) (.seq (.region [Mv 140 0,Mv 141 16,D 142 (.bin .add (T 141) (Ki 1)),Mv 143 2,Mv 144 3,Mv 145 4,D 146 (.call 255 [(T 140),(T 142),(T 143),(T 144),(T 145)])]) (.region [Mv 147 16,Mv 2 147]))))))))))
def K2:az:=(.seq (.seq (.region [Mv 68 10,Mv 69 68,Gd 70 69 true (.mv (T 11)),D 71 (.pick (T 69) (T 70) (Kb false)),Mv 72 71,Gd 73 72 true (.mv (T 14)),Gd 74 72 true (.bin .eql (T 73) (Ki 1)),D 75 (.pick (T 72) (T 74) (Kb false))]) (.cond (T 75) (.seq (.region [Mv 76 0,Mv 77 1,Mv 78 2,Mv 79 4,D 80 (.call 274 [(T 76),(T 77),(T 78),(T 79)])]) (.cond (T 80) .ret .skip)) .skip)) K3)
def K1:az:=(.seq (.region [Mv 48 0,Mv 49 1,Mv 50 2,Mv 51 4,D 52 (.call 272 [(T 48),(T 49),(T 50),(T 51)]),Mv 47 52,D 53 (.ext (T 47) 0),D 54 (.ext (T 47) 1),Mv 13 53,Mv 14 54]) (.seq (.seq (.region [Mv 55 14,D 56 (.bin .eql (T 55) (Ki 2))]) (.cond (T 56) (.seq (.region [Mv 57 0,Mv 58 1,Mv 59 2,Mv 60 4,D 61 (.call 273 [(T 57),(T 58),(T 59),(T 60)])]) (.seq (.region [Mv 62 2,D 63 (.bin .sub (T 62) (Ki 1)),Mv 64 13,Mv 65 1,D 66 (.bin .sub (T 64) (T 65)),D 67 (.bin .sub (T 63) (T 66)),Mv 13 67]) (.region [D 14 (.mv (Ki 1))]))) .skip)) K2))
theorem split:kC=(.block 1 (.seq (.region [Mv 21 2,Mv 22 1,D 23 (.bin .sub (T 21) (T 22)),Mv 12 23]) (.seq (.seq (.region [Mv 24 12,D 25 (.bin .leq (T 24) (Ki 12))]) (.cond (T 25) (.seq (.region [Mv 26 0,Mv 27 1,Mv 28 2,Mv 29 4,D 30 (.call 269 [(T 26),(T 27),(T 28),(T 29)])]) .ret) .skip)) (.seq (.seq (.region [Mv 31 3,D 32 (.bin .eql (T 31) (Ki 0))]) (.cond (T 32) (.seq (.region [Mv 33 0,Mv 34 1,Mv 35 2,Mv 36 4,D 37 (.call 270 [(T 33),(T 34),(T 35),(T 36)])]) .ret) .skip)) (.seq (.seq (.region [Mv 38 10,D 39 (.un .not (T 38))]) (.cond (T 39) (.seq (.region [Mv 40 0,Mv 41 1,Mv 42 2,Mv 43 4,D 44 (.call 271 [(T 40),(T 41),(T 42),(T 43)])]) (.region [Mv 45 3,D 46 (.bin .sub (T 45) (Ki 1)),Mv 3 46])) .skip)) K1))))):=rfl
def U9(W:Array Pr)(pv a be limit:Nat)(wb wp:Bool):Array Pr:=
 if a > 0&&!ltP W[a - 1]! W[pv]! then
  match Go.Sort.partitionEqual ltP W a be pv with
  | (mid,d4)=>if _h:a < mid/\mid<=be then Go.Sort.pdq ltP d4 mid be limit wb wp else d4
 else
  match Go.Sort.partition ltP W a be pv with
  | (mid,ap,d4)=>
   if _h:a<=mid/\mid < be then
    if mid - a < be - mid then Go.Sort.pdq ltP (Go.Sort.pdq ltP d4 a mid limit true true) (mid+1) be limit (decide (mid - a>=(be - a) / 8)) ap
    else Go.Sort.pdq ltP (Go.Sort.pdq ltP d4 (mid+1) be limit true true) a mid limit (decide (be - mid>=(be - a) / 8)) ap
   else d4
def NZ(W:Array Pr)(pv:Nat)(hint:Go.Sort.Hint)(a be limit:Nat)(wb wp:Bool):Array Pr:=
 let pi:=if wb&&wp&&hint=.increasing then Go.Sort.partialInsertionSort ltP W a be else (W,false)
 if pi.2 then pi.1 else U9 pi.1 pv a be limit wb wp
def Yd(W:Array Pr)(a be limit:Nat)(wb wp:Bool):Array Pr:=
 let c:=Go.Sort.choosePivot ltP W a be
 NZ (if c.2=.decreasing then Go.Sort.reverseRange W a be else W) (if c.2=.decreasing then (be - 1) - (c.1 - a) else c.1) (if c.2=.decreasing then Go.Sort.Hint.increasing else c.2) a be limit wb wp
theorem Sf(W:Array Pr)(a be limit:Nat)(wb wp:Bool):Go.Sort.pdq ltP W a be limit wb wp =
  if be - a<=12 then Go.Sort.insertionSort ltP W a be else
  if limit=0 then Go.Sort.heapSort ltP W a be else
  Yd (if !wb then Go.Sort.breakPatterns W a be else W) a be (if !wb then limit - 1 else limit) wb wp:=by rw [Go.Sort.pdq];rfl
section
variable{hp:List Blk}{L:Nat}{H d:List Nat}
def Jp(b g n e:Nat)(a be limit:Nat)(wb wp:Bool):Fr:=[(3,.int .i64 limit),(11,.bool wp),(10,.bool wb),(0,.slice (some ⟨b,0,some g⟩) n e),(1,.int .i64 a),(2,.int .i64 be),(4,aB)]
def PIH(hp:List Blk)(L:Nat)(H:List Nat)(b g n e k:Nat):Prop:=∀ (W:Array Pr) (a be limit:Nat) (wb wp:Bool),be - a<=k->W.size=n->a<=be->be<=n->limit<=64->Go.Sort.Below ltP a be W->∃ fr,
 aG env kC [3,11,10,0,1,2,4] hp.length (Jp b g n e a be limit wb wp) ⟨hp.set b (.cells g true (prs W)),L,H,[]⟩=some (.ret,fr,⟨hp.set b (.cells g true (prs (Go.Sort.pdq ltP W a be limit wb wp))),L,H,[]⟩)
structure PqG(fr:Fr)(b g n e:Nat)(a be limit:Nat)(wb wp:Bool):Prop where
 g0:fr.get 0=some (.slice (some ⟨b,0,some g⟩) n e)
 g1:fr.get 1=some (.int .i64 a)
 g2:fr.get 2=some (.int .i64 be)
 g3:fr.get 3=some (.int .i64 limit)
 g4:fr.get 4=some aB
 g10:fr.get 10=some (.bool wb)
 g11:fr.get 11=some (.bool wp)
 g12:fr.get 12=some (.int .i64 (be - a:Nat))
theorem yE{b g n e k a be limit:Nat}{W:Array Pr}(hb:b < hp.length)(ih:PIH hp L H b g n e k)(hk:be - a<=k)(hD:W.size=n)(hab:a<=be)(hbe:be<=n)(jR:limit<=64)(hB:Go.Sort.Below ltP a be W)(hF:Fit hp.length L H) :
  aN env (.func 255) [.slice (some ⟨b,0,some g⟩) n e,.int .i64 a,.int .i64 be,.int .i64 limit,aB] ⟨hp.set b (.cells g true (prs W)),L,H,d⟩=some (.tuple #[],⟨hp.set b (.cells g true (prs (Go.Sort.pdq ltP W a be limit true true))),L,H,d⟩):=by rw [av 255 _ _ aaO];obtain ⟨fr,h⟩:=ih W a be limit true true hk hD hab hbe jR hB;unfold Jp at h;simp only [aB] at h ⊢;have hl2:∀ B:Blk,(hp.set b B).length=hp.length:=fun B=>List.length_set ..;simp (disch:=first|exact dis|fail) only [sy,simprocAttr,-List.reduceReplicate,hF.all,RJ,hl2,h]
theorem Lk{b g n e k a be limit pv:Nat}{wb wp:Bool}{W:Array Pr}(hb:b < hp.length)(hL:L<=b)(hh:H.contains b=false)(he:e=0\/e=2)(hn:n<=255)(ih:PIH hp L H b g n e k)(hk:be - a<=k+1)(hD:W.size=n)(hab:a < be)(hbe:be<=n)(jR:limit<=64)(hB:Go.Sort.Below ltP a be W)(hp1:a<=pv)(hp2:pv < be)
  {fr:Fr} (G:PqG fr b g n e a be limit wb wp) (g13:fr.get 13=some (.int .i64 pv)) (hF:Fit hp.length L H):∃ fr2,
  n7 env kC [3,11,10,0,1,2,4] hp.length (kZ 1 (aZ env K3 fr ⟨hp.set b (.cells g true (prs W)),L,H,[]⟩))=some (.ret,fr2,⟨hp.set b (.cells g true (prs (U9 W pv a be limit wb wp))),L,H,[]⟩):=by
 obtain ⟨g0,g1,g2,g3,g4,g10,g11,g12⟩:=G;have hg1:∀ B:Blk,(hp.set b B)[b]?=some B:=fun B=>List.getElem?_set_self hb;have hss:∀ A B:Blk,(hp.set b A).set b B=hp.set b B:=fun A B=>List.set_set ..;have hl2:∀ B:Blk,(hp.set b B).length=hp.length:=fun B=>List.length_set ..;have hl:=fun p q hp L H d hF=>dc (hp:=hp) (L:=L) (H:=H) (d:=d) p q hF;have hFb:∀ B:Blk,Fit (hp.set b B).length L H:=fun B=>by rw [hl2];exact hF
 have e8:Int.tdiv ((be - a:Nat):Int) 8=(((be - a) / 8:Nat):Int):=by rw [Int.tdiv_eq_ediv_of_nonneg (by omega)];omega
 have hlen:(prs W).length=2*n:=by rw [dL,hD]
 by_cases hc:(decide (a > 0)&&!ltP W[a - 1]! W[pv]!)=true
 ·obtain ⟨ha0,hnl⟩:=(Bool.and_eq_true _ _ ▸ hc:_/\_);replace ha0:a > 0:=of_decide_eq_true ha0;replace hnl:ltP W[a - 1]! W[pv]! = false:=by simpa using hnl
  have cc:¬ eX W[a - 1]! W[pv]! < 0:=fun h=>by rw [show ltP W[a - 1]! W[pv]! = true from decide_eq_true h] at hnl;cases hnl
  have h1:(a:Int) > 0:=by omega
  have e1:(a:Int) - 1=((a - 1:Nat):Int):=by omega
  obtain ⟨w1,w2,w3,w4,w5,w6,w7⟩:=cF hD (x:=a - 1) (y:=pv) (by omega) (by omega);have pe:=fun d=>Gb (hp:=hp.set b (.cells g true (prs W))) (L:=L) (H:=H) (d:=d) (g:=g) (e:=e) (a:=a) (be:=be) (pv:=pv) (hg1 _) hD hL hh he (by omega) hab hbe hp2 (hFb _);unfold U9;rw [if_pos hc];have hr:=Go.Sort.round_eq mT (Go.Sort.partitionEqual_holds ltP) ha0 hp1 hp2 (by rw [hD];exact hbe) hB hnl (show Go.Sort.partitionEqual ltP W a be pv=((Go.Sort.partitionEqual ltP W a be pv).1,(Go.Sort.partitionEqual ltP W a be pv).2) from rfl);generalize Go.Sort.partitionEqual ltP W a be pv=R at *;obtain ⟨mid,d4⟩:=R;simp only at pe hr ⊢;obtain ⟨m1,m2,m3,m4,_⟩:=hr;rw [dif_pos ⟨m1,m2⟩];obtain ⟨fr2,h⟩:=ih d4 mid be limit wb wp (by omega) (by rw [m3];exact hD) m2 hbe jR m4;unfold Jp at h;simp only [aB,hss] at h pe g4 ⊢;unfold K3;refine ⟨fr2,?_⟩;simp (disch:=first|exact dis|fail) only [sy,simprocAttr,-List.reduceReplicate,hF.all,g0,g1,g2,g3,g4,g10,g11,g12,g13,hg1,hh,hl,h1,e1,w1,w2,w3,w4,w5,w6,w7,cc,pe,h]
 ·have pe:=fun d=>gF (hp:=hp.set b (.cells g true (prs W))) (L:=L) (H:=H) (d:=d) (g:=g) (e:=e) (a:=a) (be:=be) (pv:=pv) (hg1 _) hD hL hh he (by omega) hab hbe hp2 (hFb _);unfold U9;rw [if_neg hc];have hr:=Go.Sort.round_part mT (Go.Sort.partition_holds ltP) hp1 hp2 (by rw [hD];exact hbe) hB (show Go.Sort.partition ltP W a be pv=((Go.Sort.partition ltP W a be pv).1,(Go.Sort.partition ltP W a be pv).2.1,(Go.Sort.partition ltP W a be pv).2.2) from rfl);generalize Go.Sort.partition ltP W a be pv=R at *;obtain ⟨mid,ap,d4⟩:=R;simp only at pe hr ⊢;obtain ⟨m1,m2,m3,m4,m5,m6,m7⟩:=hr;rw [dif_pos ⟨m1,m2⟩];have e1:(mid:Int) - (a:Int)=((mid - a:Nat):Int):=by omega
  have e2:(be:Int) - (mid:Int)=((be - mid:Nat):Int):=by omega
  have hcs:(a=0/\¬ (a:Int) > 0)\/((a:Int) > 0/\eX W[a - 1]! W[pv]! < 0):=by
   by_cases h0:a=0
   ·exact .inl ⟨h0,by omega⟩
   ·refine .inr ⟨by omega,?_⟩;cases hlt:ltP W[a - 1]! W[pv]! with
    | true=>exact of_decide_eq_true hlt
    | false=>exact absurd (by rw [hlt];simp;omega) hc
  clear hc;by_cases hlr:mid - a < be - mid
  ·rw [if_pos hlr];have h2:((mid - a:Nat):Int) < ((be - mid:Nat):Int):=by omega
   have cl:=fun d=>yE (d:=d) hb ih (by omega) (m3.trans hD) m1 (by omega) jR m4 hF;obtain ⟨p1,p2⟩:=Go.Sort.pdq_sorts ltP mT d4 a mid limit true true m1 (by rw [m3,hD];omega) m4;obtain ⟨q1,_⟩:=m6 _ p1 p2;generalize Go.Sort.pdq ltP d4 a mid limit true true=d5 at *;obtain ⟨fr2,h⟩:=ih d5 (mid+1) be limit (decide (mid - a>=(be - a) / 8)) ap (by omega) (by rw [p1.1,m3,hD]) (by omega) hbe jR q1;unfold Jp at h;have e3:decide (((mid - a:Nat):Int)>=(((be - a) / 8:Nat):Int))=decide (mid - a>=(be - a) / 8):=by rw [decide_eq_decide];omega
   generalize decide (mid - a>=(be - a) / 8)=wb2 at *;simp only [aB,hss,Int.natCast_add,Int.natCast_one] at h pe cl g4 ⊢;unfold K3;refine ⟨fr2,?_⟩;rcases hcs with ⟨h0,h1⟩ | ⟨h1,cc⟩
   ·clear hl;simp (disch:=first|exact dis|fail) only [sy,simprocAttr,-List.reduceReplicate,hF.all,g0,g1,g2,g3,g4,g10,g11,g12,g13,hg1,hh,h1,e1,e2,e3,e8,h2,pe,cl,h]
   ·have e4:(a:Int) - 1=((a - 1:Nat):Int):=by omega
    obtain ⟨w1,w2,w3,w4,w5,w6,w7⟩:=cF hD (x:=a - 1) (y:=pv) (by omega) (by omega);simp (disch:=first|exact dis|fail) only [sy,simprocAttr,-List.reduceReplicate,hF.all,g0,g1,g2,g3,g4,g10,g11,g12,g13,hg1,hh,hl,h1,e1,e2,e3,e4,e8,h2,w1,w2,w3,w4,w5,w6,w7,cc,pe,cl,h]
  ·rw [if_neg hlr];have h2:¬ ((mid - a:Nat):Int) < ((be - mid:Nat):Int):=by omega
   have cl:=fun d=>yE (d:=d) hb ih (by omega) (m3.trans hD) (by omega) hbe jR m5 hF;obtain ⟨p1,p2⟩:=Go.Sort.pdq_sorts ltP mT d4 (mid+1) be limit true true (by omega) (by rw [m3,hD];omega) m5;obtain ⟨q1,_⟩:=m7 _ p1 p2;generalize Go.Sort.pdq ltP d4 (mid+1) be limit true true=d5 at *;obtain ⟨fr2,h⟩:=ih d5 a mid limit (decide (be - mid>=(be - a) / 8)) ap (by omega) (by rw [p1.1,m3,hD]) (by omega) (by omega) jR q1;unfold Jp at h;have e3:decide (((be - mid:Nat):Int)>=(((be - a) / 8:Nat):Int))=decide (be - mid>=(be - a) / 8):=by rw [decide_eq_decide];omega
   generalize decide (be - mid>=(be - a) / 8)=wb2 at *;simp only [aB,hss,Int.natCast_add,Int.natCast_one] at h pe cl g4 ⊢;unfold K3;refine ⟨fr2,?_⟩;rcases hcs with ⟨h0,h1⟩ | ⟨h1,cc⟩
   ·clear hl;simp (disch:=first|exact dis|fail) only [sy,simprocAttr,-List.reduceReplicate,hF.all,g0,g1,g2,g3,g4,g10,g11,g12,g13,hg1,hh,h1,e1,e2,e3,e8,h2,pe,cl,h]
   ·have e4:(a:Int) - 1=((a - 1:Nat):Int):=by omega
    obtain ⟨w1,w2,w3,w4,w5,w6,w7⟩:=cF hD (x:=a - 1) (y:=pv) (by omega) (by omega);simp (disch:=first|exact dis|fail) only [sy,simprocAttr,-List.reduceReplicate,hF.all,g0,g1,g2,g3,g4,g10,g11,g12,g13,hg1,hh,hl,h1,e1,e2,e3,e4,e8,h2,w1,w2,w3,w4,w5,w6,w7,cc,pe,cl,h]
theorem Gc{hint:Go.Sort.Hint} : (p7 hint:Int)=1↔hint=.increasing:=by cases hint<;>simp [p7]
theorem abl{b g n e k a be limit pv:Nat}{hint:Go.Sort.Hint}{wb wp:Bool}{W:Array Pr}(hb:b < hp.length)(hL:L<=b)(hh:H.contains b=false)(he:e=0\/e=2)(hn:n<=255)(ih:PIH hp L H b g n e k)(hk:be - a<=k+1)(hD:W.size=n)(hab:a < be)(hbe:be<=n)(jR:limit<=64)(hB:Go.Sort.Below ltP a be W)(hp1:a<=pv)(hp2:pv < be)
  {fr:Fr} (G:PqG fr b g n e a be limit wb wp) (g13:fr.get 13=some (.int .i64 pv)) (g14:fr.get 14=some (.int .i64 (p7 hint))) (hF:Fit hp.length L H) (hc:¬ (wb&&wp&&decide (hint=.increasing))=true):∃ fr2,
  n7 env kC [3,11,10,0,1,2,4] hp.length (kZ 1 (aZ env K2 fr ⟨hp.set b (.cells g true (prs W)),L,H,[]⟩))=some (.ret,fr2,⟨hp.set b (.cells g true (prs (NZ W pv hint a be limit wb wp))),L,H,[]⟩):=by
 obtain ⟨g0,g1,g2,g3,g4,g10,g11,g12⟩:=G;have hg1:∀ B:Blk,(hp.set b B)[b]?=some B:=fun B=>List.getElem?_set_self hb;have hss:∀ A B:Blk,(hp.set b A).set b B=hp.set b B:=fun A B=>List.set_set ..;have hl2:∀ B:Blk,(hp.set b B).length=hp.length:=fun B=>List.length_set ..;have hFb:∀ B:Blk,Fit (hp.set b B).length L H:=fun B=>by rw [hl2];exact hF
 have k3:=fun (fr:Fr) G g13=>Lk (pv:=pv) hb hL hh he hn ih hk hD hab hbe jR hB hp1 hp2 (fr:=fr) (wb:=wb) (wp:=wp) G g13 hF;unfold NZ;simp only;rw [if_neg hc,if_neg (by simp)];cases wb with
 | false=>
  simp only [aB] at g4 ⊢;unfold K2;simp (disch:=first|exact dis|fail) only [sy,simprocAttr,-List.reduceReplicate,hF.all,g0,g1,g2,g3,g4,g10,g11,g12,g13,g14];exact k3 _ ⟨by simp only [jW];exact g0,g1,g2,g3,g4,g10,g11,g12⟩ g13
 | true=>
  cases wp with
  | false=>
   simp only [aB] at g4 ⊢;unfold K2;simp (disch:=first|exact dis|fail) only [sy,simprocAttr,-List.reduceReplicate,hF.all,g0,g1,g2,g3,g4,g10,g11,g12,g13,g14];exact k3 _ ⟨by simp only [jW];exact g0,g1,g2,g3,g4,g10,g11,g12⟩ g13
  | true=>
   have hx:¬ (p7 hint:Int)=1:=fun h=>hc (by rw [Gc.1 h];rfl);clear hc;simp only [aB] at g4 ⊢;unfold K2;simp (disch:=first|exact dis|fail) only [sy,simprocAttr,-List.reduceReplicate,hF.all,g0,g1,g2,g3,g4,g10,g11,g12,g13,g14,hx];exact k3 _ ⟨by simp only [jW];exact g0,g1,g2,g3,g4,g10,g11,g12⟩ g13
theorem Ye{b g n e k a be limit pv:Nat}{hint:Go.Sort.Hint}{wb wp:Bool}{W:Array Pr}(hb:b < hp.length)(hL:L<=b)(hh:H.contains b=false)(he:e=0\/e=2)(hn:n<=255)(ih:PIH hp L H b g n e k)(hk:be - a<=k+1)(hD:W.size=n)(hab:a < be)(hbe:be<=n)(jR:limit<=64)(hB:Go.Sort.Below ltP a be W)(hp1:a<=pv)(hp2:pv < be)
  {fr:Fr} (G:PqG fr b g n e a be limit wb wp) (g13:fr.get 13=some (.int .i64 pv)) (g14:fr.get 14=some (.int .i64 (p7 hint))) (hF:Fit hp.length L H) (hc:(wb&&wp&&decide (hint=.increasing))=true):∃ fr2,
  n7 env kC [3,11,10,0,1,2,4] hp.length (kZ 1 (aZ env K2 fr ⟨hp.set b (.cells g true (prs W)),L,H,[]⟩))=some (.ret,fr2,⟨hp.set b (.cells g true (prs (NZ W pv hint a be limit wb wp))),L,H,[]⟩):=by
 obtain ⟨g0,g1,g2,g3,g4,g10,g11,g12⟩:=G;have hg1:∀ B:Blk,(hp.set b B)[b]?=some B:=fun B=>List.getElem?_set_self hb;have hss:∀ A B:Blk,(hp.set b A).set b B=hp.set b B:=fun A B=>List.set_set ..;have hl2:∀ B:Blk,(hp.set b B).length=hp.length:=fun B=>List.length_set ..;have hFb:∀ B:Blk,Fit (hp.set b B).length L H:=fun B=>by rw [hl2];exact hF
 unfold NZ;simp only;rw [if_pos hc];obtain ⟨rfl,rfl,hi⟩:wb=true/\wp=true/\hint=.increasing:=by simp only [Bool.and_eq_true,decide_eq_true_eq] at hc;exact ⟨hc.1.1,hc.1.2,hc.2⟩
 clear hc;have hx:(p7 hint:Int)=1:=Gc.2 hi;have pe:=fun d=>C6 (hp:=hp.set b (.cells g true (prs W))) (L:=L) (H:=H) (d:=d) (g:=g) (e:=e) (a:=a) (be:=be) (hg1 _) hD hL hh he (by omega) hab hbe (hFb _);obtain ⟨p1,p2⟩:=Go.Sort.partialInsertionSort_holds mT W a be hab (by rw [hD];exact hbe) hB;generalize Go.Sort.partialInsertionSort ltP W a be=R at *;obtain ⟨W1,f⟩:=R;simp only at pe p1 ⊢;cases f with
 | true=>
  rw [if_pos rfl];simp only [aB,hss] at g4 pe ⊢;unfold K2;simp (disch:=first|exact dis|fail) only [sy,simprocAttr,-List.reduceReplicate,hF.all,g0,g1,g2,g3,g4,g10,g11,g12,g13,g14,hx,pe];exact ⟨_,rfl⟩
 | false=>
  rw [if_neg (by simp)];have hB1:=hB.perm (by rw [hD];exact hbe) p1;have k3':=fun (fr:Fr) G g13=>Lk (pv:=pv) hb hL hh he hn ih hk (p1.1.trans hD) hab hbe jR hB1 hp1 hp2 (fr:=fr) (wb:=true) (wp:=true) G g13 hF;simp only [aB,hss] at g4 pe ⊢;unfold K2;simp (disch:=first|exact dis|fail) only [sy,simprocAttr,-List.reduceReplicate,hF.all,g0,g1,g2,g3,g4,g10,g11,g12,g13,g14,hx,pe];exact k3' _ ⟨by simp only [jW];exact g0,g1,g2,g3,g4,g10,g11,g12⟩ g13
theorem Ll{b g n e k a be limit pv:Nat}{hint:Go.Sort.Hint}{wb wp:Bool}{W:Array Pr}(hb:b < hp.length)(hL:L<=b)(hh:H.contains b=false)(he:e=0\/e=2)(hn:n<=255)(ih:PIH hp L H b g n e k)(hk:be - a<=k+1)(hD:W.size=n)(hab:a < be)(hbe:be<=n)(jR:limit<=64)(hB:Go.Sort.Below ltP a be W)(hp1:a<=pv)(hp2:pv < be)
  {fr:Fr} (G:PqG fr b g n e a be limit wb wp) (g13:fr.get 13=some (.int .i64 pv)) (g14:fr.get 14=some (.int .i64 (p7 hint))) (hF:Fit hp.length L H):∃ fr2,
  n7 env kC [3,11,10,0,1,2,4] hp.length (kZ 1 (aZ env K2 fr ⟨hp.set b (.cells g true (prs W)),L,H,[]⟩))=some (.ret,fr2,⟨hp.set b (.cells g true (prs (NZ W pv hint a be limit wb wp))),L,H,[]⟩):=by
 by_cases hc:(wb&&wp&&decide (hint=.increasing))=true
 ·exact Ye hb hL hh he hn ih hk hD hab hbe jR hB hp1 hp2 G g13 g14 hF hc
 ·exact abl hb hL hh he hn ih hk hD hab hbe jR hB hp1 hp2 G g13 g14 hF hc
theorem Lm{b g n e k a be limit:Nat}{wb wp:Bool}{W:Array Pr}(hb:b < hp.length)(hL:L<=b)(hh:H.contains b=false)(he:e=0\/e=2)(hn:n<=255)(ih:PIH hp L H b g n e k)(hk:be - a<=k+1)(hD:W.size=n)(hab:a < be)(hbe:be<=n)(jR:limit<=64)(hB:Go.Sort.Below ltP a be W)
  {fr:Fr} (G:PqG fr b g n e a be limit wb wp) (hF:Fit hp.length L H):∃ fr2,
  n7 env kC [3,11,10,0,1,2,4] hp.length (kZ 1 (aZ env K1 fr ⟨hp.set b (.cells g true (prs W)),L,H,[]⟩))=some (.ret,fr2,⟨hp.set b (.cells g true (prs (Yd W a be limit wb wp))),L,H,[]⟩):=by
 obtain ⟨g0,g1,g2,g3,g4,g10,g11,g12⟩:=G;have hg1:∀ B:Blk,(hp.set b B)[b]?=some B:=fun B=>List.getElem?_set_self hb;have hss:∀ A B:Blk,(hp.set b A).set b B=hp.set b B:=fun A B=>List.set_set ..;have hl2:∀ B:Blk,(hp.set b B).length=hp.length:=fun B=>List.length_set ..;have hFb:∀ B:Blk,Fit (hp.set b B).length L H:=fun B=>by rw [hl2];exact hF
 have pc:=fun d=>Jm (hp:=hp.set b (.cells g true (prs W))) (L:=L) (H:=H) (d:=d) (g:=g) (e:=e) (a:=a) (be:=be) (hg1 _) hD hh he (by omega) hab hbe (hFb _);have hc:=Go.Sort.choosePivot_holds ltP W a be hab;unfold Yd;simp only;generalize Go.Sort.choosePivot ltP W a be=R at *;obtain ⟨pv,hint⟩:=R;simp only at pc hc ⊢;by_cases hd:hint=.decreasing
 ·subst hd;rw [if_pos rfl,if_pos rfl,if_pos rfl];have pr:=fun d=>z6 (hp:=hp.set b (.cells g true (prs W))) (L:=L) (H:=H) (d:=d) (g:=g) (e:=e) (a:=a) (be:=be) (hg1 _) hD hL hh he (by omega) hbe (by omega) (by omega) (hFb _);have p1:=Go.Sort.reverseRange_holds W a be (by omega) (by rw [hD];exact hbe);generalize Go.Sort.reverseRange W a be=W1 at *;have hB1:=hB.perm (by rw [hD];exact hbe) p1;have k2:=fun (fr:Fr) G g13 g14=>Ll (pv:=be - 1 - (pv - a)) (hint:=.increasing) hb hL hh he hn ih hk (p1.1.trans hD) hab hbe jR hB1 (by omega) (by omega) (fr:=fr) (wb:=wb) (wp:=wp) G g13 g14 hF;have e1:(be:Int) - 1 - ((pv:Int) - (a:Int))=((be - 1 - (pv - a):Nat):Int):=by omega
  simp only [aB,hss] at g4 pc pr ⊢;unfold K1;simp only [p7] at pc;simp (disch:=first|exact dis|fail) only [sy,simprocAttr,-List.reduceReplicate,hF.all,g0,g1,g2,g3,g4,g10,g11,g12,pc,pr,e1];exact k2 _ ⟨by simp only [jW];exact g0,g1,g2,g3,g4,g10,g11,g12⟩ rfl rfl
 ·rw [if_neg hd,if_neg hd,if_neg hd];have hx:¬ (p7 hint:Int)=2:=by cases hint<;>first | exact absurd rfl hd | decide
  have k2:=fun (fr:Fr) G g13 g14=>Ll (pv:=pv) (hint:=hint) hb hL hh he hn ih hk hD hab hbe jR hB hc.1 hc.2 (fr:=fr) (wb:=wb) (wp:=wp) G g13 g14 hF;simp only [aB,hss] at g4 pc ⊢;unfold K1;simp (disch:=first|exact dis|fail) only [sy,simprocAttr,-List.reduceReplicate,hF.all,g0,g1,g2,g3,g4,g10,g11,g12,pc,hx];exact k2 _ ⟨by simp only [jW];exact g0,g1,g2,g3,g4,g10,g11,g12⟩ rfl rfl
theorem Sg{b g n e:Nat}(hb:b < hp.length)(hL:L<=b)(hh:H.contains b=false)(he:e=0\/e=2)(hn:n<=255)(hF:Fit hp.length L H):∀ k,PIH hp L H b g n e k:=by
 intro k;have hg1:∀ B:Blk,(hp.set b B)[b]?=some B:=fun B=>List.getElem?_set_self hb;have hss:∀ A B:Blk,(hp.set b A).set b B=hp.set b B:=fun A B=>List.set_set ..;have hl2:∀ B:Blk,(hp.set b B).length=hp.length:=fun B=>List.length_set ..;have hFb:∀ B:Blk,Fit (hp.set b B).length L H:=fun B=>by rw [hl2];exact hF
 induction k with
 | zero=>
  intro W a be limit wb wp hk hD hab hbe jR hB;rw [Sf,if_pos (by omega)];have e1:(be:Int) - (a:Int)=((be - a:Nat):Int):=by omega
  have h1:((be - a:Nat):Int)<=12:=by omega
  have ci:=fun d=>F7 (hp:=hp.set b (.cells g true (prs W))) (L:=L) (H:=H) (d:=d) (g:=g) (e:=e) (a:=a) (be:=be) (hg1 _) hD hL hh he (by omega) hbe (by omega) (hFb _);unfold Jp;rw [ak split];simp only [aB,hss] at ci ⊢;simp (disch:=first|exact dis|fail) only [sy,simprocAttr,-List.reduceReplicate,hF.all,e1,h1,ci];exact ⟨_,rfl⟩
 | succ k ih=>
  intro W a be limit wb wp hk hD hab hbe jR hB;rw [Sf];have e1:(be:Int) - (a:Int)=((be - a:Nat):Int):=by omega
  unfold Jp;rw [ak split];by_cases h12:be - a<=12
  ·rw [if_pos h12];have h1:((be - a:Nat):Int)<=12:=by omega
   have ci:=fun d=>F7 (hp:=hp.set b (.cells g true (prs W))) (L:=L) (H:=H) (d:=d) (g:=g) (e:=e) (a:=a) (be:=be) (hg1 _) hD hL hh he (by omega) hbe (by omega) (hFb _);simp only [aB,hss] at ci ⊢;simp (disch:=first|exact dis|fail) only [sy,simprocAttr,-List.reduceReplicate,hF.all,e1,h1,ci];exact ⟨_,rfl⟩
  ·rw [if_neg h12];have h1:¬ ((be - a:Nat):Int)<=12:=by omega
   by_cases h0:limit=0
   ·rw [if_pos h0];subst h0;have ci:=fun d=>NW (hp:=hp.set b (.cells g true (prs W))) (L:=L) (H:=H) (d:=d) (g:=g) (e:=e) (a:=a) (be:=be) (hg1 _) hD hL hh he (by omega) (by omega) hbe (hFb _);simp only [aB,hss,Int.natCast_zero] at ci ⊢;simp (disch:=first|exact dis|fail) only [sy,simprocAttr,-List.reduceReplicate,hF.all,e1,h1,ci];exact ⟨_,rfl⟩
   ·rw [if_neg h0];have h2:¬ (limit:Int)=0:=by omega
    cases wb with
    | true=>
     have k1:=fun (fr:Fr) G=>Lm hb hL hh he hn ih hk hD (by omega) hbe jR hB (fr:=fr) (wb:=true) (wp:=wp) G hF;simp only [Bool.not_true,Bool.false_eq_true,↓reduceIte];simp only [aB,hss];simp (disch:=first|exact dis|fail) only [sy,simprocAttr,-List.reduceReplicate,hF.all,e1,h1,h2];exact k1 _ ⟨rfl,rfl,rfl,rfl,rfl,rfl,rfl,rfl⟩
    | false=>
     simp only [Bool.not_false,↓reduceIte];have pb:=fun d=>Jo (hp:=hp.set b (.cells g true (prs W))) (L:=L) (H:=H) (d:=d) (g:=g) (e:=e) (a:=a) (be:=be) (hg1 _) hD hL hh he hn hab hbe (hFb _);have p1:=Go.Sort.breakPatterns_holds W a be hab (by rw [hD];exact hbe);generalize Go.Sort.breakPatterns W a be=W1 at *;have hB1:=hB.perm (by rw [hD];exact hbe) p1;have k1:=fun (fr:Fr) G=>Lm hb hL hh he hn ih hk (p1.1.trans hD) (by omega) hbe (show limit - 1<=64 by omega) hB1 (fr:=fr) (wb:=false) (wp:=wp) G hF;have e2:(limit:Int) - 1=((limit - 1:Nat):Int):=by omega
     simp only [aB,hss] at pb ⊢;simp (disch:=first|exact dis|fail) only [sy,simprocAttr,-List.reduceReplicate,hF.all,e1,e2,h1,h2,pb];exact k1 _ ⟨rfl,rfl,rfl,rfl,rfl,rfl,rfl,rfl⟩
theorem tK{b g n e:Nat}{W:Array Pr}(hb:hp[b]?=some (.cells g true (prs W)))(hD:W.size=n)(hL:L<=b)(hh:H.contains b=false)(he:e=0\/e=2)(hn:n<=255)(hF:Fit hp.length L H) :
  aN env (.func 222) [.slice (some ⟨b,0,some g⟩) n e,aB] ⟨hp,L,H,d⟩=some (.tuple #[],⟨hp.set b (.cells g true (prs (Go.Sort.sort ltP W))),L,H,d⟩):=by rw [av 222 _ _ aaC];have hbl:=(List.getElem?_eq_some_iff.1 hb).1;have cl:=fun d=>yE (hp:=hp) (L:=L) (H:=H) (d:=d) (g:=g) (e:=e) (a:=0) (be:=n) (limit:=Go.Sort.bitsLen n) (k:=n) (W:=W) hbl (Sg hbl hL hh he hn hF n) (by omega) hD (by omega) (by omega) (by have:=qC n (by omega);omega) (.inl rfl) hF;rw [dY hb] at cl;have kl:=fun d=>Bc (hp:=hp) (L:=L) (H:=H) (d:=d) (x:=n) (by omega) hF;unfold Go.Sort.sort;rw [hD];simp only [aB,Int.natCast_zero] at cl ⊢;simp (disch:=first|exact dis|fail) only [sy,simprocAttr,-List.reduceReplicate,hF.all,RF,cl,kl]
end
end TtP
namespace AM
open Go Go.RowKit
section
variable{aa:au}{fr:Fr}{σ:St}
theorem N0:aop aa .iP fr σ=some (.map (some σ.heap.length),⟨σ.heap++[.map []],σ.lock,σ.hid,σ.af⟩):=rfl
def Si:Bool->Option Blk->Option (List (Value×Value))
 | false,some (.map es)=>some es
 | _,_=>none
theorem jY(es:List (Value×Value)):Si false (some (.map es))=some es:=rfl
theorem rT(h:List Blk)(L:Nat)(H d:List Nat)(r:Nat):St.jL ⟨h,L,H,d⟩ r=Si (H.contains r) h[r]?:=by
 unfold St.jL Si;cases H.contains r with
 | true=>rfl
 | false=>
  simp only [Bool.false_eq_true,if_false];cases h[r]? with
  | none=>rfl
  | some B=>cases B<;>rfl
def WY(σ:St):Option (List (Value×Value))->Option (Value×St)
 | some es=>some (.int .i64 es.length,σ)
 | none=>none
def WZ(σ:St)(m:Option Value):Option (Value×St):=m.bind fun m=>match m with
  | .map (some r)=>(σ.jL r).map fun es=>(.int .i64 es.length,σ)
  | _=>none
theorem yF(r:Nat):WZ σ (some (.map (some r)))=WY σ (σ.jL r):=by show (σ.jL r).map _=_;cases σ.jL r<;>rfl
theorem yG(es:List (Value×Value)):WY σ (some es)=some (.int .i64 es.length,σ):=rfl
theorem Ge(m:Operand):aop aa (.wH m) fr σ=WZ σ (ev fr m):=rfl
def Sk(σ:St)(ag:Bool)(sh:List Sh)(z:Value)(ok:Bool)(m k:Option Value):Option (Value×St):=m.bind fun m=>k.bind fun k=>match m with
  | .map (some r)=>(σ.jL r).bind fun es=>(eG ag sh k es).bind fun q=>
    if bT ag sh k then some (if ok then .tuple #[q.getD z,.bool q.isSome] else q.getD z,σ) else none
  | _=>none
def Gf(σ:St)(ag:Bool)(sh:List Sh)(z:Value)(ok:Bool)(k:Value):Option (Option Value)->Option (Value×St)
 | some q=>if bT ag sh k then some (if ok then .tuple #[q.getD z,.bool q.isSome] else q.getD z,σ) else none
 | none=>none
def W0(σ:St)(ag:Bool)(sh:List Sh)(z:Value)(ok:Bool)(k:Value):Option (List (Value×Value))->Option (Value×St)
 | some es=>Gf σ ag sh z ok k (eG ag sh k es)
 | none=>none
theorem mV(ag:Bool)(sh:List Sh)(z:Value)(ok:Bool)(r:Nat)(k:Value):Sk σ ag sh z ok (some (.map (some r))) (some k)=W0 σ ag sh z ok k (σ.jL r):=by
 show (σ.jL r).bind _=_;cases σ.jL r with
 | none=>rfl
 | some es=>
  show (eG ag sh k es).bind _=Gf σ ag sh z ok k (eG ag sh k es);cases eG ag sh k es<;>rfl
theorem mW(ag:Bool)(sh:List Sh)(z:Value)(ok:Bool)(k:Value)(es:List (Value×Value)):W0 σ ag sh z ok k (some es)=Gf σ ag sh z ok k (eG ag sh k es):=rfl
theorem Gg(ag:Bool)(sh:List Sh)(z k:Value)(q:Option Value):Gf σ ag sh z true k (some q)=if bT ag sh k then some (.tuple #[q.getD z,.bool q.isSome],σ) else none:=rfl
theorem Gh(ag:Bool)(sh:List Sh)(z k:Value)(q:Option Value):Gf σ ag sh z false k (some q)=if bT ag sh k then some (q.getD z,σ) else none:=rfl
theorem rU(ag:Bool)(sh:List Sh)(z:Value)(ok:Bool)(m k:Operand):aop aa (.wG ag sh z ok m k) fr σ=Sk σ ag sh z ok (ev fr m) (ev fr k):=by simp only [aop,Sk];congr 1
def Sl(σ:St)(ag:Bool)(sh:List Sh)(m k x:Option Value):Option (Value×St):=m.bind fun m=>k.bind fun k=>x.bind fun x=>match m with
  | .map (some r)=>if r < σ.lock then none else (σ.jL r).bind fun es=>(eG ag sh k es).bind fun q=>
    if q.isNone&&bT ag sh k&&held x then some (.tuple #[],{ σ with heap:=σ.heap.set r (.map (es++[(k,x)])),af:=bu σ r [x] }) else none
  | _=>none
def Gi(σ:St)(ag:Bool)(sh:List Sh)(r:Nat)(k x:Value)(es:List (Value×Value)):Option (Option Value)->Option (Value×St)
 | some q=>if q.isNone&&bT ag sh k&&held x then some (.tuple #[],⟨σ.heap.set r (.map (es++[(k,x)])),σ.lock,σ.hid,bu σ r [x]⟩) else none
 | none=>none
def W4(σ:St)(ag:Bool)(sh:List Sh)(r:Nat)(k x:Value):Option (List (Value×Value))->Option (Value×St)
 | some es=>Gi σ ag sh r k x es (eG ag sh k es)
 | none=>none
theorem Jq(ag:Bool)(sh:List Sh)(r:Nat)(k x:Value):Sl σ ag sh (some (.map (some r))) (some k) (some x)=if r < σ.lock then none else W4 σ ag sh r k x (σ.jL r):=by
 show (if r < σ.lock then none else (σ.jL r).bind _)=_;split
 ·rfl
 ·cases σ.jL r with
  | none=>rfl
  | some es=>
   show (eG ag sh k es).bind _=Gi σ ag sh r k x es (eG ag sh k es);cases eG ag sh k es<;>rfl
theorem Jr(ag:Bool)(sh:List Sh)(r:Nat)(k x:Value)(es:List (Value×Value)):W4 σ ag sh r k x (some es)=Gi σ ag sh r k x es (eG ag sh k es):=rfl
theorem N1(ag:Bool)(sh:List Sh)(r:Nat)(k:Value)(i:IntKind)(x:Int)(es:List (Value×Value)):Gi σ ag sh r k (.int i x) es (some none)=if bT ag sh k then some (.tuple #[],⟨σ.heap.set r (.map (es++[(k,.int i x)])),σ.lock,σ.hid,σ.af⟩) else none:=by unfold Gi;cases bT ag sh k<;>rfl
theorem Sm(ag:Bool)(sh:List Sh)(m k x:Operand):aop aa (.jc ag sh m k x) fr σ=Sl σ ag sh (ev fr m) (ev fr k) (ev fr x):=by simp only [aop,Sl];congr 1
end
end AM
namespace TuA
open Go Go.RowKit AM aE LtA SyP TmM TsA TsB TsE TsI TsJ TtA TtB TtC TtD TtE TtF TtG TtH TtI TtJ TtK TtL TtM TtN TtO TtP Bt
def pv(p:Pr):Value:=.agg #[.int .i64 p.1,.int .i64 p.2]
def ent:List Pr->Nat->List (Value×Value)
 | [],_=>[]
 | p::k,i=>(pv p,.int .i64 i)::ent k (i+1)
theorem Gj(p:Pr):∀ (k:List Pr) (i:Nat),ent (k++[p]) i=ent k i++[(pv p,.int .i64 (i+k.length:Nat))]
 | [],i=>rfl
 | q::k,i=>by rw [List.cons_append,ent,Gj p k (i+1),ent,List.cons_append,List.length_cons,show i+1+k.length=i+(k.length+1) by omega]
theorem C8:∀ (k:List Pr) (i:Nat),(ent k i).length=k.length
 | [],i=>rfl
 | q::k,i=>by rw [ent,List.length_cons,List.length_cons,C8 k]
theorem Js(p:Pr):bT true [.nu,.nu] (pv p)=true:=rfl
theorem yH(p:Pr):∀ (k:List Pr) (i:Nat),eG true [.nu,.nu] (pv p) (ent k i)=some (if p∈k then some (.int .i64 (i+k.idxOf p:Nat)) else none)
 | [],i=>rfl
 | q::k,i=>by
  have e:bG [.nu,.nu] (cellsOf (pv p)) (cellsOf (pv q))=some (p==q):=by show bG [.nu,.nu] [.int .i64 p.1,.int .i64 p.2] [.int .i64 q.1,.int .i64 q.2]=some (p==q);simp [bG,jK];rfl
  rw [ent,eG,Js,if_pos rfl,e,yH p k (i+1)];simp only [Option.bind_some,Option.map_some,List.mem_cons];by_cases h:p=q
  ·subst h;simp
  ·have h1:(p==q)=false:=by simpa using h
   have h2:(q==p)=false:=by simpa using Ne.symm h
   rw [h1,List.idxOf_cons,h2];simp only [Bool.false_eq_true,if_false,cond_false,h,false_or];rw [show i+1+k.idxOf p=i+(k.idxOf p+1) by omega]
section
variable{hp:List Blk}{L:Nat}{H d:List Nat}
theorem Yf(W:Array Pr):(prs W).all AM.sc=true:=Sb _
theorem Bd:∀ (l:List Pr),(prL l).all aW=true
 | []=>rfl
 | p::l=>by rw [prL];simp only [List.all_cons,Bd l];rfl
theorem N2(W:Array Pr):(prs W).all aW=true:=Bd _
theorem Gk{n:Nat}{W:Array Pr}(hD:W.size=n)(h0:1<=n)(hn:n<=255)(hF:Fit hp.length L H) :
  St.append ⟨hp++[.cells 0 true []],L,H,d⟩ true 2 (.slice (some ⟨hp.length,0,some 0⟩) 0 2) n (prs W)=some (.slice (some ⟨hp.length,0,some (n*2)⟩) n 2,⟨hp++[.cells (n*2) true (prs W)],L,H,d⟩):=by
 have hk:St.blk ⟨hp++[.cells 0 true []],L,H,d⟩ ⟨hp.length,0,some 0⟩=some (true,[]):=by unfold St.blk;simp only [hF.jv,dK];simp
 have h1:¬ n=0:=by omega
 have hs:small (n*2)=true:=by unfold small;simp;omega
 have hs1:=Yf W;have hs2:=N2 W;have hL:¬ hp.length < L:=by have:=hF.1;omega
 simp only [St.append];rw [if_neg h1,if_neg (by simp [hL]),hk];simp [hs1,hs2,hs,bu,iV]
theorem qD{b g n e:Nat}{W:Array Pr}(hb:hp[b]?=some (.cells g true (prs W)))(hD:W.size=n)(hh:H.contains b=false)(h0:1<=n)(hn:n<=255)(hF:Fit hp.length L H) :
  aN env (.func 221) [.slice (some ⟨b,0,some g⟩) n e] ⟨hp,L,H,d⟩=some (.slice (some ⟨hp.length,0,some (n*2)⟩) n 2,⟨hp++[.cells (n*2) true (prs W)],L,H,d⟩):=by
 rw [av 221 _ _ aaB];have hbl:=(List.getElem?_eq_some_iff.1 hb).1;have ha:=fun d=>Gk (d:=d) hD h0 hn hF;have hs0:small 0=true:=by decide
 have hlen:(prs W).length=2*n:=by rw [dL,hD]
 have htk:(prs W).take (n*2)=prs W:=List.take_of_length_le (by omega);have hle:n*2<=2*n:=by omega
 have hgl:∀ B:Blk,(hp++[B])[b]?=some (.cells g true (prs W)):=fun B=>by rw [jX hbl];exact hb
 simp (disch:=first|exact dis|fail) only [sy,simprocAttr,-List.reduceReplicate,hF.all,RE,hs0,hb,hh,hgl,hlen,htk,hle,ha,U2 (Jk.plain _ _)]
end
end TuA
namespace RdP
abbrev Pr:=Int×Int
def plt(p q:Pr):Prop:=p.1 < q.1\/p.1=q.1/\p.2 < q.2
instance (p q:Pr):Decidable (plt p q):=by unfold plt;infer_instance
theorem Ln(p:Pr):¬ plt p p:=by unfold plt;omega
theorem Va{p q:Pr}(h:plt p q):¬ plt q p:=by unfold plt at *;omega
theorem Vb(p q:Pr):plt p q\/p=q\/plt q p:=by unfold plt;rcases p with ⟨a,b⟩;rcases q with ⟨c,d⟩;simp only [Prod.mk.injEq];omega
structure Keys(l k:List Pr):Prop where
 sorted:k.Pairwise plt
 mem:∀ p,p∈k↔p∈l
def rnk(l k:List Pr):List Nat:=l.map k.idxOf
theorem o9(l k:List Pr):(rnk l k).length=l.length:=by simp [rnk]
theorem Keys.nodup{l k:List Pr}(h:Keys l k):k.Nodup:=List.Pairwise.imp (fun {a b} (hp:plt a b) (e:a=b)=>Ln b (by rw [e] at hp;exact hp)) h.sorted
theorem Keys.lt{l k:List Pr}(h:Keys l k){p q:Pr}(hp:p∈l)(hq:q∈l):k.idxOf p < k.idxOf q↔plt p q:=by
 have h1:=List.idxOf_lt_length_of_mem ((h.mem p).2 hp);have h2:=List.idxOf_lt_length_of_mem ((h.mem q).2 hq);have e1:k[k.idxOf p]=p:=List.getElem_idxOf h1;have e2:k[k.idxOf q]=q:=List.getElem_idxOf h2;have hs:=List.pairwise_iff_getElem.1 h.sorted;constructor
 ·intro hlt;have:=hs _ _ h1 h2 hlt;rwa [e1,e2] at this
 ·intro hlt;rcases Nat.lt_trichotomy (k.idxOf p) (k.idxOf q) with h3 | h3 | h3
  ·exact h3
  ·have:p=q:=by rw [<- e1,<- e2];simp only [h3]
   subst this;exact absurd hlt (Ln _)
  ·have:=hs _ _ h2 h1 h3;rw [e1,e2] at this;exact absurd hlt (Va this)
def pre(T:List Nat)(w i:Nat):List Nat:=(T.drop i).take w
theorem qE:∀ (w:Nat) (a b:List Nat),a.take w < b.take w->a < b
 | 0,a,b,h=>by simp at h
 | w+1,a,[],h=>by simp at h
 | w+1,[],y::b,h=>by simp
 | w+1,x::a,y::b,h=>by
  rw [List.take_succ_cons,List.take_succ_cons,List.cons_lt_cons_iff] at h;rw [List.cons_lt_cons_iff];rcases h with h | ⟨h1,h2⟩
  ·exact .inl h
  ·exact .inr ⟨h1,qE w a b h2⟩
theorem Gl{T:List Nat}{w v i j:Nat}(h:pre T w i < pre T w j)(hv:w<=v):pre T v i < pre T v j:=by apply qE w;unfold pre at *;rw [List.take_take,List.take_take,Nat.min_eq_left hv];exact h
theorem Be:∀ (c a b:List Nat),c++a < c++b↔a < b
 | [],a,b=>by simp
 | x::c,a,b=>by rw [List.cons_append,List.cons_append,List.cons_lt_cons_iff,Be c a b];simp
theorem Vc{T:List Nat}{w i j:Nat}(h:pre T w i=pre T w j):pre T (2*w) i < pre T (2*w) j↔pre T w (i+w) < pre T w (j+w):=by
 have e:∀ i,pre T (2*w) i=pre T w i++pre T w (i+w):=fun i=>by unfold pre;rw [show 2*w=w+w by omega,List.take_add,List.drop_drop]
 rw [e,e,h,Be]
theorem wu(T:List Nat)(w i:Nat):(pre T w i).length=min w (T.length - i):=by simp [pre]
structure tL(T:List Nat)(w:Nat)(r:List Nat):Prop where
 len:r.length=T.length+1
 lt:∀ i j,i<=T.length->j<=T.length->(r.getD i 0 < r.getD j 0↔pre T w i < pre T w j)
def first(T:List Nat):List Pr:=(List.range (T.length+1)).map fun i=>(if i < T.length then 1+(T.getD i 0:Int) else 0,0)
def pairs(r:List Nat)(w:Nat):List Pr:=(List.range r.length).map fun i=>((r.getD i 0:Int),if i+w < r.length then (r.getD (i+w) 0:Int) else -1)
theorem lQ(T:List Nat):(first T).length=T.length+1:=by simp [first]
theorem gG(r:List Nat)(w:Nat):(pairs r w).length=r.length:=by simp [pairs]
theorem gU{l k:List Pr}{i:Nat}(h:i < l.length):(rnk l k).getD i 0=k.idxOf l[i]:=by simp [rnk,List.getD_eq_getElem?_getD,h]
theorem Yg(a b:List Nat):a < b\/a=b\/b < a:=by
 by_cases h:a < b
 ·exact .inl h
 by_cases h2:b < a
 ·exact .inr (.inr h2)
 exact .inr (.inl (List.le_antisymm (List.not_lt.1 h2) (List.not_lt.1 h)))
theorem drop_one(T:List Nat)(i:Nat):pre T 1 i=if i < T.length then [T.getD i 0] else []:=by
 unfold pre;split
 ·rename_i h;rw [List.drop_eq_getElem_cons h,List.getD_eq_getElem?_getD,List.getElem?_eq_getElem h];rfl
 ·rename_i h;rw [List.drop_eq_nil_of_le (by omega)];rfl
theorem Yh(a b:Nat):([a]:List Nat) < [b]↔a < b:=by rw [List.cons_lt_cons_iff];simp
theorem tL.first{T:List Nat}{k:List Pr}(h:Keys (first T) k):tL T 1 (rnk (RdP.first T) k):=by
 refine ⟨by rw [o9,lQ],fun i j hi hj=>?_⟩;have li:i < (RdP.first T).length:=by rw [lQ];omega
 have lj:j < (RdP.first T).length:=by rw [lQ];omega
 rw [gU li,gU lj,h.lt (List.getElem_mem _) (List.getElem_mem _),drop_one,drop_one];simp only [RdP.first,List.getElem_map,List.getElem_range,plt];split<;>split
 ·rw [Yh];omega
 ·simp;omega
 ·simp;omega
 ·simp
theorem tL.eq{T:List Nat}{w:Nat}{r:List Nat}(h:tL T w r){i j:Nat}(hi:i<=T.length)(hj:j<=T.length):r.getD i 0=r.getD j 0↔pre T w i=pre T w j:=by
 have h1:=h.lt i j hi hj;have h2:=h.lt j i hj hi;constructor
 ·intro e;rcases Yg (pre T w i) (pre T w j) with h3 | h3 | h3
  ·have:=h1.2 h3;omega
  ·exact h3
  ·have:=h2.2 h3;omega
 ·intro e;rcases Nat.lt_trichotomy (r.getD i 0) (r.getD j 0) with h3 | h3 | h3
  ·have:=h1.1 h3;rw [e] at this;exact absurd this (List.lt_irrefl _)
  ·exact h3
  ·have:=h2.1 h3;rw [e] at this;exact absurd this (List.lt_irrefl _)
theorem tL.step{T:List Nat}{w:Nat}{r:List Nat}{k:List Pr}(h:tL T w r)(hk:Keys (pairs r w) k):tL T (2*w) (rnk (pairs r w) k):=by
 refine ⟨by rw [o9,gG,h.len],fun i j hi hj=>?_⟩;have hlen:=h.len;have li:i < (pairs r w).length:=by rw [gG];omega
 have lj:j < (pairs r w).length:=by rw [gG];omega
 rw [gU li,gU lj,hk.lt (List.getElem_mem _) (List.getElem_mem _)];simp only [pairs,List.getElem_map,List.getElem_range,plt];have h1:=h.lt i j hi hj;have h2:=h.lt j i hj hi;have he:=h.eq hi hj;rcases Nat.lt_trichotomy (r.getD i 0) (r.getD j 0) with h3 | h3 | h3
 ·have:=Gl (h1.1 h3) (show w<=2*w by omega);simp only [this,iff_true];omega
 ·have e:=he.1 h3;rw [Vc e];have l1:=wu T w i;have l2:=wu T w j;rw [e] at l1;by_cases hfull:w<=T.length - i/\w<=T.length - j
  ·by_cases hi2:i+w<=T.length
   ·have hj2:j+w<=T.length:=by omega
    rw [if_pos (by omega),if_pos (by omega)];have:=h.lt (i+w) (j+w) hi2 hj2;rw [<- this];omega
   ·omega
  ·have hij:i=j:=by omega
   subst hij;simp only [List.lt_irrefl,iff_false];omega
 ·have:=Gl (h2.1 h3) (show w<=2*w by omega);have h4:=List.lt_asymm this;simp only [h4,iff_false];omega
theorem uW{α:Type}[DecidableEq α]:∀ (k l:List α),k.Nodup->(∀ p∈k,p∈l)->l.length<=k.length->l.Perm k
 | [],l,_,_,h=>by
  cases l with
  | nil=>exact .refl _
  | cons a l=>simp at h
 | a::k,l,hn,hs,h=>by
  have ha:=hs a (by simp);have hp:=List.perm_cons_erase ha;rw [List.nodup_cons] at hn;refine hp.trans (.cons a (uW k (l.erase a) hn.2 (fun p hp'=>?_) ?_))
  ·have hne:p≠a:=fun e=>hn.1 (e ▸ hp');exact (List.mem_erase_of_ne hne).2 (hs p (by simp [hp']))
  ·rw [List.length_erase_of_mem ha];simp only [List.length_cons] at h;omega
theorem xE{α:Type}[DecidableEq α]:∀ (k l:List α),k.Nodup->(∀ p∈k,p∈l)->k.length<=l.length
 | [],l,_,_=>by simp
 | a::k,l,hn,hs=>by
  have ha:=hs a (by simp);rw [List.nodup_cons] at hn;have:=xE k (l.erase a) hn.2 fun p hp'=>by have hne:p≠a:=fun e=>hn.1 (e ▸ hp');exact (List.mem_erase_of_ne hne).2 (hs p (by simp [hp']))
  rw [List.length_erase_of_mem ha] at this;have:0 < l.length:=List.length_pos_of_mem ha;simp only [List.length_cons];omega
theorem Keys.perm{l k:List Pr}(h:Keys l k)(hl:l.length<=k.length):l.Perm k:=uW k l h.nodup (fun p hp=>(h.mem p).1 hp) hl
theorem N3{l:List Pr}(h:l.Nodup):l.map l.idxOf=List.range l.length:=by
 apply List.ext_getElem
 ·simp
 ·intro i h1 h2;simp only [List.getElem_map,List.getElem_range];exact h.idxOf_getElem i (by simpa using h1)
def rows(l k:List Pr):List Nat:=k.map l.idxOf
theorem Vd{l k:List Pr}(h:Keys l k)(hl:l.length<=k.length){i:Nat}(hi:i < l.length):(rows l k)[(rnk l k).getD i 0]?=some i:=by have hn:l.Nodup:=(h.perm hl).nodup_iff.2 h.nodup;rw [gU hi];have hm:l[i]∈k:=(h.mem _).2 (List.getElem_mem _);have h1:=List.idxOf_lt_length_of_mem hm;simp only [rows,List.getElem?_map,List.getElem?_eq_getElem h1,List.getElem_idxOf,Option.map_some];rw [hn.idxOf_getElem i hi]
theorem Sn{T:List Nat}{w:Nat}{l k:List Pr}(h:Keys l k)(hl:l.length<=k.length)(hr:tL T w (rnk l k)) :
  (rows l k).Perm (List.range (T.length+1))/\(rows l k).Pairwise fun i j=>T.drop i < T.drop j:=by
 have hp:=h.perm hl;have hn:l.Nodup:=hp.nodup_iff.2 h.nodup;have hlen:l.length=T.length+1:=by rw [<- hr.len,o9]
 refine ⟨?_,?_⟩
 ·rw [<- hlen,<- N3 hn];exact (hp.map _).symm
 ·unfold rows;rw [List.pairwise_map];refine List.Pairwise.imp_of_mem (fun {p q} hp hq hlt=>?_) h.sorted;have hp':=(h.mem p).1 hp;have hq':=(h.mem q).1 hq;have i1:=List.idxOf_lt_length_of_mem hp';have i2:=List.idxOf_lt_length_of_mem hq';have:=(hr.lt (l.idxOf p) (l.idxOf q) (by omega) (by omega)).1 (by rw [gU i1,gU i2,List.getElem_idxOf,List.getElem_idxOf];exact (h.lt hp' hq').2 hlt)
  exact qE w _ _ this
theorem full{T:List Nat}{w:Nat}{l k:List Pr}(h:Keys l k)(hr:tL T w (rnk l k))(hw:T.length<=w):l.length<=k.length:=by
 have hlen:l.length=T.length+1:=by rw [<- hr.len,o9]
 have hn:l.Nodup:=by
  rw [List.Nodup,List.pairwise_iff_getElem];intro i j hi' hj' hij e;have:=(hr.eq (i:=i) (j:=j) (by omega) (by omega)).1 (by rw [gU hi',gU hj'];rw [e])
  have l1:=wu T w i;have l2:=wu T w j;rw [this] at l1;omega
 exact xE l k hn fun p hp=>(h.mem p).2 hp
end RdP
namespace TuB
open Go Go.RowKit AM aE LtA SyP TmM TsA TsB TsC TsE TsI TsJ TtA TtB TtC TtD TtE TtF TtG TtH TtI TtJ TtK TtL TtM TtN TtO TtP TuA Bt
def tM(k:List Pr)(p:Pr):List Pr:=if p∈k then k else k++[p]
def Jt(S:List Pr):List Pr:=S.foldl tM []
theorem Bf:∀ (S k:List Pr) (q:Pr),q∈S.foldl tM k↔q∈k\/q∈S
 | [],k,q=>by simp
 | p::S,k,q=>by
  rw [List.foldl_cons,Bf S (tM k p) q];unfold tM;split
  ·rename_i h;simp only [List.mem_cons];constructor
   ·rintro (h1 | h1)
    ·exact .inl h1
    ·exact .inr (.inr h1)
   ·rintro (h1 | h1 | h1)
    ·exact .inl h1
    ·subst h1;exact .inl h
    ·exact .inr h1
  ·simp only [List.mem_append,List.mem_cons,List.not_mem_nil,or_false];constructor
   ·rintro ((h1 | h1) | h1)
    ·exact .inl h1
    ·exact .inr (.inl h1)
    ·exact .inr (.inr h1)
   ·rintro (h1 | h1 | h1)
    ·exact .inl (.inl h1)
    ·exact .inl (.inr h1)
    ·exact .inr h1
theorem rV:∀ (S k:List Pr),k.Pairwise RdP.plt->(∀ q∈k,∀ p∈S,¬ RdP.plt p q)->S.Pairwise (fun p q=>¬ RdP.plt q p)->(S.foldl tM k).Pairwise RdP.plt
 | [],k,h,_,_=>h
 | p::S,k,h,h1,h2=>by
  rw [List.pairwise_cons] at h2;rw [List.foldl_cons];refine rV S (tM k p) ?_ ?_ h2.2
  ·unfold tM;split
   ·exact h
   ·rename_i hm;rw [List.pairwise_append];refine ⟨h,by simp,fun q hq r hr=>?_⟩;simp only [List.mem_cons,List.not_mem_nil,or_false] at hr;subst hr;rcases RdP.Vb q r with h3 | h3 | h3
    ·exact h3
    ·subst h3;exact absurd hq hm
    ·exact absurd h3 (h1 q hq r (by simp))
  ·intro q hq r hr;have:q∈k\/q=p:=by
    unfold tM at hq;split at hq
    ·exact .inl hq
    ·simpa using hq
   rcases this with h3 | h3
   ·exact h1 q h3 r (by simp [hr])
   ·subst h3;exact h2.1 r hr
theorem Ve{p q:Pr} : RdP.plt p q↔ltP p q=true:=C5.symm
theorem uX(W:Array Pr):(W.extract 0 W.size).toList=W.toList:=by simp
theorem C9(W:Array Pr):RdP.Keys W.toList (Jt (Go.Sort.sort ltP W).toList):=by
 obtain ⟨⟨h1,h2,h3⟩,h4⟩:=Go.Sort.sort_sorts ltP mT W;have h5:(Go.Sort.sort ltP W).toList.Perm W.toList:=by
  have e:(Go.Sort.sort ltP W).extract 0 W.size=(Go.Sort.sort ltP W).extract 0 (Go.Sort.sort ltP W).size:=by rw [h1]
  rw [e,uX,uX] at h3;exact h3
 refine ⟨?_,fun p=>?_⟩
 ·refine rV _ [] (by simp) (by simp) ?_;rw [List.pairwise_iff_getElem];intro i j hi hj hij;have:=h4 i j (by omega) hij (by rw [Array.length_toList] at hj;omega);simp only [Array.length_toList] at hi hj;rw [getElem!_pos _ j hj,getElem!_pos _ i hi] at this;rw [Ve];simp only [Array.getElem_toList];simp [this]
 ·unfold Jt;rw [Bf,h5.mem_iff];simp
section
variable{hp:List Blk}{L:Nat}{H d:List Nat}
theorem yI{b g n e:Nat}{S:Array Pr}(hS:S.size=n)(hn:n<=255)(hb:b < hp.length)(hF:Fit hp.length L H):∀ (j i:Nat) (k:List Pr),i+j=n->k.length<=i->∃ fr,
  aG env vR [19,18,2,0,17,5] (hp.length+2) [(19,.int .i64 i),(18,.int .i64 n),(2,.slice none 0 0),(0,.slice (some ⟨b,0,some g⟩) n e),(17,.slice (some ⟨hp.length,0,some (n*2)⟩) n 2),(5,.map (some (hp.length+1)))] ⟨hp++[.cells (n*2) true (prs S),.map (ent k 0)],L,H,[]⟩
   = some (.exit 0,fr,⟨hp++[.cells (n*2) true (prs S),.map (ent ((S.toList.drop i).foldl tM k) 0)],L,H,[]⟩)/\fr.get 2=some (.slice none 0 0)/\fr.get 0=some (.slice (some ⟨b,0,some g⟩) n e)/\fr.get 5=some (.map (some (hp.length+1)))
 | 0,i,k,hij,hk=>by
  have h1:¬ (i:Int) < (n:Int):=by omega
  rw [List.drop_of_length_le (by rw [Array.length_toList];omega),List.foldl_nil];rw [ak vR.eq_1];simp (disch:=first|exact dis|fail) only [sy,simprocAttr,-List.reduceReplicate,hF.all,h1];exact ⟨_,rfl,rfl,rfl,rfl⟩
 | j+1,i,k,hij,hk=>by
  have h1:(i:Int) < (n:Int):=by omega
  have hi:i < S.toList.length:=by rw [Array.length_toList];omega
  have hlen:(prs S).length=2*n:=by rw [dL,hS]
  have r1:=cm S (i:=i) (by omega);rw [Nat.mul_comm] at r1;have h2:0<=(i:Int)/\(i:Int) < (n:Int):=by omega
  have s1:i*2+2<=2*n:=by omega
  rw [List.drop_eq_getElem_cons hi,List.foldl_cons];have hS1:S.toList[i]=S[i]!:=by rw [getElem!_pos S i (by omega)];simp
  rw [hS1];generalize S[i]! = p at *;have hf:=yH p k 0;have hs:=Gj p k 0;have hfit:=Js p;have hlk:=C8 k 0;rw [Nat.zero_add] at hs hf;unfold pv at hf hs hfit;have hg:=fun c0 c1 c2 i1=>Rn (hp:=hp) (nw:=[c0,c1,c2]) (L:=L) (H:=H) (fr:=[(19,.int .i64 i1),(18,.int .i64 n),(2,.slice none 0 0),(0,.slice (some ⟨b,0,some g⟩) n e),(17,.slice (some ⟨hp.length,0,some (n*2)⟩) n 2),(5,.map (some (hp.length+1)))]) 2 (by simp) (by intro q hq r hr;simp only [List.mem_cons,List.not_mem_nil,or_false] at hq;rcases hq with rfl | rfl | rfl | rfl | rfl | rfl<;>simp [refs,bw,aI] at hr<;>omega)
  simp only [List.take_succ_cons,List.take_zero] at hg;rw [ak vR.eq_1];by_cases hm:p∈k
  ·have ha:tM k p=k:=by unfold tM;rw [if_pos hm]
   rw [ha];rw [if_pos hm] at hf;obtain ⟨fr,ih,ih2⟩:=yI (g:=g) (e:=e) hS hn hb hF j (i+1) k (by omega) (by omega);refine ⟨fr,?_,ih2⟩;simp only [Int.natCast_add,Int.natCast_one] at ih;simp (disch:=first|exact dis|fail) only [sy,simprocAttr,-List.reduceReplicate,hF.all,h1,h2,hlen,r1,s1,rT,jY,rU,mV,mW,Gg,hf,hfit,Option.isSome_some,hg,ih]
  ·have ha:tM k p=k++[p]:=by unfold tM;rw [if_neg hm]
   rw [ha];rw [if_neg hm] at hf;obtain ⟨fr,ih,ih2⟩:=yI (g:=g) (e:=e) hS hn hb hF j (i+1) (k++[p]) (by omega) (by simp;omega);refine ⟨fr,?_,ih2⟩;rw [hs] at ih;simp only [Int.natCast_add,Int.natCast_one] at ih;simp (disch:=first|exact dis|fail) only [sy,simprocAttr,-List.reduceReplicate,hF.all,h1,h2,hlen,r1,s1,rT,jY,rU,Sm,Ge,yF,yG,Jq,Jr,N1,mV,mW,Gg,hf,hfit,hlk,Option.isSome_none,hg,ih]
end
end TuB
namespace TuC
open Go Go.RowKit AM aE LtA SyP TmM TsA TsB TsC TsE TsI TsJ TtA TtB TtC TtD TtE TtF TtG TtH TtI TtJ TtK TtL TtM TtN TtO TtP TuA TuB Bt
section
variable{hp:List Blk}{L:Nat}{H d:List Nat}
theorem Lo{b g n e m k:Nat}{cs:List Value}{c0 c1:Blk}{nw:List Blk}{i1 i2:Int}(hk:nw[k]?=some (.cells n true cs))(hb:b < hp.length) :
  jo (hp.length+2) [(2,.slice (some ⟨hp.length+2+k,0,some n⟩) n 1),(38,.int .i64 i1),(37,.int .i64 i2),(36,.slice (some ⟨b,0,some g⟩) m e),(5,.map (some (hp.length+1)))] ⟨hp++c0::c1::nw,L,H,[]⟩
   = some ([(2,.slice (some ⟨hp.length+2,0,some n⟩) n 1),(38,.int .i64 i1),(37,.int .i64 i2),(36,.slice (some ⟨b,0,some g⟩) m e),(5,.map (some (hp.length+1)))],⟨hp++[c0,c1,.cells n true cs],L,H,[]⟩):=by
 unfold jo;have ee:hp++c0::c1::nw=(hp++[c0,c1])++nw:=by simp
 have hl:(hp++[c0,c1]).length=hp.length+2:=by simp
 have G:=CO (h:=hp++[c0,c1]) (nw:=nw) (k:=k) (L:=L) (H:=H) (d:=[]) (vs:=List.map (·.2) [(2,Value.slice (some ⟨hp.length+2+k,0,some n⟩) n 1),(38,.int .i64 i1),(37,.int .i64 i2),(36,.slice (some ⟨b,0,some g⟩) m e),(5,.map (some (hp.length+1)))]) hk (by intro u hu r hr;rw [hl];simp only [List.map_cons,List.map_nil,List.mem_cons,List.not_mem_nil,or_false] at hu;rcases hu with rfl | rfl | rfl | rfl | rfl<;>simp [refs,bw,aI] at hr<;>omega) ⟨.slice (some ⟨hp.length+2+k,0,some n⟩) n 1,by simp,by rw [hl];simp [refs,bw,aI]⟩ rfl
 rw [hl] at G;rw [ee,G];have o0:AM.one (hp.length+2) (hp.length+2+k) (hp.length+1)=hp.length+1:=rM (by omega);have o1:AM.one (hp.length+2) (hp.length+2+k) b=b:=rM (by omega);have o2:AM.one (hp.length+2) (hp.length+2+k) (hp.length+2+k)=hp.length+2:=eU;simp only [Option.map_some,List.map_cons,List.map_nil,List.zip_cons_cons,List.zip_nil_left];simp only [ren,fN,dU,o0,o1,o2,Option.map_some,List.append_assoc,List.cons_append,List.nil_append]
def Vf(hp:List Blk)(b g n e i:Nat)(sl:Value):Fr:=[(2,sl),(38,.int .i64 i),(37,.int .i64 n),(36,.slice (some ⟨b,0,some g⟩) n e),(5,.map (some (hp.length+1)))]
theorem Gm{b g n e:Nat}{W:Array Pr}{k:List Pr}{c0:Blk}(hb:hp[b]?=some (.cells g true (prs W)))(hh:H.contains b=false)(hD:W.size=n)(hn:n<=255)(hk:∀ p∈W.toList,p∈k)(hF:Fit hp.length L H):∀ (j i:Nat) (acc:List Nat),i+j=n->acc.length=i->∃ fr,
  aG env vQ [2,38,37,36,5] (hp.length+2) (Vf hp b g n e i (slI (hp.length+2) acc)) ⟨hp++c0::.map (ent k 0)::NT acc,L,H,[]⟩
   = some (.exit 2,fr,⟨hp++c0::.map (ent k 0)::NT (acc++(W.toList.drop i).map k.idxOf),L,H,[]⟩)/\fr.get 2=some (slI (hp.length+2) (acc++(W.toList.drop i).map k.idxOf))/\fr.get 5=some (.map (some (hp.length+1)))
 | 0,i,acc,hij,hacc=>by
  have h1:¬ (i:Int) < (n:Int):=by omega
  rw [List.drop_of_length_le (by rw [Array.length_toList];omega),List.map_nil,List.append_nil];unfold Vf;rw [ak vQ.eq_1];simp (disch:=first|exact dis|fail) only [sy,simprocAttr,-List.reduceReplicate,hF.all,h1];exact ⟨_,rfl,rfl,rfl⟩
 | j+1,i,acc,hij,hacc=>by
  have h1:(i:Int) < (n:Int):=by omega
  have hi:i < W.toList.length:=by rw [Array.length_toList];omega
  have hbl:=(List.getElem?_eq_some_iff.1 hb).1;have hlen:(prs W).length=2*n:=by rw [dL,hD]
  have r1:=cm W (i:=i) (by omega);rw [Nat.mul_comm] at r1;have h2:0<=(i:Int)/\(i:Int) < (n:Int):=by omega
  have s1:i*2+2<=2*n:=by omega
  rw [List.drop_eq_getElem_cons hi,List.map_cons];have hp1:=hk _ (List.getElem_mem hi);have hS1:W.toList[i]=W[i]!:=by rw [getElem!_pos W i (by omega)];simp
  rw [hS1] at hp1 ⊢;generalize W[i]! = p at *;have hf:=yH p k 0;have hfit:=Js p;rw [if_pos hp1,Nat.zero_add] at hf;unfold pv at hf hfit;obtain ⟨fr,ih,ih2⟩:=Gm (c0:=c0) (e:=e) hb hh hD hn hk hF j (i+1) (acc++[k.idxOf p]) (by omega) (by simp;omega);rw [List.append_assoc,List.singleton_append] at ih ih2;refine ⟨fr,?_,ih2⟩;refine Eq.trans ?_ ih;generalize k.idxOf p=x at *;have hgb:∀ nw:List Blk,(hp++nw)[b]?=some (.cells g true (prs W)):=fun nw=>by rw [jX hbl];exact hb
  have hs1:small 1=true:=by decide
  unfold Vf;rw [ak vQ.eq_1];simp only [Int.natCast_add,Int.natCast_one];by_cases ha0:acc=[]
  ·subst ha0;have hN:([]++[x]:List Nat).length=1:=rfl;rw [Lg hN (by decide),C1 hN (by decide)];have ha:=fun nw=>R3 (hp:=hp++nw) (L:=L) (H:=H) (d:=[]) (x:=x);simp only [List.length_append] at ha;have hg:=fun c0 c1 c2 c3 i1=>Lo (hp:=hp) (L:=L) (H:=H) (b:=b) (g:=g) (e:=e) (m:=n) (k:=2) (n:=1) (cs:=is [x]) (c0:=c0) (c1:=c1) (nw:=[c2,c3,.cells 1 true (is [x])]) (i1:=i1) (i2:=(n:Int)) rfl hbl;simp only [Nat.add_assoc,Nat.reduceAdd] at hg;simp (disch:=first|exact dis|fail) only [sy,simprocAttr,-List.reduceReplicate,hF.all,Lf,F5,h1,h2,hlen,r1,s1,hs1,hb,hh,hgb,rT,jY,rU,mV,mW,Gh,hf,hfit,ha,hg]
  ·have hao:¬ acc.length=0:=by cases acc<;>simp at ha0 ⊢
   have hN:(acc++[x]:List Nat).length=acc.length+1:=by simp
   rw [Lg rfl hao,C1 rfl hao,Lg hN (by omega),C1 hN (by omega)];have ha:=fun c0 c1 nw=>U3 (hp:=hp++c0::c1::.cells acc.length true (is acc)::nw) (L:=L) (H:=H) (d:=[]) (b:=hp.length+2) (x:=x) rfl (by rw [gj];rfl) (by have:=hF.1;omega) (hF.nL 2) (by omega);have hg:=fun c0 c1 c2 c3 i1=>Lo (hp:=hp) (L:=L) (H:=H) (b:=b) (g:=g) (e:=e) (m:=n) (k:=0) (n:=acc.length+1) (cs:=is (acc++[x])) (c0:=c0) (c1:=c1) (nw:=[.cells (acc.length+1) true (is (acc++[x])),c2,c3]) (i1:=i1) (i2:=(n:Int)) rfl hbl;simp only [Nat.add_zero] at hg;simp (disch:=first|exact dis|fail) only [sy,simprocAttr,-List.reduceReplicate,hF.all,h1,h2,hlen,r1,s1,hs1,hb,hh,hgb,rT,jY,rU,mV,mW,Gh,hf,hfit,ha,hg]
def fX(W:Array Pr):List Pr:=Jt (Go.Sort.sort ltP W).toList
theorem N4(W:Array Pr):(Go.Sort.sort ltP W).size=W.size:=(Go.Sort.sort_sorts ltP mT W).1.1
theorem oz{b g n e:Nat}{W:Array Pr}(hb:hp[b]?=some (.cells g true (prs W)))(hh:H.contains b=false)(hD:W.size=n)(h0:1<=n)(hn:n<=255)(hF:Fit hp.length L H) :
  aN env (.func 173) [.slice (some ⟨b,0,some g⟩) n e] ⟨hp,L,H,d⟩=some (.tuple #[.slice (some ⟨hp.length,0,some n⟩) n 1,.int .i64 (fX W).length],⟨hp++[.cells n true (is (RdP.rnk W.toList (fX W)))],L,H,d⟩):=by
 rw [av 173 _ _ aap];have hbl:=(List.getElem?_eq_some_iff.1 hb).1;have kc:=fun d=>qD (d:=d) (e:=e) hb hD hh h0 hn hF;have ks:=fun d=>tK (hp:=hp++[.cells (n*2) true (prs W)]) (L:=L) (H:=H) (d:=d) (b:=hp.length) (g:=n*2) (n:=n) (e:=2) (W:=W) (by rw [dK]) hD hF.1 hF.jv (.inr rfl) hn (hF.mono (by simp));simp only [iV] at ks;have hK:=C9 W;have hSz:=N4 W;obtain ⟨fr,l0,l1,l2,l3⟩:=yI (hp:=hp) (L:=L) (H:=H) (b:=b) (g:=g) (e:=e) (S:=Go.Sort.sort ltP W) (hSz.trans hD) hn hbl hF n 0 [] (by omega) (by simp);rw [List.drop_zero] at l0;change _=some (Ex.exit 0,fr,(⟨hp++[.cells (n*2) true (prs (Go.Sort.sort ltP W)),.map (ent (fX W) 0)],L,H,[]⟩:St)) at l0;have hkm:∀ p∈W.toList,p∈fX W:=fun p hp=>(hK.mem p).2 hp;have hkl:=C8 (fX W) 0;generalize fX W=k at *;generalize Go.Sort.sort ltP W=S at *;obtain ⟨fr2,q0,q1,q2⟩:=Gm (hp:=hp) (L:=L) (H:=H) (b:=b) (g:=g) (e:=e) (c0:=.cells (n*2) true (prs S)) hb hh hD hn hkm hF n 0 [] (by omega) rfl;rw [List.drop_zero,List.nil_append] at q0 q1;have hR:((W.toList).map k.idxOf).length=n:=by rw [List.length_map,Array.length_toList,hD]
 change _=some (Ex.exit 2,fr2,(⟨hp++.cells (n*2) true (prs S)::.map (ent k 0)::NT (RdP.rnk W.toList k),L,H,[]⟩:St)) at q0;change fr2.get 2=some (slI (hp.length+2) (RdP.rnk W.toList k)) at q1;change (RdP.rnk W.toList k).length=n at hR;generalize RdP.rnk W.toList k=R at *;rw [C1 hR (by omega)] at q0;rw [Lg hR (by omega)] at q1;unfold Vf at q0;simp only [Lf,F5,Int.natCast_zero] at q0 l0;have hG:=iO (h:=hp) (nw:=[.cells (n*2) true (prs S),.map (ent k 0),.cells n true (is R)]) (L:=L) (H:=H) (v:=.tuple #[.slice (some ⟨hp.length+2,0,some n⟩) n 1,.int .i64 k.length]) 2 rfl (by simp [refs,bw,aI]) (by simp [refs,bw,aI]);have o2:AM.one hp.length (hp.length+2) (hp.length+2)=hp.length:=eU;have e0:ent [] 0=[]:=rfl;rw [e0] at l0;simp only [aB] at ks;simp (disch:=first|exact dis|fail) only [sy,simprocAttr,-List.reduceReplicate,hF.all,KT,kc,ks,N0,l0,l1,l2,l3,q0,q1,q2,rT,jY,Ge,yF,yG,hkl,hG,ren,fN,dU,o2,List.map_cons,List.map_nil]
end
end TuC
namespace TuD
open Go Go.RowKit AM aE LtA SyP TmM TsA TsB TsC TsE TsI TsJ TtA TtB TtC TtD TtE TtF TtG TtH TtI TtJ TtK TtL TtM TtN TtO TtP TuA TuB TuC Bt
theorem Gn:∀ n:Nat,(List.replicate n [Value.int .i64 0,Value.int .i64 0]).flatten=prL (List.replicate n ((0:Int),(0:Int)))
 | 0=>rfl
 | n+1=>by rw [List.replicate_succ,List.flatten_cons,Gn n,List.replicate_succ];rfl
theorem yJ:∀ (l:List Pr) (i:Nat) (h:i < l.length) (a:Int),(prL l).set (i*2) (.int .i64 a)=prL (l.set i (a,l[i].2))
 | p::l,0,h,a=>rfl
 | p::l,i+1,h,a=>by rw [prL,show (i+1)*2=i*2+1+1 by omega,List.set_cons_succ,List.set_cons_succ,yJ l i (by simpa using h) a];rfl
theorem yK:∀ (l:List Pr) (i:Nat) (h:i < l.length) (a:Int),(prL l).set (i*2+1) (.int .i64 a)=prL (l.set i (l[i].1,a))
 | p::l,0,h,a=>rfl
 | p::l,i+1,h,a=>by rw [prL,show (i+1)*2+1=(i*2+1)+1+1 by omega,List.set_cons_succ,List.set_cons_succ,yK l i (by simpa using h) a];rfl
theorem So:∀ (l:List Pr) (i:Nat) (h:i < l.length) (a c:Int),((prL l).set (i*2) (.int .i64 a)).set (i*2+1) (.int .i64 c)=prL (l.set i (a,c)):=fun l i h a c=>by rw [yJ l i h,yK _ i (by simpa using h),List.set_set];simp
def fI(x:List Nat)(i:Nat):List Pr:=(List.range (x.length+1)).map fun q=>(if q < i/\q < x.length then 1+(x.getD q 0:Int) else 0,0)
theorem Yi(x:List Nat)(i:Nat):(fI x i).length=x.length+1:=by simp [fI]
theorem Vg(x:List Nat):fI x 0=List.replicate (x.length+1) (0,0):=by
 apply List.ext_getElem
 ·simp [fI]
 ·intro q h1 h2;simp [fI]
theorem Yj(x:List Nat):fI x x.length=RdP.first x:=by
 apply List.ext_getElem
 ·simp [fI,RdP.first]
 ·intro q h1 h2;simp only [fI,RdP.first,List.getElem_map,List.getElem_range];by_cases h:q < x.length
  ·rw [if_pos ⟨h,h⟩,if_pos h]
  ·rw [if_neg (fun k=>h k.1),if_neg h]
theorem Yk{x:List Nat}{i:Nat}(h:i < x.length)(hl:i < (fI x i).length):(fI x i).set i (1+(x.getD i 0:Int),(fI x i)[i].2)=fI x (i+1):=by
 apply List.ext_getElem
 ·simp [fI]
 ·intro q h1 h2;rw [List.getElem_set];simp only [fI,List.getElem_map,List.getElem_range];by_cases e:i=q
  ·subst e;rw [if_pos rfl,if_pos ⟨by omega,h⟩]
  ·rw [if_neg e];by_cases e2:q < i/\q < x.length
   ·rw [if_pos e2,if_pos ⟨by omega,e2.2⟩]
   ·rw [if_neg e2,if_neg (by omega)]
section
variable{hp:List Blk}{L:Nat}{H d:List Nat}
theorem Gp{x:List Nat}{a:Option Addr}{e n m:Nat}(hR:Rd ⟨hp,L,H,[]⟩ (.slice a n e) x)(hxs:x.length<=254)(h8:By x)(hm:m=x.length+1)(hF:Fit hp.length L H):∀ (j i:Nat),i+j=x.length->∃ fr,
  aG env vK [16,15,14,3] (hp.length+1) [(16,.int .i64 i),(15,.int .i64 x.length),(14,.slice a n e),(3,.slice (some ⟨hp.length,0,some 0⟩) m 2)] ⟨hp++[.cells 0 true (prL (fI x i))],L,H,[]⟩
   = some (.exit 0,fr,⟨hp++[.cells 0 true (prL (RdP.first x))],L,H,[]⟩)/\fr.get 3=some (.slice (some ⟨hp.length,0,some 0⟩) m 2)
 | 0,i,hij=>by
  have h1:¬ (i:Int) < (x.length:Int):=by omega
  obtain rfl:i=x.length:=by omega
  rw [Yj,ak vK.eq_1];simp (disch:=first|exact dis|fail) only [sy,simprocAttr,-List.reduceReplicate,hF.all,h1];exact ⟨_,rfl,rfl⟩
 | j+1,i,hij=>by
  have h1:(i:Int) < (x.length:Int):=by omega
  have hi:i < x.length:=by omega
  obtain ⟨b,of,g,pl,cs,rfl,rfl,hh,hb,hcx⟩:=hR.at_ hi;have hbl:=(List.getElem?_eq_some_iff.1 hb).1;obtain ⟨fr,ih,ih2⟩:=Gp hR hxs h8 hm hF j (i+1) (by omega);refine ⟨fr,?_,ih2⟩;have hfl:=Yi x i;have hil:i < (fI x i).length:=by omega
  have hgd:x[i]=x.getD i 0:=by rw [List.getD_eq_getElem?_getD,List.getElem?_eq_getElem hi];rfl
  have hv8:=h8 _ (List.getElem_mem hi);have bK:=yJ (fI x i) i hil (1+(x.getD i 0:Int));rw [Yk hi hil] at bK;rw [hgd] at hcx hv8;clear hgd;have hpl:(prL (fI x i)).length=2*m:=by rw [mS,hfl,hm]
  generalize prL (fI x i)=P at *;generalize prL (fI x (i+1))=P' at *;generalize x.getD i 0=c at *;have h2:0<=(i:Int)/\(i:Int) < (x.length:Int):=by omega
  have h3:0<=(i:Int)/\(i:Int) < (m:Int):=by omega
  have s1:i*2+1<=2*m:=by omega
  simp only [Int.natCast_add,Int.natCast_one] at ih;rw [ak vK.eq_1];have hgb:∀ nw:List Blk,(hp++nw)[b]?=some (.cells g pl cs):=fun nw=>by rw [jX hbl];exact hb
  simp (disch:=first|exact dis|fail) only [sy,simprocAttr,-List.reduceReplicate,hF.all,h1,h2,h3,hh,hb,hgb,hcx,hpl,s1,bK,ih]
def pI(l:List Pr)(r:List Nat)(w i:Nat):List Pr:=(RdP.pairs r w).take i++l.drop i
theorem Lp(l:List Pr)(r:List Nat)(w:Nat):pI l r w 0=l:=by simp [pI]
theorem Yl{l:List Pr}{r:List Nat}{w:Nat}(h:l.length=r.length):pI l r w r.length=RdP.pairs r w:=by unfold pI;rw [List.take_of_length_le (by rw [RdP.gG];omega),List.drop_of_length_le (by omega),List.append_nil]
theorem Ym{l:List Pr}{r:List Nat}{w i:Nat}(h:l.length=r.length):(pI l r w i).length=r.length:=by unfold pI;simp [RdP.gG];omega
theorem Yn{l:List Pr}{r:List Nat}{w i:Nat}(h:l.length=r.length)(hi:i < r.length):(pI l r w i).set i ((r.getD i 0:Int),if i+w < r.length then (r.getD (i+w) 0:Int) else -1)=pI l r w (i+1):=by
 unfold pI;have hl:i < (RdP.pairs r w).length:=by rw [RdP.gG];exact hi
 rw [List.set_append_right _ _ (by rw [List.length_take];exact Nat.min_le_left _ _),List.length_take,Nat.min_eq_left (by omega),Nat.sub_self,List.drop_eq_getElem_cons (show i < l.length by omega),List.set_cons_zero,List.take_succ_eq_append_getElem hl,List.append_assoc];simp [RdP.pairs]
theorem yL{r:List Nat}{w n b q:Nat}(hb:b < hp.length)(hq:hp[q]?=some (.cells n true (is r)))(hbq:b≠q)(hL:L<=b)(hhb:H.contains b=false)(hhq:H.contains q=false)(hn:r.length=n)(hn2:n<=255)(hw1:1<=w)(hw:w<=1000){l:List Pr}(hl:l.length=n)(hF:Fit hp.length L H):∀ (j i:Nat),i+j=n->∃ fr,
  aG env vJ [42,41,3,6,8] hp.length [(42,.int .i64 i),(41,.int .i64 n),(3,.slice (some ⟨b,0,some 0⟩) n 2),(6,.slice (some ⟨q,0,some n⟩) n 1),(8,.int .i64 w)] ⟨hp.set b (.cells 0 true (prL (pI l r w i))),L,H,[]⟩
   = some (.exit 4,fr,⟨hp.set b (.cells 0 true (prL (RdP.pairs r w))),L,H,[]⟩)/\fr.get 3=some (.slice (some ⟨b,0,some 0⟩) n 2)/\fr.get 6=some (.slice (some ⟨q,0,some n⟩) n 1)/\fr.get 8=some (.int .i64 w)
 | 0,i,hij=>by
  have h1:¬ (i:Int) < (n:Int):=by omega
  obtain rfl:i=n:=by omega
  rw [<- hn,Yl (hl.trans hn.symm),ak vJ.eq_1];rw [<- hn] at h1;simp (disch:=first|exact dis|fail) only [sy,simprocAttr,-List.reduceReplicate,hF.all,h1];exact ⟨_,rfl,rfl,rfl,rfl⟩
 | j+1,i,hij=>by
  have h1:(i:Int) < (n:Int):=by omega
  obtain ⟨fr,ih,ih2⟩:=yL hb hq hbq hL hhb hhq hn hn2 hw1 hw hl hF j (i+1) (by omega);refine ⟨fr,?_,ih2⟩;have hpn:=Ym (w:=w) (i:=i) (hl.trans hn.symm);have bK:=Yn (w:=w) (i:=i) (hl.trans hn.symm) (by omega);have hsp:=So (pI l r w i) i (by omega) (r.getD i 0:Int);have abm:=fun c c'=>yK ((pI l r w i).set i ((r.getD i 0:Int),c)) i (by simp;omega) c';simp only [List.getElem_set_self,List.set_set] at abm;have hpl:(prL (pI l r w i)).length=2*n:=by rw [mS,hpn,hn]
  have hql:=(List.getElem?_eq_some_iff.1 hq).1;have hg1:∀ B:Blk,(hp.set b B)[b]?=some B:=fun B=>List.getElem?_set_self hb;have hg2:∀ B:Blk,(hp.set b B)[q]?=some (.cells n true (is r)):=fun B=>by rw [List.getElem?_set_ne hbq];exact hq
  have hss:∀ A B:Blk,(hp.set b A).set b B=hp.set b B:=fun A B=>List.set_set ..;have hnl:¬ b < L:=by omega
  have hc1:(is r)[i]?=some (.int .i64 (r.getD i 0:Nat)):=by rw [is,List.getElem?_map,List.getD_eq_getElem?_getD,List.getElem?_eq_getElem (by omega)];rfl
  have h2:0<=(i:Int)/\(i:Int) < (n:Int):=by omega
  have s1:i*2+2<=2*n:=by omega
  have s2:i*2+1+1<=2*n:=by omega
  rw [ak vJ.eq_1];simp only [Int.natCast_add,Int.natCast_one] at ih;by_cases hiw:i+w < n
  ·have h3:(i:Int)+(w:Int) < (n:Int):=by omega
   have h4:0<=(i:Int)+(w:Int)/\(i:Int)+(w:Int) < (n:Int):=by omega
   have h5:((i:Int)+(w:Int)).toNat=i+w:=by omega
   have hc2:(is r)[i+w]?=some (.int .i64 (r.getD (i+w) 0:Nat)):=by rw [is,List.getElem?_map,List.getD_eq_getElem?_getD,List.getElem?_eq_getElem (by omega)];rfl
   rw [if_pos (by omega)] at bK;generalize r.getD (i+w) 0=y at *;generalize r.getD i 0=z at *;have t1:=hsp (-1);have t2:=abm (-1) y;rw [bK] at t2;have l2:(prL ((pI l r w i).set i ((z:Int),(-1:Int)))).length=2*n:=by rw [mS,List.length_set,hpn,hn]
   generalize prL (pI l r w i)=P at *;generalize prL ((pI l r w i).set i ((z:Int),(-1:Int)))=P1 at *;generalize prL (pI l r w (i+1))=P2 at *;simp (disch:=first|exact dis|fail) only [sy,simprocAttr,-List.reduceReplicate,hF.all,h1,h2,h3,h4,h5,hhb,hhq,hg1,hg2,hss,hnl,hc1,hc2,hpl,l2,s1,s2,t1,t2,ih]
  ·have h3:¬ (i:Int)+(w:Int) < (n:Int):=by omega
   rw [if_neg (by omega)] at bK;generalize r.getD i 0=z at *;have t1:=hsp (-1);rw [bK] at t1;generalize prL (pI l r w i)=P at *;generalize prL (pI l r w (i+1))=P2 at *;simp (disch:=first|exact dis|fail) only [sy,simprocAttr,-List.reduceReplicate,hF.all,h1,h2,h3,hhb,hhq,hg1,hg2,hss,hnl,hc1,hpl,s1,s2,t1,ih]
end
end TuD
namespace TuE
open Go Go.RowKit AM aE LtA SyP TmM TsA TsB TsC TsE TsI TsJ TtA TtB TtC TtD TtE TtF TtG TtH TtI TtJ TtK TtL TtM TtN TtO TtP TuA TuB TuC TuD Bt
section
variable{hp:List Blk}{L:Nat}{H d:List Nat}
theorem Lq{n m k:Nat}{cs:List Value}{c0 c1:Blk}{nw:List Blk}{i1 i2:Int}(hk:nw[k]?=some (.cells n true cs)) :
  jo (hp.length+2) [(7,.int .i64 i1),(3,.slice (some ⟨hp.length,0,some 0⟩) m 2),(6,.slice (some ⟨hp.length+2+k,0,some n⟩) m 1),(8,.int .i64 i2)] ⟨hp++c0::c1::nw,L,H,[]⟩
   = some ([(7,.int .i64 i1),(3,.slice (some ⟨hp.length,0,some 0⟩) m 2),(6,.slice (some ⟨hp.length+2,0,some n⟩) m 1),(8,.int .i64 i2)],⟨hp++[c0,c1,.cells n true cs],L,H,[]⟩):=by
 unfold jo;have ee:hp++c0::c1::nw=(hp++[c0,c1])++nw:=by simp
 have hl:(hp++[c0,c1]).length=hp.length+2:=by simp
 have G:=CO (h:=hp++[c0,c1]) (nw:=nw) (k:=k) (L:=L) (H:=H) (d:=[]) (vs:=List.map (·.2) [(7,Value.int .i64 i1),(3,.slice (some ⟨hp.length,0,some 0⟩) m 2),(6,.slice (some ⟨hp.length+2+k,0,some n⟩) m 1),(8,.int .i64 i2)]) hk (by intro u hu r hr;rw [hl];simp only [List.map_cons,List.map_nil,List.mem_cons,List.not_mem_nil,or_false] at hu;rcases hu with rfl | rfl | rfl | rfl<;>simp [refs,bw,aI] at hr<;>omega) ⟨.slice (some ⟨hp.length+2+k,0,some n⟩) m 1,by simp,by rw [hl];simp [refs,bw,aI]⟩ rfl
 rw [hl] at G;rw [ee,G];have o0:AM.one (hp.length+2) (hp.length+2+k) hp.length=hp.length:=rM (by omega);have o2:AM.one (hp.length+2) (hp.length+2+k) (hp.length+2+k)=hp.length+2:=eU;simp only [Option.map_some,List.map_cons,List.map_nil,List.zip_cons_cons,List.zip_nil_left];simp only [ren,fN,dU,o0,o2,Option.map_some,List.append_assoc,List.cons_append,List.nil_append]
def RkS(hp:List Blk)(n:Nat)(c0:Blk)(nw:List Blk)(q:Nat)(r:List Nat):Prop:=(nw=[]/\q=hp.length+1/\c0=.cells n true (is r))\/(nw=[.cells n true (is r)]/\q=hp.length+2)
def Ju(hp:List Blk)(n c q w:Nat):Fr:=[(7,.int .i64 c),(3,.slice (some ⟨hp.length,0,some 0⟩) n 2),(6,.slice (some ⟨q,0,some n⟩) n 1),(8,.int .i64 w)]
theorem Sq{n c q w:Nat}{c0:Blk}{nw:List Blk}{l:List Pr}{r:List Nat}(hS:RkS hp n c0 nw q r)(hl:l.length=n)(hr:r.length=n)(h1:1<=n)(hn:n<=255)(hc:c < n)(hw1:1<=w)(hw:w<=500)(hF:Fit hp.length L H) :
  aG env mI [7,3,6,8] (hp.length+2) (Ju hp n c q w) ⟨hp++.cells 0 true (prL l)::c0::nw,L,H,[]⟩
   = aG env mI [7,3,6,8] (hp.length+2) (Ju hp n (fX (RdP.pairs r w).toArray).length (hp.length+2) (2*w)) ⟨hp++[.cells 0 true (prL (RdP.pairs r w)),c0,.cells n true (is (RdP.rnk (RdP.pairs r w) (fX (RdP.pairs r w).toArray)))],L,H,[]⟩:=by
 have hpl:(RdP.pairs r w).length=n:=by rw [RdP.gG,hr]
 have hg1:(c:Int) < (n:Int):=by omega
 have e2:(w:Int)*2=((2*w:Nat):Int):=by omega
 rcases hS with ⟨rfl,rfl,rfl⟩ | ⟨rfl,rfl⟩
 ·obtain ⟨fi,i0,i1,i2,i3⟩:=yL (hp:=hp++[.cells 0 true (prL l),.cells n true (is r)]) (L:=L) (H:=H) (b:=hp.length) (q:=hp.length+1) (n:=n) (r:=r) (w:=w) (l:=l) (by simp) (by rw [gj];rfl) (by omega) hF.1 hF.jv (hF.nL 1) hr hn hw1 (by omega) hl (hF.mono (by simp)) n 0 (by omega);rw [Lp] at i0;simp only [iV] at i0;have kr:=fun d=>oz (hp:=hp++[.cells 0 true (prL (RdP.pairs r w)),.cells n true (is r)]) (L:=L) (H:=H) (d:=d) (b:=hp.length) (g:=0) (n:=n) (e:=2) (W:=(RdP.pairs r w).toArray) (by rw [dK];rfl) hF.jv (by simpa using hpl) h1 hn (hF.mono (by simp));have hg:=fun c0 c1 c2 i1 i2=>Lq (hp:=hp) (L:=L) (H:=H) (k:=0) (n:=n) (m:=n) (cs:=is (RdP.rnk (RdP.pairs r w) (fX (RdP.pairs r w).toArray))) (c0:=c0) (c1:=c1) (nw:=.cells n true (is (RdP.rnk (RdP.pairs r w) (fX (RdP.pairs r w).toArray)))::c2) (i1:=i1) (i2:=i2) rfl;simp only [Nat.add_zero] at hg;generalize fX (RdP.pairs r w).toArray=k at *;generalize RdP.rnk (RdP.pairs r w) k=r' at *;simp only [List.length_append,List.length_cons,List.length_nil,Nat.zero_add,Nat.reduceAdd,Int.natCast_zero] at i0 kr;unfold Ju;rw [ak mI.eq_1];simp (disch:=first|exact dis|fail) only [sy,simprocAttr,-List.reduceReplicate,hF.all,hg1,i0,i1,i2,i3,kr,e2,hg]
 ·obtain ⟨fi,i0,i1,i2,i3⟩:=yL (hp:=hp++[.cells 0 true (prL l),c0,.cells n true (is r)]) (L:=L) (H:=H) (b:=hp.length) (q:=hp.length+2) (n:=n) (r:=r) (w:=w) (l:=l) (by simp) (by rw [gj];rfl) (by omega) hF.1 hF.jv (hF.nL 2) hr hn hw1 (by omega) hl (hF.mono (by simp)) n 0 (by omega);rw [Lp] at i0;simp only [iV] at i0;have kr:=fun d=>oz (hp:=hp++[.cells 0 true (prL (RdP.pairs r w)),c0,.cells n true (is r)]) (L:=L) (H:=H) (d:=d) (b:=hp.length) (g:=0) (n:=n) (e:=2) (W:=(RdP.pairs r w).toArray) (by rw [dK];rfl) hF.jv (by simpa using hpl) h1 hn (hF.mono (by simp));have hg:=fun c0 c1 c2 i1 i2=>Lq (hp:=hp) (L:=L) (H:=H) (k:=1) (n:=n) (m:=n) (cs:=is (RdP.rnk (RdP.pairs r w) (fX (RdP.pairs r w).toArray))) (c0:=c0) (c1:=c1) (nw:=[c2,.cells n true (is (RdP.rnk (RdP.pairs r w) (fX (RdP.pairs r w).toArray)))]) (i1:=i1) (i2:=i2) rfl;simp only [Nat.add_assoc,Nat.reduceAdd] at hg;generalize fX (RdP.pairs r w).toArray=k at *;generalize RdP.rnk (RdP.pairs r w) k=r' at *;simp only [List.length_append,List.length_cons,List.length_nil,Nat.zero_add,Nat.reduceAdd,Int.natCast_zero] at i0 kr;unfold Ju;rw [ak mI.eq_1];simp (disch:=first|exact dis|fail) only [sy,simprocAttr,-List.reduceReplicate,hF.all,hg1,i0,i1,i2,i3,kr,e2,hg]
theorem Gr{x:List Nat}{n:Nat}{c0:Blk}(hn:n=x.length+1)(hn2:n<=255)(hF:Fit hp.length L H):∀ (j w:Nat) (l:List Pr) (k:List Pr) (nw:List Blk) (q:Nat),x.length+1 - w<=j->1<=w->l.length=n->RdP.Keys l k->RdP.tL x w (RdP.rnk l k)->RkS hp n c0 nw q (RdP.rnk l k)->∃ fr lf kf wf nwf qf,
  aG env mI [7,3,6,8] (hp.length+2) (Ju hp n k.length q w) ⟨hp++.cells 0 true (prL l)::c0::nw,L,H,[]⟩=some (.exit 2,fr,⟨hp++.cells 0 true (prL lf)::c0::nwf,L,H,[]⟩)
   /\ fr.get 6=some (.slice (some ⟨qf,0,some n⟩) n 1)/\RkS hp n c0 nwf qf (RdP.rnk lf kf)/\RdP.Keys lf kf/\lf.length=n/\lf.length<=kf.length/\RdP.tL x wf (RdP.rnk lf kf)
 | j,w,l,k,nw,q,hj,hw,hl,hK,hR,hS=>by
  by_cases hc:k.length < n
  ·have hwx:w < x.length:=by
    rcases Nat.lt_or_ge w x.length with h | h
    ·exact h
    ·have:=RdP.full hK hR h;omega
   cases j with
   | zero=>omega
   | succ j=>
    have hrl:(RdP.rnk l k).length=n:=by rw [RdP.o9,hl]
    have hK2:=C9 (RdP.pairs (RdP.rnk l k) w).toArray;change RdP.Keys (RdP.pairs (RdP.rnk l k) w) (fX (RdP.pairs (RdP.rnk l k) w).toArray) at hK2;rw [Sq hS hl hrl (by omega) hn2 hc hw (by omega) hF];exact Gr hn hn2 hF j (2*w) _ _ _ _ (by omega) (by omega) (by rw [RdP.gG,hrl]) hK2 (hR.step hK2) (.inr ⟨rfl,rfl⟩)
  ·have h1:¬ (k.length:Int) < (n:Int):=by omega
   refine ⟨[(37,.bool false),(36,.int .i64 n),(35,.slice (some ⟨hp.length,0,some 0⟩) n 2),(34,.int .i64 k.length),(7,.int .i64 k.length),(3,.slice (some ⟨hp.length,0,some 0⟩) n 2),(6,.slice (some ⟨q,0,some n⟩) n 1),(8,.int .i64 w)],l,k,w,nw,q,?_,rfl,hS,hK,hl,by omega,hR⟩;unfold Ju;rw [ak mI.eq_1];simp (disch:=first|exact dis|fail) only [sy,simprocAttr,-List.reduceReplicate,hF.all,h1]
theorem Jv{x:List Nat}{v:Value}(hR:Rd ⟨hp,L,H,[]⟩ v x)(hxs:x.length<=254)(h8:By x)(hF:Fit hp.length L H):∃ l k w,RdP.Keys l k/\l.length=x.length+1/\l.length<=k.length/\RdP.tL x w (RdP.rnk l k)/\∀ d,
  aN env (.func 114) [v] ⟨hp,L,H,d⟩=some (.slice (some ⟨hp.length,0,some (x.length+1)⟩) (x.length+1) 1,⟨hp++[.cells (x.length+1) true (is (RdP.rnk l k))],L,H,d⟩):=by
 obtain ⟨a,e,rfl⟩:=hR.len;obtain ⟨n,hn⟩:∃ n,n=x.length+1:=⟨_,rfl⟩;obtain ⟨fa,a0,a1⟩:=Gp hR hxs h8 hn hF x.length 0 (by omega);have hK:=C9 (RdP.first x).toArray;change RdP.Keys (RdP.first x) (fX (RdP.first x).toArray) at hK;have kr:=fun d=>oz (hp:=hp++[.cells 0 true (prL (RdP.first x))]) (L:=L) (H:=H) (d:=d) (b:=hp.length) (g:=0) (n:=n) (e:=2) (W:=(RdP.first x).toArray) (by rw [dK];rfl) hF.jv (by rw [hn];simpa using RdP.lQ x) (by omega) (by omega) (hF.mono (by simp));obtain ⟨fr,lf,kf,wf,nwf,qf,l0,l1,l2,l3,l4,l5,l6⟩:=Gr (hp:=hp) (L:=L) (H:=H) (x:=x) (n:=n) (c0:=.cells n true (is (RdP.rnk (RdP.first x) (fX (RdP.first x).toArray)))) hn (by omega) hF (x.length+1) 1 (RdP.first x) (fX (RdP.first x).toArray) [] (hp.length+1) (by omega) (Nat.le_refl _) (by rw [hn];exact RdP.lQ x) hK (RdP.tL.first hK) (.inl ⟨rfl,rfl,rfl⟩);refine ⟨lf,kf,wf,l3,l4.trans hn,l5,l6,fun d=>?_⟩;rw [av 114 _ _ Z6];rw [Vg,<- Gn] at a0;rw [<- hn] at a0 ⊢;unfold Ju at l0;change ∀ d,aN env _ _ _=some (_,(⟨_++[.cells n true (is (RdP.rnk (RdP.first x) (fX (RdP.first x).toArray)))],_,_,_⟩:St)) at kr;generalize RdP.rnk (RdP.first x) (fX (RdP.first x).toArray)=r0 at *;generalize fX (RdP.first x).toArray=k0 at *;generalize RdP.rnk lf kf=rf at *;have e1:(x.length:Int)+1=(n:Int):=by omega
 have g1:(decide (0<=(n:Int))&&decide ((n:Int)<=(n:Int))&&decide ((n:Int)<=1048576)&&decide (2*n<=1048576)&&decide ([Value.int .i64 0,Value.int .i64 0].length=2)&&decide ((n:Int)≠0\/(n:Int)=0))=true:=by simp;omega
 have h0n:¬ (n:Int)=0:=by omega
 have hge:0<=(n:Int):=by omega
 have hn3:(n:Int)<=1048576:=by omega
 have hn4:2*n<=1048576:=by omega
 simp only [Int.natCast_zero,Int.natCast_one] at a0 l0;rcases l2 with ⟨rfl,rfl,hz⟩ | ⟨rfl,rfl⟩
 ·rw [hz] at l0 kr;have hG:=fun c1=>iO (h:=hp) (nw:=[c1,.cells n true (is rf)]) (L:=L) (H:=H) (v:=.slice (some ⟨hp.length+1,0,some n⟩) n 1) 1 rfl (by simp [refs,bw,aI]) (by simp [refs,bw,aI]);have o2:AM.one hp.length (hp.length+1) (hp.length+1)=hp.length:=eU;try simp only [List.length_append,List.length_cons,List.length_nil,Nat.zero_add] at kr
  simp (disch:=first|exact dis|fail) only [sy,simprocAttr,-List.reduceReplicate,hF.all,FK,e1,hge,hn3,hn4,h0n,Int.le_refl,a0,a1,kr,l0,l1,hG,ren,fN,dU,o2,List.map_cons,List.map_nil]
 ·have hG:=fun c1 c2=>iO (h:=hp) (nw:=[c1,c2,.cells n true (is rf)]) (L:=L) (H:=H) (v:=.slice (some ⟨hp.length+2,0,some n⟩) n 1) 2 rfl (by simp [refs,bw,aI]) (by simp [refs,bw,aI]);have o2:AM.one hp.length (hp.length+2) (hp.length+2)=hp.length:=eU;try simp only [List.length_append,List.length_cons,List.length_nil,Nat.zero_add] at kr
  simp (disch:=first|exact dis|fail) only [sy,simprocAttr,-List.reduceReplicate,hF.all,FK,e1,hge,hn3,hn4,h0n,Int.le_refl,a0,a1,kr,l0,l1,hG,ren,fN,dU,o2,List.map_cons,List.map_nil]
end
end TuE
namespace AM
open Go Go.RowKit
def lR(l:List Nat)(off:Nat)(m:List Nat):List Nat:=l.take off++m++l.drop (off+m.length)
theorem kE{l m:List Nat}{off:Nat}(h:off+m.length<=l.length):(lR l off m).length=l.length:=by simp [lR];omega
theorem Lr{l m:List Nat}{off:Nat}(hl:By l)(hm:By m):By (lR l off m):=((hl.take _).append hm).append (hl.drop _)
theorem oA{l m:List Nat}{off:Nat}(h:off+m.length<=l.length)(j:Nat):(lR l off m)[j]?=if off<=j/\j < off+m.length then m[j - off]? else l[j]?:=by
 have h1:(l.take off).length=off:=by simp;omega
 unfold lR;rcases Nat.lt_or_ge j off with hj | hj
 ·rw [if_neg (by omega),List.append_assoc,List.getElem?_append_left (by omega),List.getElem?_take_of_lt hj]
 ·rcases Nat.lt_or_ge j (off+m.length) with hk | hk
  ·rw [if_pos ⟨hj,hk⟩,List.append_assoc,List.getElem?_append_right (by omega),h1,List.getElem?_append_left (by omega)]
  ·rw [if_neg (by omega),List.getElem?_append_right (by simp;omega),List.getElem?_drop];congr 1;simp;omega
theorem N5{l m:List Nat}{off:Nat}(h:off+m.length<=l.length):putAt (u8s l) off (u8s m)=u8s (lR l off m):=by
 apply List.ext_getElem?;intro j;rw [gz _ _ _ _ (by simpa [u8s] using h),j8 (lR l off m) j,oA h,aR];split
 ·rw [j8]
 ·rw [j8]
theorem yM{l:List Nat}{i x:Nat}(h:i < l.length):lR l i [x]=l.set i x:=by
 apply List.ext_getElem?;intro j;rw [oA (by simp;omega),List.getElem?_set];by_cases e:i=j
 ·subst e;rw [if_pos ⟨Nat.le_refl _,by simp⟩,if_pos rfl,if_pos h];simp
 ·rw [if_neg (by simp;omega),if_neg e]
structure Arn where
 bs:List Nat
 live:Int
 cR:Int
def arB(q:Nat)(A:Arn):Blk:=.cells 0 false [.slice (some ⟨q,0,some 0⟩) A.bs.length 1,.int .i64 A.live,.int .i64 A.cR]
def byB(A:Arn):Blk:=.cells 0 true (u8s A.bs)
def put(hp:List Blk)(r q:Nat)(A:Arn):List Blk:=(hp.set q (byB A)).set r (arB q A)
section
variable{hp nw:List Blk}{r q i L:Nat}{H d:List Nat}{A:Arn}
theorem bL:(put hp r q A).length=hp.length:=by simp [put]
theorem abn(hr:r < hp.length):(put hp r q A)[r]?=some (.cells 0 false [.slice (some ⟨q,0,some 0⟩) A.bs.length 1,.int .i64 A.live,.int .i64 A.cR]):=by unfold put;rw [List.getElem?_set_self (by simpa using hr)];rfl
theorem W5(hq:q < hp.length)(h:r≠q):(put hp r q A)[q]?=some (.cells 0 true (u8s A.bs)):=by unfold put;rw [List.getElem?_set_ne h,List.getElem?_set_self hq];rfl
theorem Ls(h:r≠i)(h':q≠i):(put hp r q A)[i]?=hp[i]?:=by unfold put;rw [List.getElem?_set_ne h,List.getElem?_set_ne h']
theorem Da(hr:r < hp.length)(hq:q < hp.length):put hp r q A++nw=put (hp++nw) r q A:=by unfold put;rw [List.set_append_left _ _ hq,List.set_append_left _ _ (by simpa using hr)]
theorem N6{n:Nat}(live cR:Int)(hn:n=A.bs.length):(put hp r q A).set r (.cells 0 false [.slice (some ⟨q,0,some 0⟩) n 1,.int .i64 live,.int .i64 cR])=put hp r q ⟨A.bs,live,cR⟩:=by subst hn;unfold put;rw [List.set_set];rfl
theorem N7{l:List Nat}(h:r≠q)(hl:l.length=A.bs.length):(put hp r q A).set q (.cells 0 true (u8s l))=put hp r q ⟨l,A.live,A.cR⟩:=by unfold put;rw [List.set_comm _ _ h,List.set_set];simp only [byB,arB,hl]
theorem jI{b:Blk}(h:r≠i)(h':q≠i):(put hp r q A).set i b=put (hp.set i b) r q A:=by unfold put;rw [List.set_comm _ _ h,List.set_comm _ _ h']
theorem Vh(hp:List Blk)(A:Arn):hp++[arB (hp.length+1) A,byB A]=put (hp++[default,default]) hp.length (hp.length+1) A:=by unfold put;rw [List.set_append_right _ _ (by omega),Nat.add_sub_cancel_left,List.set_append_right _ _ (by omega),Nat.sub_self];rfl
theorem Yo(v:Value)(hr:r < hp.length)(hq:q < hp.length):gc hp.length [v] ⟨put (hp++nw) r q A,L,H,[]⟩=gcY (put hp r q A) nw v L H (refs v).isEmpty:=by rw [<- Da hr hq];have:=CQ (put hp r q A) nw v L H;rwa [bL] at this
theorem Vi{h:List Blk}{v:Value}(hv:∀ x∈refs v,x < h.length):gcY h nw v L H false=some ([v],⟨h,L,H,[]⟩):=by unfold gcY;exact FC hv
end
structure bF(n r q:Nat)(H:List Nat)(A:Arn):Prop where
 cJ:r < n
 cI:q < n
 ne:r≠q
 by_:By A.bs
 gV:0<=A.live
 dn:A.live<=A.bs.length
 Bg:0<=A.cR
 uY:A.cR<=A.bs.length
 size:A.bs.length<=1048576
 hr:H.contains r=false
 hq:H.contains q=false
theorem bF.mono{n m r q:Nat}{H:List Nat}{A:Arn}(k:bF n r q H A)(h:n<=m):bF m r q H A:=
 { k with cJ:=Nat.lt_of_lt_of_le k.cJ h,cI:=Nat.lt_of_lt_of_le k.cI h }
theorem bF.hid{n m r q lo c:Nat}{H:List Nat}{A:Arn}(k:bF n r q H A)(h:n<=m)(h2:n<=lo):bF m r q (List.range' lo c++H) A:=
 { k with cJ:=Nat.lt_of_lt_of_le k.cJ h,cI:=Nat.lt_of_lt_of_le k.cI h,hr:=by rw [gT (.inl (Nat.lt_of_lt_of_le k.cJ h2))];exact k.hr,hq:=by rw [gT (.inl (Nat.lt_of_lt_of_le k.cI h2))];exact k.hq }
def Arn.has(A:Arn)(s n:Int):Bool:=decide (s>=0)&&decide (n>=0)&&decide (s<=A.live)&&decide (n<=A.live - s)
def Arn.part(A:Arn)(s len i n:Int):Bool:=A.has s len&&decide (0<=i)&&decide (i<=len - n)
def Arn.take(A:Arn)(n:Int):Arn:=⟨lR A.bs A.live.toNat (List.replicate n.toNat 0),A.live+n,max A.cR (A.live+n)⟩
def Arn.taken(A:Arn)(n:Int):Arn×Int×Int×Int:=
 if n < 0 then (A,0,0,2) else if n > A.bs.length - A.live then (A,0,0,10) else (A.take n,A.live,n,0)
def Arn.slot(A:Arn)(s i:Int):Nat:=A.bs.getD (s+i).toNat 0
def Arn.setAt(A:Arn)(s i:Int)(l:List Nat):Arn:=⟨lR A.bs (s+i).toNat l,A.live,A.cR⟩
theorem Arn.cq{A:Arn}{s n:Int} : A.has s n=true↔0<=s/\0<=n/\s<=A.live/\n<=A.live - s:=by simp [Arn.has,and_assoc]
theorem Arn.dM{A:Arn}{s len i n:Int} : A.part s len i n=true↔(0<=s/\0<=len/\s<=A.live/\len<=A.live - s)/\0<=i/\i<=len - n:=by simp [Arn.part,Arn.cq,and_assoc]
theorem bF.setAt{N r q:Nat}{H:List Nat}{A:Arn}(k:bF N r q H A){s i:Int}{l:List Nat}(hl:By l)(h:(s+i).toNat+l.length<=A.bs.length):bF N r q H (A.setAt s i l):=by
 have e:(A.setAt s i l).bs.length=A.bs.length:=by simp only [Arn.setAt];exact kE h
 refine { k with by_:=Lr k.by_ hl,dn:=by rw [e];exact k.dn,uY:=by rw [e];exact k.uY,size:=by rw [e];exact k.size }
def Arn.oB(A:Arn)(q:Nat)(s len i n:Int):Value:=if A.part s len i n=true then .slice (some ⟨q,(s+i).toNat,some 0⟩) n.toNat 0 else .slice none 0 0
def Arn.kF(A:Arn)(s len i:Int):Nat:=if A.part s len i 1=true then A.slot s i else 0
def Arn.cL(A:Arn)(s len i:Int)(c:Nat):Arn:=if A.part s len i 1=true then A.setAt s i [c] else A
def Arn.iX(A:Arn)(s len i:Int):Bool:=decide (0<=i/\i<=1048576)&&A.part s len (4*i) 4
def le4(a b c e:Nat):Nat:=a+256*b+65536*c+16777216*e
def Arn.cY(A:Arn)(s len i:Int):Nat:=if A.iX s len i=true then le4 (A.slot s (4*i)) (A.slot s (4*i+1)) (A.slot s (4*i+2)) (A.slot s (4*i+3)) else 0
def ji(v:Nat):List Nat:=[v%256,v / 256%256,v / 65536%256,v / 16777216%256]
def Arn.bI(A:Arn)(s len i:Int)(v:Nat):Arn:=if A.iX s len i=true then A.setAt s (4*i) (ji v) else A
def Arn.uZ(A:Arn)(s n:Int):Option (List Nat):=if A.has s n=true then some ((A.bs.drop s.toNat).take n.toNat) else none
def Arn.store(A:Arn)(s len i:Int)(l:List Nat):Arn:=if A.part s len i l.length=true then A.setAt s i l else A
def Arn.new(n:Nat):Arn:=⟨List.replicate n 0,0,0⟩
theorem Gt(l:List Nat)(o:Nat):lR l o []=l:=by simp [lR]
theorem Arn.N8(A:Arn)(s i:Int):A.setAt s i []=A:=by simp [Arn.setAt,Gt]
theorem bF.pg{N r q:Nat}{H:List Nat}{A:Arn}(k:bF N r q H A){s len i n:Int}(h:A.part s len i n=true)(h0:0<=n):0<=s/\0<=i/\s+i+n<=A.bs.length/\(s+i).toNat+n.toNat<=A.bs.length:=by have:=Arn.dM.1 h;have:=k.dn;omega
theorem bF.cL{N r q:Nat}{H:List Nat}{A:Arn}(k:bF N r q H A){s len i:Int}{c:Nat}(hc:c < 256):bF N r q H (A.cL s len i c):=by
 unfold Arn.cL;split
 ·rename_i h;have:=k.pg h (by omega);exact k.setAt (By.nil.cons hc) (by simp;omega)
 ·exact k
theorem Bh(v:Nat):By (ji v):=by intro x hx;simp only [ji,List.mem_cons,List.not_mem_nil,or_false] at hx;omega
theorem bF.yN{N r q:Nat}{H:List Nat}{A:Arn}(k:bF N r q H A){s len i:Int}(h:A.iX s len i=true):0<=s/\0<=i/\i<=1048576/\s+4*i+4<=A.bs.length/\A.part s len (4*i) 4=true:=by simp only [Arn.iX,Bool.and_eq_true,decide_eq_true_eq] at h;have:=k.pg h.2 (by omega);exact ⟨by omega,by omega,by omega,by omega,h.2⟩
theorem bF.bI{N r q:Nat}{H:List Nat}{A:Arn}(k:bF N r q H A){s len i:Int}{v:Nat} : bF N r q H (A.bI s len i v):=by
 unfold Arn.bI;split
 ·rename_i h;have:=k.yN h;exact k.setAt (Bh v) (by simp [ji];omega)
 ·exact k
theorem Sr{h:List Blk}{L:Nat}{H:List Nat}{v:Value}{bs:List Value}{n:Nat}{x y:Int}(hv:refs v=[h.length+1]) :
  gc h.length [v] ⟨h++[.cells 0 true bs,.cells 0 false [.slice (some ⟨h.length,0,some 0⟩) n 1,.int .i64 x,.int .i64 y]],L,H,[]⟩ =
   some ([ren (fun id=>if id < h.length then id else h.length+[h.length+1,h.length].idxOf id) v],⟨h++[.cells 0 false [.slice (some ⟨h.length+1,0,some 0⟩) n 1,.int .i64 x,.int .i64 y],.cells 0 true bs],L,H,[]⟩):=by
 have r1:aP (h++[.cells 0 true bs,.cells 0 false [.slice (some ⟨h.length,0,some 0⟩) n 1,.int .i64 x,.int .i64 y]]) (h.length+1)=[h.length]:=by simp [aP,gj,cU,aI]
 have r0:aP (h++[.cells 0 true bs,.cells 0 false [.slice (some ⟨h.length,0,some 0⟩) n 1,.int .i64 x,.int .i64 y]]) h.length=[]:=by simp [aP,cU]
 unfold gc;rw [if_neg (by simp)];simp only [List.flatMap_cons,List.flatMap_nil,List.append_nil,hv,List.filter_nil];have hf:List.filter (fun x=>decide (h.length<=x)) [h.length+1]=[h.length+1]:=by simp
 simp only [hf];have Ja:reach (h++[.cells 0 true bs,.cells 0 false [.slice (some ⟨h.length,0,some 0⟩) n 1,.int .i64 x,.int .i64 y]]) h.length 4096 [h.length+1] []=[h.length+1,h.length]:=by rw [show 4096=4094+1+1 by rfl,reach,if_neg (by simp),r1,List.nil_append,List.append_nil,reach,if_neg (by simp),r0];rfl
 rw [Ja];unfold lZ;simp only [List.filter_nil];refine (if_pos ?_).trans ?_
 ·simp [dW,hv,r1,r0]
 ·simp [dV,gK,dU,List.getD_eq_getElem?_getD,gj,List.idxOf,List.findIdx_cons,show (h.length+1==h.length)=false by simp]
theorem Ss(l:List Nat)(i x:Nat):(u8s l).set i (.int .u8 (x:Int))=u8s (l.set i x):=by simp [u8s,List.map_set]
theorem Bi(n:Nat):(List.replicate n [Value.int .u8 0]).flatten=u8s (List.replicate n 0):=by
 induction n with
 | zero=>rfl
 | succ n ih=>rw [List.replicate_succ,List.flatten_cons,ih,List.replicate_succ];rfl
theorem N9{l:List Nat}{o a b c e:Nat}(h:o+4<=l.length):lR l o [a,b,c,e]=(((l.set o a).set (o+1) b).set (o+2) c).set (o+3) e:=by
 apply List.ext_getElem?;intro j;rw [oA (by simp;omega)];simp only [List.getElem?_set,List.length_set];by_cases h3:o+3=j
 ·subst h3;rw [if_pos (by simp<;>omega),if_pos rfl,if_pos (by omega),show o+3 - o=3 by omega];try rfl
 by_cases h2:o+2=j
 ·subst h2;rw [if_pos (by simp<;>omega),if_neg h3,if_pos rfl,if_pos (by omega),show o+2 - o=2 by omega];try rfl
 by_cases h1:o+1=j
 ·subst h1;rw [if_pos (by simp<;>omega),if_neg h3,if_neg h2,if_pos rfl,if_pos (by omega),show o+1 - o=1 by omega];try rfl
 by_cases h0:o=j
 ·subst h0;rw [if_pos (by simp),if_neg h3,if_neg h2,if_neg h1,if_pos rfl,if_pos (by omega),Nat.sub_self];try rfl
 ·rw [if_neg (by simp;omega),if_neg h3,if_neg h2,if_neg h1,if_neg h0]
theorem Vj{v c:Int}(k:Nat)(h0:0<=v)(h1:v < (2 ^ k:Nat))(h2:0<=c)(h3:c<=255)(hk:k<=24):orI 32 v (c*((2 ^ k:Nat):Int))=v+c*((2 ^ k:Nat):Int):=by
 obtain ⟨a,rfl⟩:∃ a:Nat,v=a:=⟨v.toNat,by omega⟩;obtain ⟨b,rfl⟩:∃ b:Nat,c=b:=⟨c.toNat,by omega⟩;have e:(b:Int)*((2 ^ k:Nat):Int)=((b*2 ^ k:Nat):Int):=by simp
 have hk2:2 ^ k<=2 ^ 24:=Nat.pow_le_pow_right (by omega) hk;have hb:b*2 ^ k<=255*2 ^ 24:=Nat.mul_le_mul (by omega) hk2;have ha:a < 2 ^ k:=by omega
 unfold orI;rw [e,Re 32 a (b*2 ^ k) (by omega) (by omega)];have h:=Nat.shiftLeft_add_eq_or_of_lt (i:=k) (b:=a) ha b;rw [Nat.shiftLeft_eq] at h;rw [Nat.or_comm,<- h];omega
theorem Yq{v c:Int}(h0:0<=v)(h1:v < 256)(h2:0<=c)(h3:c<=255):orI 32 v (c*256)=v+c*256:=Vj 8 h0 (by simpa using h1) h2 h3 (by omega)
theorem Vk{v c:Int}(h0:0<=v)(h1:v < 65536)(h2:0<=c)(h3:c<=255):orI 32 v (c*65536)=v+c*65536:=Vj 16 h0 (by simpa using h1) h2 h3 (by omega)
theorem Vl{v c:Int}(h0:0<=v)(h1:v < 16777216)(h2:0<=c)(h3:c<=255):orI 32 v (c*16777216)=v+c*16777216:=Vj 24 h0 (by simpa using h1) h2 h3 (by omega)
theorem Yr{c:Int}(h2:0<=c)(h3:c<=255):orI 32 0 c=c:=by have:=Vj 0 (v:=0) (by omega) (by simp) h2 h3 (by omega);simpa using this
theorem Arn.jx{A:Arn}(h:By A.bs)(s i:Int):A.slot s i < 256:=by
 simp only [Arn.slot,List.getD_eq_getElem?_getD];rcases Nat.lt_or_ge (s+i).toNat A.bs.length with h1 | h1
 ·rw [List.getElem?_eq_getElem h1];exact h.get h1
 ·rw [List.getElem?_eq_none h1];simp
theorem aQ{p:Prop}(h:p:=by first | omega | (simp only [lnE,bL]<;>omega) | (refine Fit.mono ‹Fit _ _ _› ?_<;>(simp only [lnE,bL]<;>omega)) | (refine Fit.draw ‹Fit _ _ _› ?_ ?_<;>(simp only [lnE,bL]<;>omega)) | (refine Fit.hid1 ‹Fit _ _ _› ?_ ?_<;>(simp only [lnE,bL]<;>omega)) | (refine Fit.hidc1 ‹Fit _ _ _› ?_ ?_<;>(simp only [lnE,bL]<;>omega)) | (refine Fit.hidc2 ‹Fit _ _ _› ?_ ?_ ?_<;>(simp only [lnE,bL]<;>omega)) | (refine Fit.draw1 ‹Fit _ _ _› ?_ ?_ ?_<;>(simp only [lnE,bL]<;>omega)) | (refine Fit.range0 ?_ ?_<;>(simp only [lnE,bL]<;>omega)) | (refine bF.mono ‹bF _ _ _ _ _› ?_<;>(simp only [lnE,bL]<;>omega)) | (refine bF.hid ‹bF _ _ _ _ _› ?_ ?_<;>(simp only [lnE,bL]<;>omega)) | (refine bF.hid0 ‹bF _ _ _ _ _› ?_ ?_<;>(simp only [lnE,bL]<;>omega)) | ((intro xr hxr;simp [AM.refs,bw,aI] at hxr)<;>(simp only [lnE,bL]<;>omega)) | (intros;contradiction) | (intros;rename_i hx;injection hx;contradiction)):p:=h
def syR:=And.intro @bL<|And.intro @abn<|And.intro @W5<|And.intro @Ls<|And.intro @Da<|And.intro @N6<|And.intro @N7<|And.intro @jI<|And.intro @Yo<|And.intro @Vi<|And.intro @Rq<|And.intro @Ss<|And.intro @Bi<|@AM.N5
end AM
namespace AM
open Go Go.RowKit
def nD(col:List Nat)(ix c:Nat):List Nat:=col.take ix++c::col.drop ix
def cnt(c ix:Nat):Nat->List Nat->Nat
 | _,[]=>0
 | k,b::l=>(if b < c\/(b=c/\k < ix) then 1 else 0)+cnt c ix (k+1) l
def Gu(col:List Nat)(ix c:Nat):Nat:=1+cnt c ix 0 col
def aK:List Nat->List Nat×Nat×Nat
 | []=>([],0,0)
 | c::t=>(nD (aK t).1 (aK t).2.1 c,Gu (aK t).1 (aK t).2.1 c,(aK t).2.2+(aK t).1.length+(aK t).2.1)
theorem Db{col:List Nat}{ix c:Nat} : (nD col ix c).length=col.length+1:=by simp only [nD,List.length_append,List.length_cons,List.length_take,List.length_drop];omega
theorem Su{col:List Nat}{ix c:Nat}(h:By col)(hc:c < 256):By (nD col ix c):=fun x hx=>by
 simp only [nD,List.mem_append,List.mem_cons] at hx;rcases hx with h1 | rfl | h1
 ·exact h x (List.mem_of_mem_take h1)
 ·exact hc
 ·exact h x (List.mem_of_mem_drop h1)
theorem Sw{c ix:Nat} : ∀ (l:List Nat) (k:Nat),cnt c ix k l<=l.length
 | [],_=>Nat.le_refl _
 | b::l,k=>by have:=Sw (c:=c) (ix:=ix) l (k+1);simp only [cnt,List.length_cons];split<;>omega
theorem Vm{col:List Nat}{ix c:Nat} : 1<=Gu col ix c/\Gu col ix c<=col.length+1:=by have:=Sw (c:=c) (ix:=ix) col 0;unfold Gu;omega
theorem iF:∀ t:List Nat,(aK t).1.length=t.length/\(aK t).2.1<=t.length
 | []=>⟨rfl,Nat.le_refl _⟩
 | c::t=>by have h:=iF t;refine ⟨by simp only [aK,Db,h.1,List.length_cons],?_⟩;have:=(Vm (col:=(aK t).1) (ix:=(aK t).2.1) (c:=c)).2;rw [h.1] at this;exact this
theorem Gv:∀ t:List Nat,By t->By (aK t).1
 | [],_=>fun x hx=>by simp [aK] at hx
 | c::t,h=>Su (Gv t fun x hx=>h x (List.mem_cons_of_mem _ hx)) (h c (List.mem_cons_self))
theorem u7:∀ t:List Nat,(aK t).2.2*2>=t.length*(t.length - 1)/\(aK t).2.2<=t.length*(t.length - 1)
 | []=>by simp [aK]
 | c::t=>by
  have h:=u7 t;have hl:=iF t;simp only [aK,List.length_cons,Nat.add_sub_cancel];generalize t.length=m at *;generalize (aK t).2.2=s at *;generalize (aK t).2.1=x at *;rw [hl.1];have e:(m+1)*m=m*(m - 1)+2*m:=by
   cases m with
   | zero=>rfl
   | succ m=>simp only [Nat.add_sub_cancel];simp only [Nat.add_mul,Nat.mul_add];omega
  omega
theorem Gw{t:List Nat}(h:t.length<=1048576):(aK t).2.2<=1099511627776:=
 Nat.le_trans (u7 t).2 (Nat.le_trans (Nat.mul_le_mul h (Nat.le_trans (Nat.sub_le _ _) h)) (by decide))
def less(c:Nat):List Nat->Nat
 | []=>0
 | b::l=>(if b < c then 1 else 0)+less c l
def same(c:Nat):List Nat->Nat
 | []=>0
 | b::l=>(if b=c then 1 else 0)+same c l
theorem Bj{c ix:Nat} : ∀ (l:List Nat) (k:Nat),cnt c ix k l=less c l+same c (l.take (ix - k))
 | [],k=>by simp [cnt,less,same]
 | b::l,k=>by
  have h:=Bj (c:=c) (ix:=ix) l (k+1);simp only [cnt,less];rw [h];by_cases hk:k < ix
  ·rw [show ix - k=(ix - (k+1))+1 by omega,List.take_succ_cons];simp only [same];by_cases h1:b < c
   ·rw [if_pos (.inl h1),if_pos h1,if_neg (by omega)];omega
   ·by_cases h2:b=c
    ·rw [if_pos (.inr ⟨h2,hk⟩),if_neg h1,if_pos h2];omega
    ·rw [if_neg (by omega),if_neg h1,if_neg h2];omega
  ·rw [show ix - k=0 by omega,show ix - (k+1)=0 by omega];simp only [List.take_zero,same];by_cases h1:b < c
   ·rw [if_pos (.inl h1),if_pos h1];omega
   ·rw [if_neg (by omega),if_neg h1];omega
theorem Jw(col:List Nat)(ix c:Nat):Gu col ix c=1+(less c col+same c (col.take ix)):=by unfold Gu;rw [Bj];rfl
def mid(col:List Nat)(c k:Nat):List Nat:=col.take k++(c::col).drop k
theorem Sx(col:List Nat)(c:Nat):mid col c 0=c::col:=rfl
theorem yO{col:List Nat}{c k:Nat}(h:k<=col.length):(mid col c k).length=col.length+1:=by simp only [mid,List.length_append,List.length_take,List.length_drop,List.length_cons];omega
theorem Lt{col:List Nat}{c k:Nat}(h:k < col.length):(mid col c k)[k+1]?=col[k]?:=by rw [mid,List.getElem?_append_right (by simp;omega),List.getElem?_drop];rw [List.length_take,show min k col.length=k by omega,show k+(k+1 - k)=k+1 by omega,List.getElem?_cons_succ]
theorem Vn{col:List Nat}{c k x:Nat}(h:col[k]?=some x):(mid col c k).set k x=mid col c (k+1):=by
 have hk:k < col.length:=(List.getElem?_eq_some_iff.1 h).1;have hx:col.drop k=x::col.drop (k+1):=by rw [List.drop_eq_getElem_cons hk,(List.getElem?_eq_some_iff.1 h).2]
 have hl:(col.take k).length=k:=by simp;omega
 obtain ⟨y,m,hy⟩:∃ y m,(c::col).drop k=y::m/\m=col.drop k:=by
  cases k with
  | zero=>exact ⟨c,col,rfl,rfl⟩
  | succ k=>exact ⟨_,_,by rw [List.drop_succ_cons];exact List.drop_eq_getElem_cons (by omega),rfl⟩
 unfold mid;rw [hy.1,List.set_append_right _ _ (by omega),hl,Nat.sub_self,List.set_cons_zero,hy.2,List.drop_succ_cons,List.take_succ,h,hx];simp
theorem Vo{col:List Nat}{c k:Nat}(h:k<=col.length):(mid col c k).set k c=nD col k c:=by
 have hl:(col.take k).length=k:=by simp;omega
 obtain ⟨y,m,hy⟩:∃ y m,(c::col).drop k=y::m/\m=col.drop k:=by
  cases k with
  | zero=>exact ⟨c,col,rfl,rfl⟩
  | succ k=>exact ⟨_,_,by rw [List.drop_succ_cons];exact List.drop_eq_getElem_cons (by omega),rfl⟩
 unfold mid nD;rw [hy.1,List.set_append_right _ _ (by omega),hl,Nat.sub_self,List.set_cons_zero,hy.2]
theorem oC{P M Q:List Nat}{i j:Nat}(h:j < M.length)(hi:i=P.length+j):(P++(M++Q))[i]?=M[j]?:=by rw [hi,List.getElem?_append_right (by omega),List.getElem?_append_left (by omega)];congr 1;omega
theorem Gx{P M Q:List Nat}{i j x:Nat}(h:j < M.length)(hi:i=P.length+j):(P++(M++Q)).set i x=P++(M.set j x++Q):=by rw [hi,List.set_append_right _ _ (by omega),List.set_append_left _ _ (by omega)];congr 3;omega
end AM
namespace AM
open Go Go.RowKit
structure Ord(T o:List Nat):Prop where
 perm:o.Perm (List.range (T.length+1))
 sorted:o.Pairwise fun i k=>T.drop i < T.drop k
def bU(T o:List Nat):List Nat:=(o.filter (·≠0)).map fun j=>T.getD (j - 1) 0
theorem Dc(a:List Nat):¬ a < a:=List.lt_irrefl a
theorem wv(a b:List Nat):a < b\/a=b\/b < a:=by
 by_cases h:a < b
 ·exact .inl h
 by_cases h2:b < a
 ·exact .inr (.inr h2)
 exact .inr (.inl (List.le_antisymm (List.not_lt.1 h2) (List.not_lt.1 h)))
theorem rW{a b:List Nat}(h:a < b):¬ b < a:=List.lt_asymm h
theorem wz{a b c:List Nat}(h:a < b)(h2:b < c):a < c:=List.lt_trans h h2
theorem Ord.len{T o:List Nat}(h:Ord T o):o.length=T.length+1:=by rw [h.perm.length_eq,List.length_range]
theorem Ord.mem{T o:List Nat}(h:Ord T o){i:Nat} : i∈o↔i<=T.length:=by rw [h.perm.mem_iff,List.mem_range];omega
theorem Ord.nodup{T o:List Nat}(h:Ord T o):o.Nodup:=h.perm.nodup_iff.2 List.nodup_range
theorem Ord.uniq{T o p:List Nat}(h:Ord T o)(k:Ord T p):o=p:=
 List.Perm.eq_of_pairwise (fun _ _ _ _ h1 h2=>absurd h2 (rW h1)) h.sorted k.sorted (h.perm.trans k.perm.symm)
theorem yP{α:Type}{R:α->α->Prop}[DecidableRel R](ir:∀ a,¬ R a a)(asy:∀ a b,R a b->¬ R b a){l:List α}(h:l.Pairwise R)(p:α->Bool){r:Nat}{x:α}(hx:l[r]?=some x) :
  l.countP (fun j=>p j&&decide (R j x))=(l.take r).countP p:=by
 obtain ⟨hr,rfl⟩:=List.getElem?_eq_some_iff.1 hx;have e:l=l.take r++l[r]::l.drop (r+1):=by rw [<- List.drop_eq_getElem_cons hr,List.take_append_drop]
 have hp:=h;rw [e,List.pairwise_append,List.pairwise_cons] at hp;obtain ⟨-,⟨h2,-⟩,h3⟩:=hp;generalize hy:l[r]=y at *;rw [e,List.countP_append,List.countP_cons];have l1:(l.take r).length=r:=by simp;omega
 have t1:List.take r (l.take r++y::l.drop (r+1))=l.take r:=by rw [List.take_left' l1]
 have a1:(l.take r).countP (fun j=>p j&&decide (R j y))=(l.take r).countP p:=by apply List.countP_congr;intro a ha;have:=h3 a ha y List.mem_cons_self;simp [this]
 have a2:(l.drop (r+1)).countP (fun j=>p j&&decide (R j y))=0:=by rw [List.countP_eq_zero];intro a ha;have:=asy _ _ (h2 a ha);simp [this]
 have a3:=ir y;rw [<- e,a1,a2];simp [a3]
theorem oD(c:Nat):∀ l:List Nat,less c l=l.countP (fun b=>decide (b < c))
 | []=>rfl
 | b::l=>by rw [less,List.countP_cons,oD c l];simp only [decide_eq_true_eq];omega
theorem ey(c:Nat):∀ l:List Nat,same c l=l.countP (fun b=>decide (b=c))
 | []=>rfl
 | b::l=>by rw [same,List.countP_cons,ey c l];simp only [decide_eq_true_eq];omega
theorem Bk{α:Type}(p q:α->Bool)(h:∀ a,p a=true->q a=false):∀ l:List α,l.countP (fun a=>p a||q a)=l.countP p+l.countP q
 | []=>rfl
 | a::l=>by rw [List.countP_cons,List.countP_cons,List.countP_cons,Bk p q h l];have:=h a;cases hp:p a<;>cases hq:q a<;>simp_all<;>omega
theorem Vp{T:List Nat}{j c:Nat}{w:List Nat}(h:j < T.length):T.drop j < c::w↔T.getD j 0 < c\/(T.getD j 0=c/\T.drop (j+1) < w):=by rw [List.drop_eq_getElem_cons h,List.cons_lt_cons_iff,List.getD_eq_getElem?_getD,List.getElem?_eq_getElem h,Option.getD_some]
theorem Bm{T o:List Nat}(h:Ord T o){r i:Nat}(hr:o[r]?=some i)(c:Nat) :
  o.countP (fun j=>decide (T.drop j < c::T.drop i))=1+(less c (bU T o)+same c (bU T (o.take r))):=by
 have e1:o.countP (fun j=>decide (T.drop j < c::T.drop i))=1+(o.filter (·≠0)).countP (fun j=>decide (T.drop (j - 1) < c::T.drop i)):=by
  rw [h.perm.countP_eq,(h.perm.filter _).countP_eq,List.range_succ,List.countP_append];have:(List.filter (fun x=>decide (x≠0)) (List.range T.length++[T.length]))=(List.range T.length).map (·+1):=by rw [<- List.range_succ,List.range_succ_eq_map,List.filter_cons];simp only [ne_eq,not_true_eq_false,decide_false,Bool.false_eq_true,if_false];rw [List.filter_eq_self.2];intro a ha;obtain ⟨b,-,rfl⟩:=List.mem_map.1 ha;simp
  rw [this,List.countP_map];have:List.countP (fun j=>decide (T.drop j < c::T.drop i)) [T.length]=1:=by simp [List.countP_cons]
  rw [this,Nat.add_comm];rfl
 have e2:(o.filter (·≠0)).countP (fun j=>decide (T.drop (j - 1) < c::T.drop i))=(o.filter (·≠0)).countP (fun j=>decide (T.getD (j - 1) 0 < c)||(decide (T.getD (j - 1) 0=c)&&decide (T.drop j < T.drop i))):=by
  apply List.countP_congr;intro j hj;obtain ⟨hj1,hj2⟩:=List.mem_filter.1 hj;have hj3:=h.mem.1 hj1;have hj4:j≠0:=by simpa using hj2
  have:=Vp (T:=T) (j:=j - 1) (c:=c) (w:=T.drop i) (by omega);rw [show j - 1+1=j by omega] at this;simp [this]
 rw [e1,e2,Bk _ _ (by intro a ha;simp at ha ⊢;omega)];congr 1;congr 1
 ·rw [oD,bU,List.countP_map];rfl
 ·rw [ey,bU,List.countP_map,List.countP_filter,List.countP_filter];have:=yP (R:=fun a b:Nat=>T.drop a < T.drop b) (fun a=>Dc _) (fun a b=>rW) h.sorted (fun j=>decide (T.getD (j - 1) 0=c)&&decide (j≠0)) hr;rw [show (fun a=>((fun b=>decide (b=c))∘fun j=>T.getD (j - 1) 0) a&&decide (a≠0))=(fun j=>decide (T.getD (j - 1) 0=c)&&decide (j≠0)) from rfl,<- this];apply List.countP_congr;intro j _;simp [and_comm,and_assoc];constructor<;>rintro ⟨a,b,c⟩<;>exact ⟨b,a,c⟩
theorem lS{T o:List Nat}(h:Ord T o)(r:Nat):bU T (o.take r)=(bU T o).take (if r<=o.idxOf 0 then r else r - 1):=by
 have h0:(0:Nat)∈o:=h.mem.2 (Nat.zero_le _);have hi:=List.idxOf_lt_length_iff.2 h0;have hz:o[o.idxOf 0]=0:=List.getElem_idxOf hi;have nd:=h.nodup;have e:o=o.take (o.idxOf 0)++0::o.drop (o.idxOf 0+1):=by conv=>lhs;rw [<- List.take_append_drop (o.idxOf 0) o,List.drop_eq_getElem_cons hi,hz]
 generalize o.idxOf 0=x at *;have hl:(o.take x).length=x:=by simp;omega
 generalize ha:o.take x=a at *;generalize o.drop (x+1)=b at *;have na:∀ y∈a,y≠0:=by rintro y hy rfl;rw [e,List.nodup_append] at nd;exact nd.2.2 0 hy 0 List.mem_cons_self rfl
 have nb:∀ y∈b,y≠0:=by rintro y hy rfl;rw [e,List.nodup_append,List.nodup_cons] at nd;exact nd.2.1.1 hy
 have fa:∀ l:List Nat,(∀ y∈l,y≠0)->l.filter (·≠0)=l:=fun l hl=>List.filter_eq_self.2 (by intro y hy;simpa using hl y hy);have ec:bU T o=(a++b).map fun j=>T.getD (j - 1) 0:=by rw [bU,e,List.filter_append,List.filter_cons,fa a na,fa b nb];simp
 rw [ec,<- List.map_take];unfold bU;congr 1;split
 ·rename_i hr;rw [e,List.take_append_of_le_length (by omega),List.take_append_of_le_length (by omega)];exact fa _ fun y hy=>na y (List.mem_of_mem_take hy)
 ·rename_i hr;have h1:r=a.length+(r - x - 1+1):=by omega
  have h2:r - 1=a.length+(r - x - 1):=by omega
  rw [h2,e,h1,List.take_length_add_append,List.take_length_add_append,List.take_succ_cons,List.filter_append,List.filter_cons,fa a na];simp only [ne_eq,not_true_eq_false,decide_false,Bool.false_eq_true,if_false];rw [show a.length+(r - x - 1+1) - x - 1=r - x - 1 by omega];have:=fa (b.take (r - x - 1)) (fun y hy=>nb y (List.mem_of_mem_take hy));simp only [ne_eq] at this;rw [this]
theorem yQ{T o:List Nat}(h:Ord T o):(bU T o).length=T.length:=by
 have:=h.perm.filter (fun x=>decide (x≠0));rw [bU,List.length_map,this.length_eq];rw [List.range_succ_eq_map,List.filter_cons];simp only [ne_eq,not_true_eq_false,decide_false,Bool.false_eq_true,if_false];rw [List.filter_eq_self.2]
 ·simp
 ·intro a ha;obtain ⟨b,-,rfl⟩:=List.mem_map.1 ha;simp
theorem Gy{T o:List Nat}(h:Ord T o){r i:Nat}(hr:o[r]?=some i)(hi:i≠0) :
  r≠o.idxOf 0/\(bU T o)[if r<=o.idxOf 0 then r else r - 1]?=some (T.getD (i - 1) 0):=by
 have h0:(0:Nat)∈o:=h.mem.2 (Nat.zero_le _);have hx:=List.idxOf_lt_length_iff.2 h0;have hz:o[o.idxOf 0]=0:=List.getElem_idxOf hx;obtain ⟨hr1,hr2⟩:=List.getElem?_eq_some_iff.1 hr;have hne:r≠o.idxOf 0:=by
  intro e;have:o[r]?=some 0:=by rw [e,List.getElem?_eq_getElem hx,hz]
  rw [hr] at this;simp at this;exact hi this
 refine ⟨hne,?_⟩;have a1:=lS h r;have a2:=lS h (r+1);have e1:o.take (r+1)=o.take r++[i]:=by rw [List.take_add_one,hr];rfl
 have e2:bU T (o.take (r+1))=bU T (o.take r)++[T.getD (i - 1) 0]:=by rw [e1];unfold bU;rw [List.filter_append,List.map_append];simp [hi]
 have e3:(if r+1<=o.idxOf 0 then r+1 else r+1 - 1)=(if r<=o.idxOf 0 then r else r - 1)+1:=by split<;>split<;>omega
 rw [e2,a1,e3] at a2;generalize (if r<=o.idxOf 0 then r else r - 1)=k at *;rw [List.take_add_one] at a2;have:=List.append_cancel_left a2;cases hk:(bU T o)[k]? with
 | none=>rw [hk] at this;simp at this
 | some y=>rw [hk] at this;simp at this;simp [this]
theorem Ord.row{T o:List Nat}(h:Ord T o){r i:Nat}(hr:o[r]?=some i):o.countP (fun j=>decide (T.drop j < T.drop i))=r:=by have:=yP (R:=fun a b:Nat=>T.drop a < T.drop b) (fun a=>Dc _) (fun a b=>rW) h.sorted (fun _=>true) hr;simp only [Bool.true_and] at this;rw [this];have hl:=(List.getElem?_eq_some_iff.1 hr).1;rw [List.countP_true,List.length_take];omega
theorem Oa{T o:List Nat}(h:Ord T o){r i:Nat}(hr:o[r]?=some i)(hi:i≠0) :
  o[1+(less (T.getD (i - 1) 0) (bU T o)+same (T.getD (i - 1) 0) ((bU T o).take (if r<=o.idxOf 0 then r else r - 1)))]?=some (i - 1):=by
 have hm:i<=T.length:=h.mem.1 (List.mem_of_getElem? hr);obtain ⟨k,hk,hk2⟩:=List.getElem_of_mem (h.mem.2 (show i - 1<=T.length by omega));have hk3:o[k]?=some (i - 1):=by rw [List.getElem?_eq_getElem hk,hk2]
 have r1:=h.row hk3;have r2:=Bm h hr (T.getD (i - 1) 0);have e:T.drop (i - 1)=T.getD (i - 1) 0::T.drop i:=by rw [List.drop_eq_getElem_cons (by omega),List.getD_eq_getElem?_getD,List.getElem?_eq_getElem (by omega),Option.getD_some,show i - 1+1=i by omega]
 rw [e] at r1;rw [<- lS h r,<- r2,r1,hk3]
theorem Ord.first{T o:List Nat}(h:Ord T o):o[0]?=some T.length:=by
 obtain ⟨k,hk,hk2⟩:=List.getElem_of_mem (h.mem.2 (Nat.le_refl T.length));have hk3:o[k]?=some T.length:=by rw [List.getElem?_eq_getElem hk,hk2]
 have:=h.row hk3;rw [List.drop_length] at this;have z:o.countP (fun j=>decide (T.drop j < []))=0:=by rw [List.countP_eq_zero];intro a _;simp
 rw [<- this,z] at hk3;exact hk3
theorem Bn{α:Type}{R:α->α->Prop}{P:α->Bool}(hd:∀ a b,R a b->P b=true->P a=true):∀ {l:List α},l.Pairwise R ->
  (∀ a∈l.take (l.countP P),P a=true)/\(∀ a∈l.drop (l.countP P),P a=false)
 | [],_=>by simp
 | x::l,h=>by
  obtain ⟨h1,h2⟩:=List.pairwise_cons.1 h;have ih:=Bn hd h2;cases hx:P x with
  | true=>
   rw [List.countP_cons,if_pos (by simp [hx]),List.take_succ_cons,List.drop_succ_cons];refine ⟨fun a ha=>?_,ih.2⟩;rcases List.mem_cons.1 ha with rfl | ha
   ·exact hx
   ·exact ih.1 a ha
  | false=>
   have z:(x::l).countP P=0:=by
    rw [List.countP_eq_zero];intro a ha;rcases List.mem_cons.1 ha with rfl | ha
    ·simp [hx]
    ·intro hp;have:=hd x a (h1 a ha) hp;rw [hx] at this;cases this
   rw [z];refine ⟨by simp,fun a ha=>?_⟩;rw [List.drop_zero] at ha;have:=(List.countP_eq_zero.1 z) a ha;cases hp:P a
   ·rfl
   ·exact absurd hp this
def Ob(T o:List Nat)(c:Nat):List Nat:=
 (o.take (o.countP fun j=>decide (T.drop j < c::T))).map (·+1)++0::(o.drop (o.countP fun j=>decide (T.drop j < c::T))).map (·+1)
theorem Ord.put{T o:List Nat}(h:Ord T o)(c:Nat):Ord (c::T) (Ob T o c):=by
 unfold Ob;have hd:=Bn (R:=fun i k=>T.drop i < T.drop k) (P:=fun j=>decide (T.drop j < c::T)) (by intro a b h1 h2;simp only [decide_eq_true_eq] at h2 ⊢;exact wz h1 h2) h.sorted
 have hs:=h.sorted;have hp:=h.perm;have hm:∀ j∈o,j<=T.length:=fun j hj=>h.mem.1 hj;generalize (o.countP fun j=>decide (T.drop j < c::T))=n at *;have ho:o=o.take n++o.drop n:=(List.take_append_drop n o).symm;have m1:∀ j∈o.take n,j<=T.length:=fun j hj=>hm j (List.mem_of_mem_take hj);have m2:∀ j∈o.drop n,j<=T.length:=fun j hj=>hm j (List.mem_of_mem_drop hj);generalize o.take n=a at *;generalize o.drop n=b at *;subst ho;rw [List.pairwise_append] at hs;refine ⟨?_,?_⟩
 ·have e:(a.map (·+1)++0::b.map (·+1)).Perm (0::(a++b).map (·+1)):=by rw [List.map_append];exact List.perm_middle
  refine e.trans ?_;rw [List.length_cons,List.range_succ_eq_map];exact List.Perm.cons 0 (hp.map _)
 ·have dr:∀ j,(c::T).drop (j+1)=T.drop j:=fun j=>List.drop_succ_cons;rw [List.pairwise_append,List.pairwise_cons];refine ⟨?_,⟨?_,?_⟩,?_⟩
  ·rw [List.pairwise_map];simp only [dr];exact hs.1
  ·intro k hk;obtain ⟨j,hj,rfl⟩:=List.mem_map.1 hk;have h1:=hd.2 j hj;simp only [decide_eq_false_iff_not] at h1;rw [dr,List.drop_zero];rcases wv (T.drop j) (c::T) with h2 | h2 | h2
   ·exact absurd h2 h1
   ·have:=congrArg List.length h2;simp only [List.length_drop,List.length_cons] at this;omega
   ·exact h2
  ·rw [List.pairwise_map];simp only [dr];exact hs.2.1
  ·intro i hi k hk;obtain ⟨j,hj,rfl⟩:=List.mem_map.1 hi;have h1:=hd.1 j hj;simp only [decide_eq_true_eq] at h1;rcases List.mem_cons.1 hk with rfl | hk
   ·rw [dr,List.drop_zero];exact h1
   ·obtain ⟨j2,hj2,rfl⟩:=List.mem_map.1 hk;rw [dr,dr];exact hs.2.2 j hj j2 hj2
theorem Ord.nil:Ord [] [0]:=⟨by simp,by simp⟩
theorem pq:∀ (T:List Nat),∃ o,Ord T o/\(aK T).1=bU T o/\(aK T).2.1=o.idxOf 0
 | []=>⟨[0],Ord.nil,by simp [aK,bU],by simp [aK]⟩
 | c::T=>by
  obtain ⟨o,h,e1,e2⟩:=pq T;refine ⟨Ob T o c,h.put c,?_,?_⟩
  ·simp only [aK];rw [e1,e2];have h0:(0:Nat)∈o:=h.mem.2 (Nat.zero_le _);have hx:=List.idxOf_lt_length_iff.2 h0;have hz:o[o.idxOf 0]=0:=List.getElem_idxOf hx;have nd:=h.nodup;have e:o=o.take (o.idxOf 0)++0::o.drop (o.idxOf 0+1):=by conv=>lhs;rw [<- List.take_append_drop (o.idxOf 0) o,List.drop_eq_getElem_cons hx,hz]
   have hl:(o.take (o.idxOf 0)).length=o.idxOf 0:=by simp;omega
   have ep:bU (c::T) (Ob T o c)=o.map fun j=>(c::T).getD j 0:=by unfold bU Ob;generalize (o.countP fun j=>decide (T.drop j < c::T))=n;rw [List.filter_append,List.filter_cons];simp only [ne_eq,not_true_eq_false,decide_false,Bool.false_eq_true,if_false];rw [<- List.filter_append,<- List.map_append,List.take_append_drop,List.filter_eq_self.2 (by intro a ha;obtain ⟨b,-,rfl⟩:=List.mem_map.1 ha;simp),List.map_map];rfl
   rw [ep];have t1:=lS h (o.idxOf 0);rw [if_pos (Nat.le_refl _)] at t1;generalize o.idxOf 0=x at *;unfold nD;have fa:∀ y∈o.take x,y≠0:=by rintro y hy rfl;rw [e,List.nodup_append] at nd;exact nd.2.2 0 hy 0 List.mem_cons_self rfl
   have fb:∀ y∈o.drop (x+1),y≠0:=by rintro y hy rfl;rw [e,List.nodup_append,List.nodup_cons] at nd;exact nd.2.1.1 hy
   have t2:(bU T o).drop x=(o.drop (x+1)).map fun j=>T.getD (j - 1) 0:=by
    have:bU T o=(o.take x).map (fun j=>T.getD (j - 1) 0)++(o.drop (x+1)).map fun j=>T.getD (j - 1) 0:=by
     conv=>lhs;unfold bU;rw [e]
     rw [List.filter_append,List.filter_cons,List.filter_eq_self.2 (by intro y hy;simpa using fa y hy),List.filter_eq_self.2 (by intro y hy;simpa using fb y hy)];simp
    rw [this,List.drop_left' (by simp;omega)]
   have t3:bU T (o.take x)=(o.take x).map fun j=>T.getD (j - 1) 0:=by unfold bU;rw [List.filter_eq_self.2 (by intro y hy;simpa using fa y hy)]
   rw [<- t1,t2,t3]
   conv=>rhs;rw [e,List.map_append,List.map_cons]
   have g:∀ y:Nat,y≠0->(c::T).getD y 0=T.getD (y - 1) 0:=by intro y hy;obtain ⟨z,rfl⟩:∃ z,y=z+1:=⟨y - 1,by omega⟩;rfl
   congr 1
   ·apply List.map_congr_left;intro y hy;exact (g y (fa y hy)).symm
   ·congr 1;apply List.map_congr_left;intro y hy;exact (g y (fb y hy)).symm
  ·simp only [aK];rw [e1,e2,Jw];have h0:(0:Nat)∈o:=h.mem.2 (Nat.zero_le _);have hx:=List.idxOf_lt_length_iff.2 h0;have hz:o[o.idxOf 0]?=some 0:=by rw [List.getElem?_eq_getElem hx,List.getElem_idxOf hx]
   have rk:=Bm h hz c;rw [List.drop_zero,lS h,if_pos (Nat.le_refl _)] at rk;rw [<- rk];unfold Ob;have hn:(o.countP fun j=>decide (T.drop j < c::T))<=o.length:=List.countP_le_length;generalize (o.countP fun j=>decide (T.drop j < c::T))=n at *;rw [List.idxOf_append,if_neg (by intro hm;obtain ⟨y,-,hy⟩:=List.mem_map.1 hm;omega),List.idxOf_cons_self];simp;omega
end AM
namespace TuF
open Go Go.RowKit AM aE LtA SyP TmM TsA TsB TsC TsE TsI TsJ TtA TtB TtC TtD TtE TtF TtG TtH TtI TtJ TtK TtL TtM TtN TtO TtP TuA TuB TuC TuD TuE Bt
theorem De:∀ n:Nat,(List.replicate n [Value.int .i64 0]).flatten=is (List.replicate n 0)
 | 0=>rfl
 | n+1=>by rw [List.replicate_succ,List.flatten_cons,De n,List.replicate_succ];rfl
theorem Ys(l:List Nat)(j i:Nat):(is l).set j (.int .i64 (i:Nat))=is (l.set j i):=by unfold is;rw [List.map_set]
def oI(o:List Nat)(i:Nat):List Nat:=o.map fun x=>if x < i then x else 0
theorem Vq{o:List Nat}{n:Nat}(h:o.length=n):oI o 0=List.replicate n 0:=by
 subst h;apply List.ext_getElem
 ·simp [oI]
 ·intro q h1 h2;simp [oI]
theorem Yt{o:List Nat}{n:Nat}(h:∀ x∈o,x < n):oI o n=o:=by
 unfold oI
 conv=>rhs;rw [<- List.map_id o]
 exact List.map_congr_left fun x hx=>by rw [if_pos (h x hx)];rfl
theorem Yu{o:List Nat}{i j:Nat}(hn:o.Nodup)(hj:o[j]?=some i):(oI o i).set j i=oI o (i+1):=by
 obtain ⟨h1,h2⟩:=List.getElem?_eq_some_iff.1 hj;apply List.ext_getElem
 ·simp [oI]
 ·intro q q1 q2;rw [List.getElem_set];have q3:q < o.length:=by simpa [oI] using q2
  simp only [oI,List.getElem_map];by_cases e:j=q
  ·subst e;rw [if_pos rfl,h2,if_pos (by omega)]
  ·rw [if_neg e];have hne:o[q]≠i:=fun e2=>e (by rw [<- hn.idxOf_getElem j h1,<- hn.idxOf_getElem q q3,h2,e2]);by_cases e3:o[q] < i
   ·rw [if_pos e3,if_pos (by omega)]
   ·rw [if_neg e3,if_neg (by omega)]
theorem yR(x:List Nat):∀ (o:List Nat) (row:Nat) (acc:List Nat) (idx:Nat),o.Nodup->pW x o row acc idx=(acc++bU x o,if 0∈o then row+o.idxOf 0 else idx)
 | [],row,acc,idx,_=>by simp [pW,bU]
 | i::o,row,acc,idx,h=>by
  rw [List.nodup_cons] at h;rw [pW];by_cases h0:i=0
  ·subst h0;rw [if_pos rfl,yR x o (row+1) acc row h.2,if_neg h.1];simp [bU]
  ·rw [if_neg h0,yR x o (row+1) _ idx h.2];have h0':¬ 0=i:=fun e=>h0 e.symm;refine Prod.ext ?_ ?_
   ·simp [bU,h0]
   ·simp only [List.mem_cons,h0',false_or];split
    ·rw [List.idxOf_cons,show (i==0)=false by simpa using h0,cond_false];omega
    ·rfl
section
variable{hp:List Blk}{L:Nat}{H d:List Nat}
theorem Lu{n:Nat}{r o:List Nat}(hr:r.length=n)(hol:o.length=n)(hn:n<=255)(hnd:o.Nodup)(hb:∀ x∈o,x < n)(hat:∀ i,i < n->o[r.getD i 0]?=some i)(hF:Fit hp.length L H):∀ (j i:Nat),i+j=n->∃ fr,
  aG env CR [14,13,12,4] (hp.length+2) [(14,.int .i64 i),(13,.int .i64 n),(12,.slice (some ⟨hp.length,0,some n⟩) n 1),(4,.slice (some ⟨hp.length+1,0,some 0⟩) n 1)] ⟨hp++[.cells n true (is r),.cells 0 true (is (oI o i))],L,H,[]⟩
   = some (.exit 0,fr,⟨hp++[.cells n true (is r),.cells 0 true (is o)],L,H,[]⟩)/\fr.get 4=some (.slice (some ⟨hp.length+1,0,some 0⟩) n 1)
 | 0,i,hij=>by
  have h1:¬ (i:Int) < (n:Int):=by omega
  obtain rfl:i=n:=by omega
  rw [Yt hb,ak CR.eq_1];simp (disch:=first|exact dis|fail) only [sy,simprocAttr,-List.reduceReplicate,hF.all,h1];exact ⟨_,rfl,rfl⟩
 | j+1,i,hij=>by
  have h1:(i:Int) < (n:Int):=by omega
  obtain ⟨fr,ih,ih2⟩:=Lu hr hol hn hnd hb hat hF j (i+1) (by omega);refine ⟨fr,?_,ih2⟩;have ha:=hat i (by omega);have hx:=(List.getElem?_eq_some_iff.1 ha).1;have bK:=Yu hnd ha;have his:=Ys (oI o i) (r.getD i 0) i;rw [bK] at his;have hc:(is r)[i]?=some (.int .i64 (r.getD i 0:Nat)):=by rw [is,List.getElem?_map,List.getD_eq_getElem?_getD,List.getElem?_eq_getElem (by omega)];rfl
  have hil:(is (oI o i)).length=n:=by simp [is,oI,hol]
  generalize r.getD i 0=y at *;generalize is (oI o i)=P at *;generalize is (oI o (i+1))=P2 at *;have h2:0<=(i:Int)/\(i:Int) < (n:Int):=by omega
  have h3:0<=(y:Int)/\(y:Int) < (n:Int):=by omega
  have s1:y+1<=n:=by omega
  simp only [Int.natCast_add,Int.natCast_one] at ih;rw [ak CR.eq_1];simp (disch:=first|exact dis|fail) only [sy,simprocAttr,-List.reduceReplicate,hF.all,h1,h2,h3,hc,hil,s1,his,ih]
theorem Jx{x:List Nat}{v:Value}(hR:Rd ⟨hp,L,H,[]⟩ v x)(hxs:x.length<=254)(h8:By x)(hF:Fit hp.length L H):∃ o,Ord x o/\∀ d,
  aN env (.func 53) [v] ⟨hp,L,H,d⟩=some (.slice (some ⟨hp.length,0,some 0⟩) (x.length+1) 1,⟨hp++[.cells 0 true (is o)],L,H,d⟩):=by
 obtain ⟨l,k,w,hK,hl,hlk,hRk,kr⟩:=Jv hR hxs h8 hF;have ho:=RdP.Sn hK hlk hRk;have hO:Ord x (RdP.rows l k):=⟨ho.1,ho.2⟩;have hat:∀ i,i < x.length+1->(RdP.rows l k)[(RdP.rnk l k).getD i 0]?=some i:=fun i hi=>RdP.Vd hK hlk (by omega);have hrl:(RdP.rnk l k).length=x.length+1:=by rw [RdP.o9,hl]
 refine ⟨RdP.rows l k,hO,fun d=>?_⟩;generalize RdP.rows l k=o at *;generalize RdP.rnk l k=r at *;obtain ⟨n,hn⟩:∃ n,n=x.length+1:=⟨_,rfl⟩;rw [<- hn] at hat hrl ⊢;simp only [<- hn] at kr;obtain ⟨fr,l0,l1⟩:=Lu (hp:=hp) (L:=L) (H:=H) hrl (hO.len.trans hn.symm) (by omega) hO.nodup (fun y hy=>by have:=hO.mem.1 hy;omega) hat hF n 0 (by omega);rw [Vq (hO.len.trans hn.symm),<- De] at l0;rw [av 53 _ _ acB];have h0n:¬ (n:Int)=0:=by omega
 have hge:0<=(n:Int):=by omega
 have hn3:(n:Int)<=1048576:=by omega
 have hn4:n<=1048576:=by omega
 have hG:=fun c1=>iO (h:=hp) (nw:=[c1,.cells 0 true (is o)]) (L:=L) (H:=H) (v:=.slice (some ⟨hp.length+1,0,some 0⟩) n 1) 1 rfl (by simp [refs,bw,aI]) (by simp [refs,bw,aI]);have o2:AM.one hp.length (hp.length+1) (hp.length+1)=hp.length:=eU;simp only [Int.natCast_zero] at l0;simp (disch:=first|exact dis|fail) only [sy,simprocAttr,-List.reduceReplicate,hF.all,XQ,kr,hge,hn3,hn4,h0n,Int.le_refl,Nat.one_mul,l0,l1,hG,ren,fN,dU,o2,List.map_cons,List.map_nil]
theorem Oc{x:List Nat}{v:Value}(hR:Rd ⟨hp,L,H,[]⟩ v x)(h1:1<=x.length)(hxs:x.length<=254)(h8:By x)(hF:Fit hp.length L H) :
  aN env (.func 15) [v] ⟨hp,L,H,d⟩=some (.tuple #[.slice (some ⟨hp.length,0,some x.length⟩) x.length 1,.int .i64 ((aK x).2.1:Nat)],⟨hp++[.cells x.length true (u8s (aK x).1)],L,H,d⟩):=by obtain ⟨o,hO,ko⟩:=Jx hR hxs h8 hF;obtain ⟨o2,hO2,t1,t2⟩:=pq x;obtain rfl:=hO.uniq hO2;rw [t1,t2];have hcl:=yQ hO;have h0:(0:Nat)∈o:=hO.mem.2 (Nat.zero_le _);obtain ⟨a,e,rfl⟩:=hR.len;obtain ⟨fr,l0,l1,l2⟩:=C4 (hp:=hp) (L:=L) (H:=H) hR (by omega) (by rw [hO.len];omega) (fun i hi=>hO.mem.1 hi) hF o.length 0 [] 0 (by omega) (by simp);rw [List.drop_zero,yR x o 0 [] 0 hO.nodup,if_pos h0] at l0 l1 l2;simp only [List.nil_append,Nat.zero_add] at l0 l1 l2;rw [yz hcl (by omega)] at l0;rw [F6 hcl (by omega)] at l1;unfold R7 at l0;rw [hO.len] at l0;rw [av 15 _ _ acz];have hG:=fun c1=>iO (h:=hp) (nw:=[c1,.cells x.length true (u8s (bU x o))]) (L:=L) (H:=H) (v:=.tuple #[.slice (some ⟨hp.length+1,0,some x.length⟩) x.length 1,.int .i64 (o.idxOf 0:Nat)]) 1 rfl (by simp [refs,bw,aI]) (by simp [refs,bw,aI]);have o2:AM.one hp.length (hp.length+1) (hp.length+1)=hp.length:=eU;simp only [Int.natCast_zero,C2,yA] at l0;simp (disch:=first|exact dis|fail) only [sy,simprocAttr,-List.reduceReplicate,hF.all,XO,ko,l0,l1,l2,hG,ren,fN,dU,o2,List.map_cons,List.map_nil]
end
end TuF
namespace TuG
open Go Go.RowKit AM aE LtA SyP TmM TsA TsB TsC TsE TsF TsI TsJ TtA TtB TtC TtD TtE TtF TtG TtH TtI TtJ TtK TtL TtM TtN TtO TtP TuA TuB TuC TuD TuE TuF Bt
end TuG
namespace AM
open Go Go.RowKit
end AM
namespace AM
open Go Go.RowKit
theorem Od{t:List Nat}{i k:Nat}(hi:i < t.length)(hk:k < t.length)(h:t[i]=t[k]):(t.drop i < t.drop k↔t.drop (i+1) < t.drop (k+1)):=by rw [List.drop_eq_getElem_cons hi,List.drop_eq_getElem_cons hk,List.cons_lt_cons_iff];simp [h]
theorem Vr{t:List Nat}{i k:Nat}(hi:i < t.length)(hk:k < t.length)(h:t[i]≠t[k]):(t.drop i < t.drop k↔t[i] < t[k]):=by rw [List.drop_eq_getElem_cons hi,List.drop_eq_getElem_cons hk,List.cons_lt_cons_iff];simp [h]
theorem Sy{t:List Nat}{i:Nat}(hi:i < t.length):t.drop t.length < t.drop i:=by rw [List.drop_length,List.drop_eq_getElem_cons hi];exact List.nil_lt_cons _ _
def tN(t:List Nat)(i:Nat)(out:List Nat):Nat->Nat
 | 0=>0
 | k+1=>if t.drop i < t.drop (out.getD k 0) then tN t i out k else k+1
theorem Lv(t:List Nat)(i:Nat)(out:List Nat):∀ k,tN t i out k<=k
 | 0=>Nat.le_refl _
 | k+1=>by have:=Lv t i out k;unfold tN;split<;>omega
theorem yS(t:List Nat)(i:Nat)(out:List Nat):∀ k j,tN t i out k<=j->j < k->t.drop i < t.drop (out.getD j 0)
 | 0,j,_,h=>absurd h (Nat.not_lt_zero _)
 | k+1,j,h1,h2=>by
  unfold tN at h1;split at h1
  ·rename_i h3;by_cases hj:j=k
   ·subst hj;exact h3
   ·exact yS t i out k j h1 (by omega)
  ·omega
theorem Bo(t:List Nat)(i:Nat)(out:List Nat):∀ k,0 < tN t i out k->¬ t.drop i < t.drop (out.getD (tN t i out k - 1) 0)
 | 0,h=>absurd h (Nat.lt_irrefl _)
 | k+1,h=>by
  by_cases h3:t.drop i < t.drop (out.getD k 0)
  ·have e:tN t i out (k+1)=tN t i out k:=if_pos h3;rw [e] at h ⊢;exact Bo t i out k h
  ·have e:tN t i out (k+1)=k+1:=if_neg h3;rw [e];exact h3
def abo(t:List Nat)(i:Nat)(out:List Nat):List Nat:=out.take (tN t i out out.length)++i::out.drop (tN t i out out.length)
def yT(t:List Nat):Nat->List Nat
 | 0=>[]
 | n+1=>abo t n (yT t n)
theorem Df(t:List Nat):∀ n,n<=t.length+1->(yT t n).Perm (List.range n)/\(yT t n).Pairwise fun i k=>t.drop i < t.drop k
 | 0,_=>by simp [yT]
 | n+1,hn=>by
  obtain ⟨hp,hs⟩:=Df t n (by omega);have hm:∀ j∈yT t n,j < n:=fun j hj=>List.mem_range.1 (hp.mem_iff.1 hj);simp only [yT,abo];generalize yT t n=out at *;have hk:=Lv t n out out.length;have haf:=yS t n out out.length;have hst:=Bo t n out out.length;generalize tN t n out out.length=k at *;have ho:out=out.take k++out.drop k:=(List.take_append_drop k out).symm;have gD:∀ j (h:j < out.length),out.getD j 0=out[j]:=fun j h=>by rw [List.getD_eq_getElem?_getD,List.getElem?_eq_getElem h,Option.getD_some]
  refine ⟨?_,?_⟩
  ·rw [List.range_succ];refine List.perm_middle.trans ?_;rw [List.take_append_drop];exact (List.Perm.cons n hp).trans (List.perm_append_singleton n _).symm
  ·have hs2:=hs;rw [ho,List.pairwise_append] at hs2;rw [List.pairwise_append,List.pairwise_cons];have hb:∀ x∈out.drop k,t.drop n < t.drop x:=by intro x hx;obtain ⟨j,hj,rfl⟩:=List.getElem_of_mem hx;rw [List.length_drop] at hj;rw [List.getElem_drop,<- gD _ (by omega)];exact haf (k+j) (by omega) (by omega)
   have ha:∀ x∈out.take k,t.drop x < t.drop n:=by
    intro x hx;have hk0:0 < k:=by
     rcases Nat.eq_zero_or_pos k with h | h
     ·rw [h] at hx;simp at hx
     ·exact h
    have h1:=hst hk0;rw [gD _ (by omega)] at h1;have h2:t.drop out[k - 1] < t.drop n:=by
     rcases wv (t.drop n) (t.drop out[k - 1]) with h3 | h3 | h3
     ·exact absurd h3 h1
     ·have h4:=congrArg List.length h3;have h5:=hm out[k - 1] (List.getElem_mem _);simp only [List.length_drop] at h4;omega
     ·exact h3
    obtain ⟨j,hj,rfl⟩:=List.getElem_of_mem hx;rw [List.length_take] at hj;rw [List.getElem_take];by_cases hjk:j=k - 1
    ·subst hjk;exact h2
    ·exact wz (List.pairwise_iff_getElem.1 hs j (k - 1) (by omega) (by omega) (by omega)) h2
   refine ⟨hs2.1,⟨hb,hs2.2.1⟩,?_⟩;intro x hx y hy;rcases List.mem_cons.1 hy with rfl | hy
   ·exact ha x hx
   ·exact wz (ha x hx) (hb y hy)
theorem Gz(t:List Nat):Ord t (yT t (t.length+1)):=⟨(Df t _ (Nat.le_refl _)).1,(Df t _ (Nat.le_refl _)).2⟩
theorem Sz(t:List Nat):(aK t).1=bU t (yT t (t.length+1))/\(aK t).2.1=(yT t (t.length+1)).idxOf 0:=by obtain ⟨o,h,e⟩:=pq t;rwa [h.uniq (Gz t)] at e
end AM
namespace ArA
open Go Go.RowKit AM aE
end ArA
namespace ArA
open Go Go.RowKit AM aE
abbrev arP(r:Nat):Value:=.pointer (some ⟨r,0,some 0⟩)
section
variable{hp:List Blk}{r q L:Nat}{H d:List Nat}{A:Arn}
theorem bE(hF:Fit hp.length L H)(k:bF hp.length r q H A)(s n:Int) :
  aN env (.func 115) [arP r,.agg #[.int .i64 s,.int .i64 n]] ⟨put hp r q A,L,H,d⟩=some (.bool (A.has s n),⟨put hp r q A,L,H,d⟩):=by
 have h1:=k.cJ;have h2:=k.cI;have h3:=k.gV;have h4:=k.dn;have h5:=k.size;rw [av 115 _ _ Z7];simp (disch:=first|exact aQ|fail) only [sy,simprocAttr,-List.reduceReplicate,syR,Int.le_refl,hF.all,k.hr,k.hq,KP];iterate 4 (all_goals (try (split<;>rename_i hq<;>(try simp only [Decidable.not_not] at hq)<;>(first | simp (disch:=first|exact aQ|fail) only [sy,simprocAttr,-List.reduceReplicate,syR,Int.le_refl,hF.all,k.hr,k.hq,eq_false hq] | simp (disch:=first|exact aQ|fail) only [sy,simprocAttr,-List.reduceReplicate,syR,Int.le_refl,hF.all,k.hr,k.hq,eq_true hq]))))
 all_goals (simp [Arn.has, *])
theorem gF(hF:Fit hp.length L H)(k:bF hp.length r q H A)(s len i n:Int)(h0:0<=n)(hn:n<=4) :
  aN env (.func 180) [arP r,.agg #[.int .i64 s,.int .i64 len],.int .i64 i,.int .i64 n] ⟨put hp r q A,L,H,d⟩=some (A.oB q s len i n,⟨put hp r q A,L,H,d⟩):=by
 have h1:=k.cJ;have h2:=k.cI;have h3:=k.gV;have h4:=k.dn;have h5:=k.size;have hne:=k.ne;rw [av 180 _ _ aaw];cases hh:A.has s len with
 | false=>
  simp (disch:=first|exact aQ|fail) only [sy,simprocAttr,-List.reduceReplicate,syR,Int.le_refl,hF.all,k.hr,k.hq,yp,bE,hh];simp [Arn.oB,Arn.part,hh]
 | true=>
  have hh':=Arn.cq.1 hh;by_cases c1:i < 0
  ·simp (disch:=first|exact aQ|fail) only [sy,simprocAttr,-List.reduceReplicate,syR,Int.le_refl,hF.all,k.hr,k.hq,yp,bE,hh,c1];simp only [Arn.oB];rw [if_neg (by rw [Arn.dM];omega)]
  by_cases c2:i > len - n
  ·simp (disch:=first|exact aQ|fail) only [sy,simprocAttr,-List.reduceReplicate,syR,Int.le_refl,hF.all,k.hr,k.hq,yp,bE,hh,c1,c2];simp only [Arn.oB];rw [if_neg (by rw [Arn.dM];omega)]
  ·have c3:0<=i+s/\i+s<=i+s+n/\i+s+n<=i+s+n/\i+s+n<=(A.bs.length:Int):=by omega
   have e1:(i+s+n).toNat - (i+s).toNat=n.toNat:=by omega
   simp (disch:=first|exact aQ|fail) only [sy,simprocAttr,-List.reduceReplicate,syR,Int.le_refl,hF.all,k.hr,k.hq,yp,bE,hh,c1,c2,c3,e1];simp only [Arn.oB];rw [if_pos (by rw [Arn.dM];omega),Int.add_comm i s]
theorem oE(k:bF hp.length r q H A){s len i n:Int}(h:A.part s len i n=true)(h0:1<=n){j:Nat}(hj:j < n.toNat):(u8s A.bs)[(s+i).toNat+j]?=some (.int .u8 (A.slot s (i+j):Nat)):=by
 have:=k.pg h (by omega);rw [j8,Arn.slot,List.getD_eq_getElem?_getD];have e:(s+(i+j)).toNat=(s+i).toNat+j:=by omega
 rw [e,List.getElem?_eq_getElem (by omega)];rfl
theorem eP(hF:Fit hp.length L H)(k:bF hp.length r q H A)(s len i:Int) :
  aN env (.func 125) [arP r,.agg #[.int .i64 s,.int .i64 len],.int .i64 i] ⟨put hp r q A,L,H,d⟩=some (.tuple #[.int .u8 (A.kF s len i),.bool (A.part s len i 1)],⟨put hp r q A,L,H,d⟩):=by
 have h1:=k.cJ;have h2:=k.cI;have h3:=k.gV;have h4:=k.dn;have h5:=k.size;have hne:=k.ne;rw [av 125 _ _ aah];cases hh:A.part s len i 1 with
 | false=>
  simp (disch:=first|exact aQ|fail) only [sy,simprocAttr,-List.reduceReplicate,syR,Int.le_refl,hF.all,k.hr,k.hq,FL,gF,Arn.oB,hh];simp [Arn.kF,hh]
 | true=>
  have hs:=oE k hh (by omega) (j:=0) (by decide);have hs2:=k.pg hh (by omega);simp only [Nat.add_zero,Int.natCast_zero,Int.add_zero] at hs;simp (disch:=first|exact aQ|fail) only [sy,simprocAttr,-List.reduceReplicate,syR,Int.le_refl,hF.all,k.hr,k.hq,FL,gF,Arn.oB,hh,hs];simp [Arn.kF,hh]
theorem mX(hF:Fit hp.length L H)(k:bF hp.length r q H A)(hw:L<=r/\L<=q)(s len i:Int)(c:Nat)(hc:c < 256) :
  aN env (.func 126) [arP r,.agg #[.int .i64 s,.int .i64 len],.int .i64 i,.int .u8 c] ⟨put hp r q A,L,H,d⟩=some (.bool (A.part s len i 1),⟨put hp r q (A.cL s len i c),L,H,d⟩):=by
 have h1:=k.cJ;have h2:=k.cI;have h3:=k.gV;have h4:=k.dn;have h5:=k.size;have hne:=k.ne;rw [av 126 _ _ aai];cases hh:A.part s len i 1 with
 | false=>
  simp (disch:=first|exact aQ|fail) only [sy,simprocAttr,-List.reduceReplicate,syR,Int.le_refl,hF.all,k.hr,k.hq,FM,gF,Arn.oB,hh];simp [Arn.cL,hh]
 | true=>
  have hs2:=k.pg hh (by omega);have hql:(q < L)=False:=eq_false (by omega);have hb:(s+i).toNat+1<=A.bs.length:=by omega
  have bK:(u8s A.bs).set (s+i).toNat (.int .u8 c)=u8s (A.bs.set (s+i).toNat c):=by simp [u8s,List.map_set]
  simp (disch:=first|exact aQ|fail) only [sy,simprocAttr,-List.reduceReplicate,syR,Int.le_refl,hF.all,k.hr,k.hq,FM,gF,Arn.oB,hh,hql,hb,bK];simp only [Arn.cL,hh,if_true,Arn.setAt];rw [yM (by omega)]
theorem jy(hF:Fit hp.length L H)(k:bF hp.length r q H A)(s len i:Int) :
  aN env (.func 226) [arP r,.agg #[.int .i64 s,.int .i64 len],.int .i64 i] ⟨put hp r q A,L,H,d⟩=some (if A.iX s len i=true then .slice (some ⟨q,(s+4*i).toNat,some 0⟩) 4 0 else .slice none 0 0,⟨put hp r q A,L,H,d⟩):=by
 have h1:=k.cJ;have h2:=k.cI;have h3:=k.gV;have h4:=k.dn;have h5:=k.size;have hne:=k.ne;rw [av 226 _ _ aaG];by_cases c1:i < 0
 ·simp (disch:=first|exact aQ|fail) only [sy,simprocAttr,-List.reduceReplicate,syR,Int.le_refl,hF.all,k.hr,k.hq,AS,c1];rw [if_neg (by simp [Arn.iX];omega)]
 by_cases c2:i > 1048576
 ·simp (disch:=first|exact aQ|fail) only [sy,simprocAttr,-List.reduceReplicate,syR,Int.le_refl,hF.all,k.hr,k.hq,AS,c1,c2];rw [if_neg (by simp [Arn.iX];omega)]
 have e:i*4=4*i:=Int.mul_comm _ _;have hw:A.iX s len i=A.part s len (4*i) 4:=by simp only [Arn.iX];rw [decide_eq_true (by omega),Bool.true_and]
 rw [hw];cases hh:A.part s len (4*i) 4 with
 | false=>simp (disch:=first|exact aQ|fail) only [sy,simprocAttr,-List.reduceReplicate,syR,Int.le_refl,hF.all,k.hr,k.hq,AS,c1,c2,e,gF,Arn.oB,hh]
 | true=>
  have hs2:=k.pg hh (by omega);simp (disch:=first|exact aQ|fail) only [sy,simprocAttr,-List.reduceReplicate,syR,Int.le_refl,hF.all,k.hr,k.hq,AS,c1,c2,e,gF,Arn.oB,hh]
theorem Bp(hF:Fit hp.length L H)(k:bF hp.length r q H A)(s len i:Int) :
  aN env (.func 179) [arP r,.agg #[.int .i64 s,.int .i64 len],.int .i64 i] ⟨put hp r q A,L,H,d⟩=some (.tuple #[.int .u32 (A.cY s len i),.bool (A.iX s len i)],⟨put hp r q A,L,H,d⟩):=by
 have h1:=k.cJ;have h2:=k.cI;have h3:=k.gV;have h4:=k.dn;have h5:=k.size;have hne:=k.ne;rw [av 179 _ _ aav];cases hh:A.iX s len i with
 | false=>
  simp (disch:=first|exact aQ|fail) only [sy,simprocAttr,-List.reduceReplicate,syR,Int.le_refl,hF.all,k.hr,k.hq,KW,jy,hh];rw [ak mK.eq_1];simp (disch:=first|exact aQ|fail) only [sy,simprocAttr,-List.reduceReplicate,syR,Int.le_refl,hF.all,k.hr,k.hq];simp [Arn.cY,hh]
 | true=>
  have hw:=k.yN hh;have s0:=oE k hw.2.2.2.2 (by omega) (j:=0) (by decide);have s1:=oE k hw.2.2.2.2 (by omega) (j:=1) (by decide);have s2:=oE k hw.2.2.2.2 (by omega) (j:=2) (by decide);have s3:=oE k hw.2.2.2.2 (by omega) (j:=3) (by decide);have b0:=Arn.jx k.by_ s (4*i);have b1:=Arn.jx k.by_ s (4*i+1);have b2:=Arn.jx k.by_ s (4*i+2);have b3:=Arn.jx k.by_ s (4*i+3);simp only [Nat.add_zero,Int.natCast_zero,Int.add_zero,Int.natCast_one,Int.cast_ofNat_Int] at s0 s1 s2 s3;simp (disch:=first|exact aQ|fail) only [sy,simprocAttr,-List.reduceReplicate,syR,Int.le_refl,hF.all,k.hr,k.hq,KW,jy,hh];rw [ak mK.eq_1];simp (disch:=first|exact aQ|fail) only [sy,simprocAttr,-List.reduceReplicate,syR,Int.le_refl,hF.all,k.hr,k.hq,s0,Yr];rw [ak mK.eq_1];simp (disch:=first|exact aQ|fail) only [sy,simprocAttr,-List.reduceReplicate,syR,Int.le_refl,hF.all,k.hr,k.hq,s1,Yq];rw [ak mK.eq_1];simp (disch:=first|exact aQ|fail) only [sy,simprocAttr,-List.reduceReplicate,syR,Int.le_refl,hF.all,k.hr,k.hq,s2,Vk];rw [ak mK.eq_1];simp (disch:=first|exact aQ|fail) only [sy,simprocAttr,-List.reduceReplicate,syR,Int.le_refl,hF.all,k.hr,k.hq,s3,Vl];rw [ak mK.eq_1];simp (disch:=first|exact aQ|fail) only [sy,simprocAttr,-List.reduceReplicate,syR,Int.le_refl,hF.all,k.hr,k.hq];have e5:((le4 (A.slot s (4*i)) (A.slot s (4*i+1)) (A.slot s (4*i+2)) (A.slot s (4*i+3)):Nat):Int)=A.slot s (4*i)+A.slot s (4*i+1)*256+A.slot s (4*i+2)*65536+A.slot s (4*i+3)*16777216:=by unfold le4;omega
  simp only [Arn.cY,hh,if_true,e5]
theorem Dg(hF:Fit hp.length L H)(k:bF hp.length r q H A)(hw:L<=r/\L<=q)(s len i:Int)(v:Nat)(hv:v < 4294967296) :
  aN env (.func 225) [arP r,.agg #[.int .i64 s,.int .i64 len],.int .i64 i,.int .u32 v] ⟨put hp r q A,L,H,d⟩=some (.bool (A.iX s len i),⟨put hp r q (A.bI s len i v),L,H,d⟩):=by
 have h1:=k.cJ;have h2:=k.cI;have h3:=k.gV;have h4:=k.dn;have h5:=k.size;have hne:=k.ne;rw [av 225 _ _ aaF];cases hh:A.iX s len i with
 | false=>
  simp (disch:=first|exact aQ|fail) only [sy,simprocAttr,-List.reduceReplicate,syR,Int.le_refl,hF.all,k.hr,k.hq,KZ,jy,hh];rw [ak mM.eq_1];simp (disch:=first|exact aQ|fail) only [sy,simprocAttr,-List.reduceReplicate,syR,Int.le_refl,hF.all,k.hr,k.hq];simp [Arn.bI,hh]
 | true=>
  have hp4:=k.yN hh;have hql:(q < L)=False:=eq_false (by omega);have w0:IntKind.u8.wrap ((v:Int).fdiv 1)=((v%256:Nat):Int):=by rw [UJ,n8 _ (by omega)];omega
  have w1:IntKind.u8.wrap ((v:Int).fdiv 256)=((v / 256%256:Nat):Int):=by rw [UJ,n8 _ (by omega)];omega
  have w2:IntKind.u8.wrap ((v:Int).fdiv 65536)=((v / 65536%256:Nat):Int):=by rw [UJ,n8 _ (by omega)];omega
  have w3:IntKind.u8.wrap ((v:Int).fdiv 16777216)=((v / 16777216%256:Nat):Int):=by rw [UJ,n8 _ (by omega)];omega
  have o0:(s+4*i).toNat+1<=A.bs.length:=by omega
  have o1:(s+4*i).toNat+1+1<=A.bs.length:=by omega
  have o2:(s+4*i).toNat+2+1<=A.bs.length:=by omega
  have o3:(s+4*i).toNat+3+1<=A.bs.length:=by omega
  simp (disch:=first|exact aQ|fail) only [sy,simprocAttr,-List.reduceReplicate,syR,Int.le_refl,hF.all,k.hr,k.hq,KZ,jy,hh];rw [ak mM.eq_1];simp (disch:=first|exact aQ|fail) only [sy,simprocAttr,-List.reduceReplicate,syR,Int.le_refl,hF.all,k.hr,k.hq,hql,w0,o0];rw [ak mM.eq_1];simp (disch:=first|exact aQ|fail) only [sy,simprocAttr,-List.reduceReplicate,syR,Int.le_refl,hF.all,k.hr,k.hq,hql,w1,o1];rw [ak mM.eq_1];simp (disch:=first|exact aQ|fail) only [sy,simprocAttr,-List.reduceReplicate,syR,Int.le_refl,hF.all,k.hr,k.hq,hql,w2,o2];rw [ak mM.eq_1];simp (disch:=first|exact aQ|fail) only [sy,simprocAttr,-List.reduceReplicate,syR,Int.le_refl,hF.all,k.hr,k.hq,hql,w3,o3];rw [ak mM.eq_1];simp (disch:=first|exact aQ|fail) only [sy,simprocAttr,-List.reduceReplicate,syR,Int.le_refl,hF.all,k.hr,k.hq];simp only [Arn.bI,hh,if_true,Arn.setAt,ji];rw [N9 (by omega)]
theorem qD{a:Addr}{n e:Nat}{l:List Nat}(hF:Fit hp.length L H)(hr:Rd ⟨hp,L,H,[]⟩ (.slice (some a) n e) l)(hn:l.length<=1048576) :
  aN env (.func 118) [.slice (some a) n e] ⟨hp,L,H,d⟩=some (sl hp.length l.length (some l),⟨hp++slB l.length (some l),L,H,d⟩):=by rw [av 118 _ _ aaa];have h1:=(hr.app (nw:=[.cells 0 true []]) (L':=L) (d':=[])).news;simp (disch:=first|exact dis|fail) only [sy,simprocAttr,-List.reduceReplicate,hF.all,Ru,h1,FH hF hn,small,rN,n9];rw [iO 0 rfl (by simp [refs,bw,aI]) (by simp [refs,bw,aI])];simp only [Nat.add_zero,ren,fN,dU,Rm];simp (disch:=first|exact dis|fail) only [sy,simprocAttr,-List.reduceReplicate,hF.all]
theorem SA(k:bF hp.length r q H A){o n e:Nat}{d:List Nat}(h:o+n<=A.bs.length)(he:e=0\/e=1):Rd ⟨put hp r q A,L,H,d⟩ (.slice (some ⟨q,o,some 0⟩) n e) ((A.bs.drop o).take n):=
 ⟨(k.by_.drop _).take _,.inr ⟨q,o,0,e,true,u8s A.bs,by congr 1;simp;omega,he,k.hq,W5 k.cI k.ne,by simp [u8s];omega,by
  have:((A.bs.drop o).take n).length=n:=by simp;omega
  rw [this,O2,O3]⟩⟩
theorem Bq(hF:Fit hp.length L H)(k:bF hp.length r q H A)(s n:Int) :
  aN env (.func 58) [arP r,.agg #[.int .i64 s,.int .i64 n]] ⟨put hp r q A,L,H,d⟩=some (sl hp.length ((A.uZ s n).getD []).length (A.uZ s n),⟨put (hp++slB ((A.uZ s n).getD []).length (A.uZ s n)) r q A,L,H,d⟩):=by
 have h1:=k.cJ;have h2:=k.cI;have h3:=k.gV;have h4:=k.dn;have h5:=k.size;have hne:=k.ne;rw [av 58 _ _ acG];cases hh:A.has s n with
 | false=>
  simp (disch:=first|exact aQ|fail) only [sy,simprocAttr,-List.reduceReplicate,syR,Int.le_refl,hF.all,k.hr,k.hq,UQ,bE,hh,Arn.uZ,UM,Rk]
 | true=>
  have hh':=Arn.cq.1 hh;have c3:0<=s/\s<=s+n/\s+n<=(A.bs.length:Int):=by omega
  have e1:(s+n).toNat - s.toNat=n.toNat:=by omega
  have hl:((A.bs.drop s.toNat).take n.toNat).length=n.toNat:=by simp;omega
  have hcl:=qD (d:=[]) (e:=1) (n:=n.toNat) (a:=⟨q,s.toNat,some 0⟩) (hp:=put (hp++[.cells 0 true [.int .i64 s,.int .i64 n]]) r q A) (L:=L) (H:=H) (by rw [bL];exact hF.mono (by simp)) (SA (L:=L) (k.mono (by simp)) (by omega) (.inr rfl)) (by omega);simp (disch:=first|exact aQ|fail) only [sy,simprocAttr,-List.reduceReplicate,syR,Int.le_refl,hF.all,k.hr,k.hq,UQ,bE,hh,c3,e1,hcl,hl,rN,n9];rw [iO 1 rfl (by simp [refs,bw,aI,bL]) (by simp [refs,bw,aI,bL])];simp (disch:=first|exact aQ|fail) only [sy,simprocAttr,-List.reduceReplicate,syR,Int.le_refl,hF.all,k.hr,k.hq,ren,fN,dU,eU];simp only [Arn.uZ,hh,if_true,rN,n9,Option.getD_some,hl]
theorem Jy{v:Value}{l:List Nat}(hlb:l.length<=1048576)(hF:Fit hp.length L H)(k:bF hp.length r q H A)(hw:L<=r/\L<=q)(s len i:Int)(hr:∀ nw,Rd ⟨put (hp++nw) r q A,L,H,[]⟩ v l) :
  aN env (.func 56) [arP r,.agg #[.int .i64 s,.int .i64 len],.int .i64 i,v] ⟨put hp r q A,L,H,d⟩=some (.bool (A.part s len i l.length),⟨put hp r q (A.store s len i l),L,H,d⟩):=by
 have h1:=k.cJ;have h2:=k.cI;have h3:=k.gV;have h4:=k.dn;have h5:=k.size;have hne:=k.ne;have hlen:=(hr []).E8;have hnews:=fun nw=>(hr nw).news;rw [av 56 _ _ acE];cases hh:A.has s len with
 | false=>
  have hp0:A.part s len i l.length=false:=by simp [Arn.part,hh]
  simp (disch:=first|exact aQ|fail) only [sy,simprocAttr,-List.reduceReplicate,syR,Int.le_refl,hF.all,k.hr,k.hq,Jg,bE,hh];simp [Arn.store,hp0]
 | true=>
  have hh':=Arn.cq.1 hh;by_cases c1:i < 0
  ·have hp0:A.part s len i l.length=false:=by rw [Bool.eq_false_iff,ne_eq,Arn.dM];omega
   simp (disch:=first|exact aQ|fail) only [sy,simprocAttr,-List.reduceReplicate,syR,Int.le_refl,hF.all,k.hr,k.hq,Jg,bE,hh,c1];simp [Arn.store,hp0]
  by_cases c2:i > len - l.length
  ·have hp0:A.part s len i l.length=false:=by rw [Bool.eq_false_iff,ne_eq,Arn.dM];omega
   simp (disch:=first|exact aQ|fail) only [sy,simprocAttr,-List.reduceReplicate,syR,Int.le_refl,hF.all,k.hr,k.hq,Jg,bE,hh,c1,hlen,c2];simp [Arn.store,hp0]
  have hp1:A.part s len i l.length=true:=by rw [Arn.dM];omega
  have c3:0<=s+i/\s+i<=(A.bs.length:Int):=by omega
  have hql:(q < L)=False:=eq_false (by omega);have hmin:min l.length (A.bs.length - (s+i).toNat)=l.length:=by omega
  by_cases h0:l=[]
  ·subst h0;simp only [List.length_nil,Int.natCast_zero,Int.sub_zero] at c2 hp1 hlen hnews;simp (disch:=first|exact aQ|fail) only [sy,simprocAttr,-List.reduceReplicate,syR,Int.le_refl,hF.all,k.hr,k.hq,Jg,bE,hh,c1,hlen,c2,c3,hnews,hmin];simp [Arn.store,hp1,Arn.N8]
  ·have h0':¬ l.length=0:=fun e=>h0 (List.eq_nil_of_length_eq_zero e);have hb:(s+i).toNat+l.length<=A.bs.length:=by omega
   have hpl:=kE hb;simp (disch:=first|exact aQ|fail) only [sy,simprocAttr,-List.reduceReplicate,syR,Int.le_refl,hF.all,k.hr,k.hq,Jg,bE,hh,c1,hlen,c2,c3,hnews,hmin,h0',hql,hb,c9,qB];simp [Arn.store,hp1,Arn.setAt]
theorem tO(hF:Fit hp.length L H)(k:bF hp.length r q H A)(hw:L<=r/\L<=q)(n:Int) :
  aN env (.func 55) [arP r,.int .i64 n] ⟨put hp r q A,L,H,d⟩=some (.tuple #[.agg #[.int .i64 (A.taken n).2.1,.int .i64 (A.taken n).2.2.1],.int .i64 (A.taken n).2.2.2],⟨put hp r q (A.taken n).1,L,H,d⟩):=by
 have h1:=k.cJ;have h2:=k.cI;have h3:=k.gV;have h4:=k.dn;have h5:=k.size;have hne:=k.ne;rw [av 55 _ _ acD];by_cases c1:n < 0
 ·simp (disch:=first|exact aQ|fail) only [sy,simprocAttr,-List.reduceReplicate,syR,Int.le_refl,hF.all,k.hr,k.hq,NL,c1];simp only [Arn.taken,c1,if_true]
 by_cases c2:n > A.bs.length - A.live
 ·simp (disch:=first|exact aQ|fail) only [sy,simprocAttr,-List.reduceReplicate,syR,Int.le_refl,hF.all,k.hr,k.hq,NL,c1,c2];simp only [Arn.taken,c1,c2,if_true,if_false]
 have c3:0<=A.live/\A.live<=A.live+n/\A.live+n<=(A.bs.length:Int):=by omega
 have hql:(q < L)=False:=eq_false (by omega);have hrl:(r < L)=False:=eq_false (by omega);have e1:(A.live+n).toNat - A.live.toNat=n.toNat:=by omega
 have hb:A.live.toNat+n.toNat<=A.bs.length:=by omega
 have hpl:(lR A.bs A.live.toNat (List.replicate n.toNat 0)).length=A.bs.length:=kE (by simpa using hb);have hb2:A.live.toNat+(List.replicate n.toNat 0).length<=A.bs.length:=by simpa using hb
 by_cases h0:n=0
 ·subst h0;simp only [Int.add_zero,Nat.sub_self] at c3 e1;have e0:A.live.toNat - A.live.toNat=0:=by omega
  simp (disch:=first|exact aQ|fail) only [sy,simprocAttr,-List.reduceReplicate,syR,Int.le_refl,hF.all,k.hr,k.hq,NL,c1,c2,c3,e0,hrl,Int.add_zero];simp [Arn.taken,Arn.take,c2,Gt]
 ·have h0':¬ n.toNat=0:=by omega
  simp (disch:=first|exact aQ|fail) only [sy,simprocAttr,-List.reduceReplicate,syR,Int.le_refl,hF.all,k.hr,k.hq,NL,c1,c2,c3,e1,h0',hql,hrl,hb,hb2,List.length_replicate,c9,qB,hpl];simp only [Arn.taken,c1,c2,if_false,Arn.take]
theorem SB(hF:Fit hp.length L H)(b:Int)(h0:1<=b)(hb:b<=1048576):aN env (.func 54) [.int .i64 b] ⟨hp,L,H,d⟩=some (.tuple #[arP hp.length,.int .i64 0],⟨put (hp++[default,default]) hp.length (hp.length+1) (Arn.new b.toNat),L,H,d⟩):=by
 rw [av 54 _ _ acC];have c1:¬ b < 1:=by omega
 have c2:¬ b > 1048576:=by omega
 have c3:0<=b:=by omega
 have c4:b.toNat<=1048576:=by omega
 have c5:¬ b=0:=by omega
 simp (disch:=first|exact dis|fail) only [sy,simprocAttr,-List.reduceReplicate,hF.all,XR,c1,c2,c3,c4,c5,hb,Nat.one_mul,Int.le_refl,Bi];unfold gcY;rw [Sr (by simp [refs,bw,aI])];rw [<- Vh];simp [gcX,ren,fN,dU,arB,byB,Arn.new,aO,List.idxOf,List.findIdx_cons]
end
end ArA
namespace AM
open Go Go.RowKit
def Arn.laid(N:Nat)(l:List Nat):Arn:=⟨l++List.replicate (N - l.length) 0,l.length,l.length⟩
theorem rX{N:Nat}{l:List Nat}(h:l.length<=N):(Arn.laid N l).bs.length=N:=by simp [Arn.laid];omega
theorem bF.laid{n r q N:Nat}{H:List Nat}{l:List Nat}(hr:r < n)(hq:q < n)(hne:r≠q)(hl:By l)(hs:l.length<=N)(hN:N<=1048576)(h1:H.contains r=false)(h2:H.contains q=false):bF n r q H (Arn.laid N l) where
 cJ:=hr
 cI:=hq
 ne:=hne
 by_:=hl.append fun x hx=>by rw [List.mem_replicate] at hx;omega
 gV:=by simp [Arn.laid]
 dn:=by rw [rX hs];simp [Arn.laid];omega
 Bg:=by simp [Arn.laid]
 uY:=by rw [rX hs];simp [Arn.laid];omega
 size:=by rw [rX hs];exact hN
 hr:=h1
 hq:=h2
theorem bF.new{n r q N:Nat}{H:List Nat}(hr:r < n)(hq:q < n)(hne:r≠q)(hN:N<=1048576)(h1:H.contains r=false)(h2:H.contains q=false):bF n r q H (Arn.new N):=by
 have:Arn.new N=Arn.laid N []:=by simp [Arn.new,Arn.laid]
 rw [this];exact bF.laid hr hq hne By.nil (by simp) hN h1 h2
theorem Rd.put{hp nw:List Blk}{L L' r q:Nat}{H d d':List Nat}{v:Value}{l:List Nat}{A:Arn}(k:Rd ⟨hp,L,H,d⟩ v l)(hr:hp.length<=r)(hq:hp.length<=q):Rd ⟨put (hp++nw) r q A,L',H,d'⟩ v l:=
 k.more fun b x hx hh=>by have hb:=(List.getElem?_eq_some_iff.1 hx).1;simp only at hb hx hh;exact ⟨by simp only;rw [Ls (by omega) (by omega),jX hb];exact hx,hh⟩
theorem Oe{v:Nat}(h:v < 4294967296):le4 (v%256) (v / 256%256) (v / 65536%256) (v / 16777216%256)=v:=by unfold le4;omega
end AM
namespace ArA
open Go Go.RowKit AM aE
end ArA
namespace AM
open Go Go.RowKit
theorem SC(N:Nat):Arn.new N=Arn.laid N []:=by simp [Arn.new,Arn.laid]
theorem qF{N:Nat}{l:List Nat}{m:Nat}(h:l.length+m<=N):(Arn.laid N l).taken m=(Arn.laid N (l++List.replicate m 0),(l.length:Int),(m:Int),0):=by
 have hb:=rX (N:=N) (l:=l) (by omega);simp only [Arn.taken,hb];rw [if_neg (by omega),if_neg (by simp only [Arn.laid];omega)];have e:(Arn.laid N l).take m=Arn.laid N (l++List.replicate m 0):=by
  simp only [Arn.take,Arn.laid,lR,Int.toNat_natCast,List.length_replicate,List.length_append,Arn.mk.injEq];refine ⟨?_,by omega,by omega⟩;rw [List.take_left',List.drop_append,List.drop_eq_nil_of_le (by omega),List.nil_append,List.drop_replicate]
  ·congr 2;omega
  ·rfl
 rw [e];rfl
end AM
namespace ArA
open Go Go.RowKit AM aE
def lT(m k:Int):Int:=if 0<=m/\m<=65536/\1<=k/\k<=65536 then (m.tdiv k)*1024 else 0
def bQ(s m t z:Int):Bool:=decide (m=0\/z=0\/s+m<=t\/t+z<=s)
def Dh(A:Arn)(s m t z k:Int):Bool:=A.has s m&&A.has t z&&decide (1<=m/\m<=65536)&&decide (1<=k/\k<=65536)&&bQ s m t z&&decide (lT m k<=z)
theorem SD(m k:Int):0<=lT m k/\lT m k<=67108864:=by
 unfold lT;split
 ·rename_i h;have h1:m.tdiv k=m / k:=Int.tdiv_eq_ediv_of_nonneg h.1;have h2:0<=m / k:=Int.ediv_nonneg h.1 (by omega);have h3:m / k<=m:=Int.ediv_le_self _ h.1;rw [h1];omega
 ·omega
section
variable{hp:List Blk}{L:Nat}{H d:List Nat}{r q:Nat}{A:Arn}
theorem cw(hF:Fit hp.length L H)(n lo hi:Int):aN env (.func 268) [.int .i64 n,.int .i64 lo,.int .i64 hi] ⟨hp,L,H,d⟩=some (.bool (decide (lo<=n/\n<=hi)),⟨hp,L,H,d⟩):=by
 rw [av 268 _ _ aaS];by_cases h1:n>=lo
 ·have e:decide (lo<=n/\n<=hi)=decide (n<=hi):=by rw [decide_eq_decide];omega
  rw [e];simp (disch:=first|exact dis|fail) only [sy,simprocAttr,-List.reduceReplicate,hF.all,K8,h1]
 ·have e:decide (lo<=n/\n<=hi)=false:=by rw [decide_eq_false_iff_not];omega
  rw [e];simp (disch:=first|exact dis|fail) only [sy,simprocAttr,-List.reduceReplicate,hF.all,K8,h1]
theorem Of(hF:Fit hp.length L H)(m k:Int):aN env (.func 285) [.int .i64 m,.int .i64 k] ⟨hp,L,H,d⟩=some (.int .i64 (lT m k),⟨hp,L,H,d⟩):=by
 rw [av 285 _ _ aa4];have hb:=SD m k;by_cases h1:0<=m/\m<=65536
 ·have d1:decide (0<=m/\m<=65536)=true:=by simpa using h1
  by_cases h2:1<=k/\k<=65536
  ·have d2:decide (1<=k/\k<=65536)=true:=by simpa using h2
   have e:lT m k=m.tdiv k*1024:=by unfold lT;rw [if_pos (by omega)]
   rw [e] at hb ⊢;have hk0:¬ k=0:=by omega
   simp (disch:=first|exact dis|fail) only [sy,simprocAttr,-List.reduceReplicate,hF.all,FU,cw,d1,d2,hk0]
  ·have d2:decide (1<=k/\k<=65536)=false:=by simpa using h2
   have e:lT m k=0:=by unfold lT;rw [if_neg (by omega)]
   rw [e];simp (disch:=first|exact dis|fail) only [sy,simprocAttr,-List.reduceReplicate,hF.all,FU,cw,d1,d2]
 ·have d1:decide (0<=m/\m<=65536)=false:=by simpa using h1
  have e:lT m k=0:=by unfold lT;rw [if_neg (by omega)]
  rw [e];simp (disch:=first|exact dis|fail) only [sy,simprocAttr,-List.reduceReplicate,hF.all,FU,cw,d1]
theorem Jz(hF:Fit hp.length L H){s m t z:Int}(h1:0<=s/\s<=1048576/\0<=m/\m<=1048576)(h2:0<=t/\t<=1048576/\0<=z/\z<=1048576) :
  aN env (.func 284) [.agg #[.int .i64 s,.int .i64 m],.agg #[.int .i64 t,.int .i64 z]] ⟨hp,L,H,d⟩=some (.bool (bQ s m t z),⟨hp,L,H,d⟩):=by
 rw [av 284 _ _ aa3];by_cases c1:m=0
 ·have e:bQ s m t z=true:=by unfold bQ;simp [c1]
  have c1':(m==0)=true:=by simpa using c1
  rw [e];simp (disch:=first|exact dis|fail) only [sy,simprocAttr,-List.reduceReplicate,hF.all,AT,c1']
 have c1':(m==0)=false:=by simpa using c1
 by_cases c2:z=0
 ·have e:bQ s m t z=true:=by unfold bQ;simp [c2]
  have c2':(z==0)=true:=by simpa using c2
  rw [e];simp (disch:=first|exact dis|fail) only [sy,simprocAttr,-List.reduceReplicate,hF.all,AT,c1',c2']
 have c2':(z==0)=false:=by simpa using c2
 by_cases c3:s+m<=t
 ·have e:bQ s m t z=true:=by unfold bQ;simp [c3]
  rw [e];simp (disch:=first|exact dis|fail) only [sy,simprocAttr,-List.reduceReplicate,hF.all,AT,c1',c2',c3]
 ·have e:bQ s m t z=decide (t+z<=s):=by unfold bQ;rw [decide_eq_decide];omega
  rw [e];simp (disch:=first|exact dis|fail) only [sy,simprocAttr,-List.reduceReplicate,hF.all,AT,c1',c2',c3]
theorem u9(hF:Fit hp.length L H)(k:bF hp.length r q H A)(s m t z kk:Int) :
  aN env (.func 267) [arP r,.agg #[.int .i64 s,.int .i64 m],.agg #[.int .i64 t,.int .i64 z],.int .i64 kk] ⟨put hp r q A,L,H,d⟩=some (.bool (Dh A s m t z kk),⟨put hp r q A,L,H,d⟩):=by
 have h1:=k.cJ;have h2:=k.cI;have h3:=k.gV;have h4:=k.dn;have h5:=k.size;rw [av 267 _ _ aaR];unfold Dh;cases e1:A.has s m with
 | false=>simp (disch:=first|exact aQ|fail) only [sy,simprocAttr,-List.reduceReplicate,syR,Int.le_refl,hF.all,k.hr,k.hq,uN,bE,e1]
 | true=>
  cases e2:A.has t z with
  | false=>simp (disch:=first|exact aQ|fail) only [sy,simprocAttr,-List.reduceReplicate,syR,Int.le_refl,hF.all,k.hr,k.hq,uN,bE,e1,e2]
  | true=>
   have b1:=Arn.cq.1 e1;have b2:=Arn.cq.1 e2;by_cases c1:1<=m/\m<=65536
   ·have d1:decide (1<=m/\m<=65536)=true:=by simpa using c1
    by_cases c2:1<=kk/\kk<=65536
    ·have d2:decide (1<=kk/\kk<=65536)=true:=by simpa using c2
     have wa:=fun (hp:List Blk) (L:Nat) (H d:List Nat) (hF:Fit hp.length L H)=>Jz (d:=d) hF (s:=s) (m:=m) (t:=t) (z:=z) (by omega) (by omega);cases e3:bQ s m t z with
     | false=>simp (disch:=first|exact aQ|fail) only [sy,simprocAttr,-List.reduceReplicate,syR,Int.le_refl,hF.all,k.hr,k.hq,uN,bE,e1,e2,cw,d1,d2,wa,e3]
     | true=>
      have e4:decide (z>=lT m kk)=decide (lT m kk<=z):=rfl;simp (disch:=first|exact aQ|fail) only [sy,simprocAttr,-List.reduceReplicate,syR,Int.le_refl,hF.all,k.hr,k.hq,uN,bE,e1,e2,cw,d1,d2,wa,e3,Of,e4]
    ·have d2:decide (1<=kk/\kk<=65536)=false:=by simpa using c2
     simp (disch:=first|exact aQ|fail) only [sy,simprocAttr,-List.reduceReplicate,syR,Int.le_refl,hF.all,k.hr,k.hq,uN,bE,e1,e2,cw,d1,d2]
   ·have d1:decide (1<=m/\m<=65536)=false:=by simpa using c1
    simp (disch:=first|exact aQ|fail) only [sy,simprocAttr,-List.reduceReplicate,syR,Int.le_refl,hF.all,k.hr,k.hq,uN,bE,e1,e2,cw,d1]
end
end ArA
namespace ArA
open Go Go.RowKit AM aE
structure eL(A:Arn)(s:Nat)(x:List Nat):Prop where
 live:(s:Int)+x.length<=A.live
 get:∀ (i:Nat) (h:i < x.length),A.bs[s+i]?=some x[i]
theorem eL.has{A:Arn}{s:Nat}{x:List Nat}(h:eL A s x):A.has s x.length=true:=by have:=h.live;rw [Arn.cq];omega
theorem eL.part{A:Arn}{s:Nat}{x:List Nat}(h:eL A s x){i:Nat}(hi:i < x.length):A.part s x.length i 1=true:=by have:=h.live;rw [Arn.dM];omega
theorem eL.byte{A:Arn}{s:Nat}{x:List Nat}(h:eL A s x){i:Nat}(hi:i < x.length):A.kF s x.length i=x[i]:=by unfold Arn.kF Arn.slot;rw [if_pos (h.part hi),show ((s:Int)+(i:Int)).toNat=s+i by omega,List.getD_eq_getElem?_getD,h.get i hi];rfl
def base(A:Arn)(t z:Int)(k c p:Nat):Nat:=if 0 < p / k then A.cY t z (((p / k:Nat):Int)*256 - 256+c) else 0
def tail(x:List Nat)(k c p:Nat):Nat:=((x.drop (p / k*k)).take (p - p / k*k)).count c
section
variable{hp:List Blk}{L:Nat}{H d:List Nat}{r q:Nat}{A:Arn}
theorem tP(hF:Fit hp.length L H)(k:bF hp.length r q H A){s b c:Nat}{x:List Nat}(hx:eL A s x)(hb:hp[b]?=some (.cells 0 true [.int .i64 s,.int .i64 x.length]))(hrb:r≠b)(hqb:q≠b)(hid:H.contains b=false)(hm:x.length<=65536) :
  ∀ (j i:Nat),i+j<=x.length->∀ n sn:Nat,n<=4294967296+i->sn<=i->∃ fr,
  aG env vV [12,13,18,5,0,7,4] hp.length [(12,.int .i64 n),(13,.int .i64 sn),(18,.int .i64 i),(5,.int .i64 (i+j:Nat)),(0,arP r),(7,.pointer (some ⟨b,0,some 0⟩)),(4,.int .u8 c)] ⟨put hp r q A,L,H,[]⟩ =
   some (.exit 0,fr,⟨put hp r q A,L,H,[]⟩)/\fr.get 12=some (.int .i64 (n+((x.drop i).take j).count c:Nat))/\fr.get 13=some (.int .i64 (sn+j:Nat))
 | 0,i,e,n,sn,h1,h2=>by
  rw [ak vV.eq_1];simp (disch:=first|exact aQ|fail) only [sy,simprocAttr,-List.reduceReplicate,syR,Int.le_refl,hF.all,k.hr,k.hq,Nat.add_zero];exact ⟨_,rfl,by simp [Fr.get],rfl⟩
 | j+1,i,e,n,sn,h1,h2=>by
  have hi:i < x.length:=by omega
  have hd:x.drop i=x[i]::x.drop (i+1):=List.drop_eq_getElem_cons hi;have c1:(i:Int) < (i+(j+1):Nat):=by omega
  have hbv:=hx.byte hi;have hpt:=hx.part hi;rw [hd,List.take_succ_cons];rw [ak vV.eq_1];by_cases hc:x[i]=c
  ·obtain ⟨fr,e1,e2,e3⟩:=tP hF k hx hb hrb hqb hid hm (c:=c) j (i+1) (by omega) (n+1) (sn+1) (by omega) (by omega);rw [show i+1+j=i+(j+1) by omega] at e1;simp only [Int.natCast_add,Int.natCast_one] at e1 e2 e3 c1 ⊢;have hc':((x[i]:Int)==c)=true:=by rw [hc];simp
   have hct:(x[i]::(x.drop (i+1)).take j).count c=((x.drop (i+1)).take j).count c+1:=by rw [hc,List.count_cons_self]
   rw [hct];simp (disch:=first|exact aQ|fail) only [sy,simprocAttr,-List.reduceReplicate,syR,Int.le_refl,hF.all,k.hr,k.hq,c1,hb,hid,eP,hbv,hpt,hc',e1];refine ⟨fr,rfl,?_,?_⟩
   ·rw [e2];congr 2;omega
   ·rw [e3];congr 2;omega
  ·obtain ⟨fr,e1,e2,e3⟩:=tP hF k hx hb hrb hqb hid hm (c:=c) j (i+1) (by omega) n (sn+1) (by omega) (by omega);rw [show i+1+j=i+(j+1) by omega] at e1;simp only [Int.natCast_add,Int.natCast_one] at e1 e2 e3 c1 ⊢;have hc':((x[i]:Int)==c)=false:=by rw [beq_eq_false_iff_ne];omega
   have hct:(x[i]::(x.drop (i+1)).take j).count c=((x.drop (i+1)).take j).count c:=List.count_cons_of_ne hc;rw [hct];simp (disch:=first|exact aQ|fail) only [sy,simprocAttr,-List.reduceReplicate,syR,Int.le_refl,hF.all,k.hr,k.hq,c1,hb,hid,eP,hbv,hpt,hc',e1];refine ⟨fr,rfl,?_,?_⟩
   ·rw [e2]
   ·rw [e3];congr 2;omega
theorem Og(hF:Fit hp.length L H)(k:bF hp.length r q H A){s c p kk:Nat}{t z:Int}{x:List Nat}(hx:eL A s x)(hm:x.length<=65536)(hv:Dh A s x.length t z kk=true)(hk:1<=kk)(hp2:p<=x.length)(hc:c < 256) :
  aN env (.func 254) [arP r,.agg #[.int .i64 s,.int .i64 x.length],.agg #[.int .i64 t,.int .i64 z],.int .i64 kk,.int .u8 c,.int .i64 p] ⟨put hp r q A,L,H,d⟩ =
   some (.tuple #[.int .i64 (base A t z kk c p+tail x kk c p:Nat),.int .i64 (p%kk:Nat),.bool true],⟨put hp r q A,L,H,d⟩):=by
 have h1:=k.cJ;have h2:=k.cI;have d1:decide (0<=(p:Int)/\(p:Int)<=x.length)=true:=by simp;omega
 have hk0:¬ (kk:Int)=0:=by omega
 have hq:Int.tdiv (p:Int) (kk:Int)=((p / kk:Nat):Int):=by rw [Int.tdiv_eq_ediv_of_nonneg (by omega)];rfl
 have hdm:=Nat.div_add_mod p kk;have hdl:p / kk*kk<=p:=Nat.div_mul_le_self p kk;have hdp:p / kk<=p:=Nat.div_le_self p kk;have hmm:((p / kk:Nat):Int)*(kk:Int)=((p / kk*kk:Nat):Int):=by simp
 have hmod:p%kk=p - p / kk*kk:=by rw [Nat.mul_comm] at hdm;omega
 have kx:=fun nw=>(k.mono (m:=(hp++nw).length) (by simp):bF (hp++nw).length r q H A);have hbase:base A t z kk c p<=4294967295:=by
  unfold base Arn.cY;split
  ·split
   ·have sl:∀ a,A.slot t a < 256:=fun a=>by
     unfold Arn.slot;rw [List.getD_eq_getElem?_getD];cases hg:A.bs[(t+a).toNat]? with
     | none=>simp
     | some y=>exact k.by_ y (List.mem_of_getElem? hg)
    unfold le4;have:=sl (4*(((p / kk:Nat):Int)*256 - 256+c));have:=sl (4*(((p / kk:Nat):Int)*256 - 256+c)+1);have:=sl (4*(((p / kk:Nat):Int)*256 - 256+c)+2);have:=sl (4*(((p / kk:Nat):Int)*256 - 256+c)+3);omega
   ·omega
  ·omega
 obtain ⟨fr,e1,e2,e3⟩:=tP (hp:=hp++[.cells 0 true [.int .i64 s,.int .i64 x.length],.cells 0 true [.int .i64 t,.int .i64 z]]) (b:=hp.length) (c:=c) (hF.mono (by simp)) (kx _) hx (by rw [dK]) (by omega) (by omega) hF.jv hm (p - p / kk*kk) (p / kk*kk) (by omega) (base A t z kk c p) 0 (by omega) (by omega);rw [show p / kk*kk+(p - p / kk*kk)=p by omega] at e1;simp only [List.length_append,List.length_cons,List.length_nil,Nat.zero_add,Nat.reduceAdd,Int.natCast_zero] at e1 e3;rw [<- hmod] at e3;have e2':fr.get 12=some (.int .i64 (base A t z kk c p+tail x kk c p:Nat)):=e2;have hpos:0 < p / kk->base A t z kk c p=A.cY t z (((p / kk:Nat):Int)*256 - 256+c):=fun h=>if_pos h;have hneg:¬ 0 < p / kk->base A t z kk c p=0:=fun h=>if_neg h;clear e2 hdm hmod;generalize base A t z kk c p=bs at *;generalize tail x kk c p=tl at *;generalize p / kk*kk=st at *;generalize p / kk=mk at *;rw [av 254 _ _ aaN];by_cases h0:0 < mk
 ·have h0':(mk:Int) > 0:=by omega
  have hb0:=hpos h0;have hidx:((mk:Int) - 1)*256+c=(mk:Int)*256 - 256+c:=by omega
  rw [hb0] at e1 e2' hbase ⊢;simp (disch:=first|exact aQ|fail) only [sy,simprocAttr,-List.reduceReplicate,syR,Int.le_refl,hF.all,k.hr,k.hq,K7,u9,hv,cw,d1,hk0,hq,hmm,h0',hidx,Bp,e1,e2',e3]
 ·have h0':¬ (mk:Int) > 0:=by omega
  have hb0:=hneg h0;rw [hb0] at e1 e2' ⊢;simp only [Int.natCast_zero] at e1;simp (disch:=first|exact aQ|fail) only [sy,simprocAttr,-List.reduceReplicate,syR,Int.le_refl,hF.all,k.hr,k.hq,K7,u9,hv,cw,d1,hk0,hq,hmm,h0',e1,e2',e3]
end
end ArA
namespace ArA
open Go Go.RowKit AM aE
end ArA
namespace ArA
open Go Go.RowKit AM aE
def rl(l:List Nat)(sz:Nat):Arn:=Arn.laid (l.length+sz+1) (l++List.replicate (sz+1) 0)
end ArA
namespace ArA
open Go Go.RowKit AM aE
def acL(x:List Nat)(k w:Nat):Nat:=(x.take ((w / 256+1)*k)).count (w%256)
structure acM(A B:Arn)(t:Nat)(x:List Nat)(k n:Nat):Prop where
 live:B.live=A.live
 cR:B.cR=A.cR
 len:B.bs.length=A.bs.length
 by_:By B.bs
 out:∀ p,p < t\/t+4*n<=p->B.bs[p]?=A.bs[p]?
 word:∀ w,w < n->∀ j,j < 4->B.bs[t+4*w+j]?=(ji (acL x k w))[j]?
end ArA
namespace ArA
open Go Go.RowKit AM aE
theorem eL.load{A:Arn}{s:Nat}{x:List Nat}(h:eL A s x):A.uZ s x.length=some x:=by
 unfold Arn.uZ;rw [if_pos h.has];congr 1;simp only [Int.toNat_natCast];apply List.ext_getElem?;intro i;by_cases hi:i < x.length
 ·rw [List.getElem?_take_of_lt hi,List.getElem?_drop,h.get i hi,List.getElem?_eq_getElem hi]
 ·rw [List.getElem?_eq_none (by simp;omega),List.getElem?_eq_none (by omega)]
end ArA
namespace AM
open Go Go.RowKit ArA
def atR(ix r:Nat):Nat:=if r<=ix then r else r - 1
def nxR(x:List Nat)(ix r:Nat):Nat:=1+(less (x.getD (atR ix r) 0) x+same (x.getD (atR ix r) 0) (x.take (atR ix r)))
def fM(x:List Nat)(ix:Nat):Nat->Nat
 | 0=>0
 | k+1=>nxR x ix (fM x ix k)
theorem Vs(c:Nat)(l:List Nat):same c l<=l.length:=by rw [ey];exact List.countP_le_length
theorem GA(c:Nat)(a b:List Nat):same c (a++b)=same c a+same c b:=by rw [ey,ey,ey,List.countP_append]
theorem Bs(c:Nat)(l:List Nat):less c l+same c l<=l.length:=by
 induction l with
 | nil=>simp [less,same]
 | cons b l ih=>
  simp only [less,same,List.length_cons];by_cases h:b < c
  ·rw [if_pos h,if_neg (by omega)];omega
  ·rw [if_neg h];split<;>omega
theorem abp{x:List Nat}{a:Nat}(h:a < x.length):1+(less x[a] x+same x[a] (x.take a))<=x.length:=by
 have e:x=x.take a++x[a]::x.drop (a+1):=by rw [<- List.drop_eq_getElem_cons h,List.take_append_drop]
 generalize x[a]=c at *;have h1:less c x+same c x<=x.length:=Bs c x;have h2:same c x=same c (x.take a)+same c (c::x.drop (a+1)):=by
  conv=>lhs;rw [e]
  rw [GA]
 have h3:same c (c::x.drop (a+1))>=1:=by simp [same]
 omega
theorem Di{ix r m:Nat}(h1:r<=m)(h2:ix<=m)(h3:r≠ix):atR ix r < m:=by unfold atR;split<;>omega
theorem SE{x:List Nat}{ix r:Nat}(h:atR ix r < x.length):nxR x ix r=1+(less x[atR ix r] x+same x[atR ix r] (x.take (atR ix r))):=by
 have:x.getD (atR ix r) 0=x[atR ix r]:=by rw [List.getD_eq_getElem?_getD,List.getElem?_eq_getElem h,Option.getD_some]
 unfold nxR;rw [this]
theorem SF{x:List Nat}{ix r:Nat}(h1:r<=x.length)(h2:ix<=x.length)(h3:r≠ix):nxR x ix r<=x.length:=by have:=Di h1 h2 h3;rw [SE this];exact abp this
theorem yU{t o:List Nat}(h:Ord t o):∀ k,k<=t.length->o[fM (bU t o) (o.idxOf 0) k]?=some (t.length - k)
 | 0,_=>by rw [Nat.sub_zero];exact h.first
 | k+1,hk=>by
  have ih:=yU h k (by omega);have hne:t.length - k≠0:=by omega
  have sb:=Oa h ih hne;obtain ⟨h1,h2⟩:=Gy h ih hne;have e:(if fM (bU t o) (o.idxOf 0) k<=o.idxOf 0 then fM (bU t o) (o.idxOf 0) k else fM (bU t o) (o.idxOf 0) k - 1)=atR (o.idxOf 0) (fM (bU t o) (o.idxOf 0) k):=rfl;rw [e] at sb h2;have hg:(bU t o).getD (atR (o.idxOf 0) (fM (bU t o) (o.idxOf 0) k)) 0=t.getD (t.length - k - 1) 0:=by rw [List.getD_eq_getElem?_getD,h2,Option.getD_some]
  rw [fM,nxR,hg,sb];congr 1
theorem SG{t o:List Nat}(h:Ord t o){k:Nat}(hk:k < t.length) :
  fM (bU t o) (o.idxOf 0) k≠o.idxOf 0/\(bU t o)[atR (o.idxOf 0) (fM (bU t o) (o.idxOf 0) k)]?=some (t.getD (t.length - k - 1) 0):=
 Gy h (yU h k (by omega)) (by omega)
theorem Vt{t o:List Nat}(h:Ord t o):fM (bU t o) (o.idxOf 0) t.length=o.idxOf 0:=by
 have h1:=yU h t.length (Nat.le_refl _);rw [Nat.sub_self] at h1;obtain ⟨h2,h3⟩:=List.getElem?_eq_some_iff.1 h1;have hx:o.idxOf 0 < o.length:=List.idxOf_lt_length_iff.2 (h.mem.2 (Nat.zero_le _));have hz:o[o.idxOf 0]=0:=List.getElem_idxOf hx;have hpw:=List.pairwise_iff_getElem.1 h.nodup;rcases Nat.lt_trichotomy (fM (bU t o) (o.idxOf 0) t.length) (o.idxOf 0) with h4 | h4 | h4
 ·exact absurd (by rw [h3,hz]) (hpw _ _ h2 hx h4)
 ·exact h4
 ·exact absurd (by rw [h3,hz]) (hpw _ _ hx h2 h4)
end AM
namespace UeA
open Go Go.RowKit AM aE LtA SyP TmM TsA TsB TsC TsE TsI TsJ TtA TtB TuF Bt
theorem Bu(k:Nat):∀ l:List Nat,less (k+1) l=less k l+same k l
 | []=>rfl
 | b::l=>by simp only [less,same,Bu k l];split<;>split<;>split<;>omega
theorem Oh(l:List Nat):less 0 l=0:=by rw [oD,List.countP_eq_zero];simp
def l1(x:List Nat)(i:Nat):List Value:=(List.range 257).map fun j=>.int .i64 ((if j=0 then 0 else same (j - 1) (x.take i):Nat):Int)
def l2(x:List Nat)(k:Nat):List Value:=(List.range 257).map fun j=>.int .i64 ((if j<=k then less j x else same (j - 1) x:Nat):Int)
def l3(x:List Nat)(k:Nat):List Value:=(List.range 257).map fun j=>.int .i64 ((less j x+same j (x.take k):Nat):Int)
theorem tQ{x:List Nat}{i:Nat}(h:i < x.length)(c:Nat):same c (x.take (i+1))=same c (x.take i)+if x[i]=c then 1 else 0:=by rw [List.take_succ_eq_append_getElem h,GA];simp [same]
theorem Vu(x:List Nat):List.replicate 257 (Value.int .i64 0)=l1 x 0:=by
 apply List.ext_getElem
 ·simp [l1]
 ·intro q h1 h2;simp [l1,ey,-List.reduceReplicate]
theorem Yv(x:List Nat)(i:Nat):(l1 x i).length=257:=by simp [l1]
theorem Yw(x:List Nat)(i:Nat):(l2 x i).length=257:=by simp [l2]
theorem SH(x:List Nat)(i:Nat):(l3 x i).length=257:=by simp [l3]
theorem abq{x:List Nat}{i j:Nat}(h:j < 257):(l1 x i)[j]?=some (.int .i64 ((if j=0 then 0 else same (j - 1) (x.take i):Nat):Int)):=by simp [l1,h]
theorem W6{x:List Nat}{i j:Nat}(h:j < 257):(l2 x i)[j]?=some (.int .i64 ((if j<=i then less j x else same (j - 1) x:Nat):Int)):=by simp [l2,h]
theorem W7{x:List Nat}{i j:Nat}(h:j < 257):(l3 x i)[j]?=some (.int .i64 ((less j x+same j (x.take i):Nat):Int)):=by simp [l3,h]
theorem Yx{x:List Nat}{i:Nat}(h:i < x.length)(h8:x[i] < 256):(l1 x i).set (x[i]+1) (.int .i64 ((same x[i] (x.take i)+1:Nat):Int))=l1 x (i+1):=by
 apply List.ext_getElem
 ·simp [l1]
 ·intro q h1 h2;rw [List.getElem_set];simp only [l1,List.getElem_map,List.getElem_range,tQ h];by_cases e:x[i]+1=q
  ·subst e;rw [if_pos rfl,if_neg (by omega),if_pos (by omega)];simp
  ·rw [if_neg e];by_cases e2:q=0
   ·rw [if_pos e2,if_pos e2]
   ·rw [if_neg e2,if_neg e2,if_neg (by omega)];simp
theorem Yy(x:List Nat):l1 x x.length=l2 x 0:=by
 apply List.ext_getElem
 ·simp [l1,l2]
 ·intro q h1 h2;simp only [l1,l2,List.getElem_map,List.getElem_range,List.take_length];by_cases e:q=0
  ·subst e;simp [Oh]
  ·rw [if_neg e,if_neg (by omega)]
theorem Yz{x:List Nat}{k:Nat}(h:k < 256):(l2 x k).set (k+1) (.int .i64 ((same k x+less k x:Nat):Int))=l2 x (k+1):=by
 apply List.ext_getElem
 ·simp [l2]
 ·intro q h1 h2;rw [List.getElem_set];simp only [l2,List.getElem_map,List.getElem_range];by_cases e:k+1=q
  ·subst e;rw [if_pos rfl,if_pos (by omega),Bu,Nat.add_comm]
  ·rw [if_neg e];by_cases e2:q<=k
   ·rw [if_pos e2,if_pos (by omega)]
   ·rw [if_neg e2,if_neg (by omega)]
theorem YA(x:List Nat):l2 x 256=l3 x 0:=by
 apply List.ext_getElem
 ·simp [l2,l3]
 ·intro q h1 h2;have hq:q < 257:=by simpa [l2] using h1
  simp only [l2,l3,List.getElem_map,List.getElem_range];rw [if_pos (by omega)];simp [ey]
theorem YB{x:List Nat}{i:Nat}(h:i < x.length)(h8:x[i] < 256):(l3 x i).set x[i] (.int .i64 ((less x[i] x+same x[i] (x.take i)+1:Nat):Int))=l3 x (i+1):=by
 apply List.ext_getElem
 ·simp [l3]
 ·intro q h1 h2;rw [List.getElem_set];simp only [l3,List.getElem_map,List.getElem_range,tQ h];by_cases e:x[i]=q
  ·subst e;rw [if_pos rfl,if_pos rfl];congr 1
  ·rw [if_neg e,if_neg e];simp
section
variable{hp:List Blk}{L:Nat}{H d:List Nat}
theorem yV{a:Option Addr}{e m ix row:Nat}(h1:ix<=m)(h2:row<=m)(hm:m<=100000)(hF:Fit hp.length L H) :
  aN env (.func 128) [.slice a m e,.int .i64 ix,.int .i64 row] ⟨hp,L,H,d⟩=some (.tuple #[.int .i64 ((if row=ix then 0 else atR ix row:Nat):Int),.bool (decide (row≠ix))],⟨hp,L,H,d⟩):=by
 rw [av 128 _ _ aak];have g1:¬ (ix:Int) < 0:=by omega
 have g2:¬ (ix:Int) > (m:Int):=by omega
 have g3:¬ (row:Int) < 0:=by omega
 have g4:¬ (row:Int) > (m:Int):=by omega
 by_cases h:row=ix
 ·subst h;rw [if_pos rfl,decide_eq_false (by simp)];simp (disch:=first|exact dis|fail) only [sy,simprocAttr,-List.reduceReplicate,hF.all,AQ,g1,g2,g3,g4,Int.natCast_zero]
 ·have g5:((row:Int)==(ix:Int))=false:=by simp;omega
  rw [if_neg h,decide_eq_true h];unfold atR;by_cases h3:row<=ix
  ·have g6:¬ (row:Int) > (ix:Int):=by omega
   rw [if_pos h3];simp (disch:=first|exact dis|fail) only [sy,simprocAttr,-List.reduceReplicate,hF.all,AQ,g1,g2,g3,g4,g5,g6]
  ·have g6:(row:Int) > (ix:Int):=by omega
   have e1:(row:Int) - 1=((row - 1:Nat):Int):=by omega
   rw [if_neg h3];simp (disch:=first|exact dis|fail) only [sy,simprocAttr,-List.reduceReplicate,hF.all,AQ,g1,g2,g3,g4,g5,g6,e1]
end
end UeA
namespace UeB
open Go Go.RowKit AM aE LtA SyP TmM TsA TsB TsC TsE TsI TsJ TtA TtB TuF UeA Bt
def l4(x:List Nat)(ix r:Nat):List Value:=(List.range (x.length+1)).map fun q=>.int .i64 ((if q < r/\q≠ix then nxR x ix q else 0:Nat):Int)
theorem SI(x:List Nat)(ix i:Nat):(l4 x ix i).length=x.length+1:=by simp [l4]
theorem Vv(x:List Nat)(ix:Nat):(List.replicate (x.length+1) [Value.int .i64 0]).flatten=l4 x ix 0:=by
 rw [De];apply List.ext_getElem
 ·simp [l4,is]
 ·intro q h1 h2;simp [l4,is]
theorem abr{x:List Nat}{ix i j:Nat}(h:j < x.length+1):(l4 x ix i)[j]?=some (.int .i64 ((if j < i/\j≠ix then nxR x ix j else 0:Nat):Int)):=by simp [l4,h]
theorem Vw(x:List Nat)(ix:Nat):l4 x ix ix=l4 x ix (ix+1):=by
 apply List.ext_getElem
 ·simp [l4]
 ·intro q h1 h2;simp only [l4,List.getElem_map,List.getElem_range];by_cases e:q < ix
  ·rw [if_pos (by omega),if_pos (by omega)]
  ·rw [if_neg (by omega),if_neg (by omega)]
theorem YC{x:List Nat}{ix r:Nat}(h:r≠ix):(l4 x ix r).set r (.int .i64 ((nxR x ix r:Nat):Int))=l4 x ix (r+1):=by
 apply List.ext_getElem
 ·simp [l4]
 ·intro q h1 h2;rw [List.getElem_set];simp only [l4,List.getElem_map,List.getElem_range];by_cases e:r=q
  ·subst e;rw [if_pos rfl,if_pos (by omega)]
  ·rw [if_neg e];by_cases e2:q < r/\q≠ix
   ·rw [if_pos e2,if_pos (by omega)]
   ·rw [if_neg e2,if_neg (by omega)]
section
variable{hp:List Blk}{L:Nat}{H d:List Nat}
theorem SJ{x:List Nat}{a:Option Addr}{e n:Nat}{ix:Value}(hR:Rd ⟨hp,L,H,[]⟩ (.slice a n e) x)(hn:x.length=n)(hm:n<=100000)(hF:Fit hp.length L H):∀ (j i:Nat),i+j=n->∃ fr,
  aG env vP [16,15,1,0,14,5] (hp.length+1) [(16,.int .i64 i),(15,.int .i64 n),(1,ix),(0,.slice a n e),(14,.slice a n e),(5,.pointer (some ⟨hp.length,0,some 0⟩))] ⟨hp++[.cells 0 true (l1 x i)],L,H,[]⟩
   = some (.exit 0,fr,⟨hp++[.cells 0 true (l2 x 0)],L,H,[]⟩)/\fr.get 0=some (.slice a n e)/\fr.get 1=some ix/\fr.get 5=some (.pointer (some ⟨hp.length,0,some 0⟩))
 | 0,i,hij=>by
  have h1:¬ (i:Int) < (n:Int):=by omega
  obtain rfl:i=n:=by omega
  have he:=Yy x;rw [hn] at he;rw [he,ak vP.eq_1];simp (disch:=first|exact dis|fail) only [sy,simprocAttr,-List.reduceReplicate,hF.all,h1];exact ⟨_,rfl,rfl,rfl,rfl⟩
 | j+1,i,hij=>by
  obtain ⟨fr,ih,ih2⟩:=SJ hR hn hm hF j (i+1) (by omega);refine ⟨fr,?_,ih2⟩;have h1:(i:Int) < (n:Int):=by omega
  have h2:0<=(i:Int)/\(i:Int) < (n:Int):=by omega
  have hi:i < x.length:=by omega
  have hv:∀ r∈refs (.slice a n e),r < hp.length:=hR.refs;obtain ⟨b,of,g,pl,cs,rfl,-,hh,hb,hcx⟩:=hR.at_ hi;have hbl:=(List.getElem?_eq_some_iff.1 hb).1;have h8:x[i] < 256:=hR.by_ _ (List.getElem_mem hi);have bK:=Yx hi h8;have hat:=abq (x:=x) (i:=i) (j:=x[i]+1) (by omega);rw [if_neg (by omega),Nat.add_sub_cancel] at hat;have hsm:same x[i] (x.take i)<=100000:=Nat.le_trans (Vs _ _) (by rw [List.length_take];omega);have hlen:=Yv x i;generalize same x[i] (x.take i)=c at *;generalize x[i]=y at *;generalize l1 x i=P at *;generalize l1 x (i+1)=P2 at *;have h3:0<=(y:Int)+1/\(y:Int)+1 < 257:=by omega
  have s1:y+1+1<=257:=by omega
  simp only [Int.natCast_add,Int.natCast_one] at ih bK;rw [ak vP.eq_1];simp (disch:=first|exact dis|fail) only [sy,simprocAttr,-List.reduceReplicate,hF.all,h1,h2,h3,s1,hb,hh,hcx,hat,bK,hlen,ih]
theorem SK{x:List Nat}{v ix:Value}(hv:∀ r∈refs v,r < hp.length)(hv2:∀ r∈refs ix,r < hp.length)(hm:x.length<=100000)(hF:Fit hp.length L H):∀ (j k:Nat),k+j=256->∃ fr,
  aG env vO [28,0,1,5] (hp.length+1) [(28,.int .i64 k),(0,v),(1,ix),(5,.pointer (some ⟨hp.length,0,some 0⟩))] ⟨hp++[.cells 0 true (l2 x k)],L,H,[]⟩
   = some (.exit 2,fr,⟨hp++[.cells 0 true (l3 x 0)],L,H,[]⟩)/\fr.get 0=some v/\fr.get 1=some ix/\fr.get 5=some (.pointer (some ⟨hp.length,0,some 0⟩))
 | 0,k,hij=>by
  have h1:¬ (k:Int) < 256:=by omega
  obtain rfl:k=256:=by omega
  rw [YA,ak vO.eq_1];simp (disch:=first|exact dis|fail) only [sy,simprocAttr,-List.reduceReplicate,hF.all,h1];exact ⟨_,rfl,rfl,rfl,rfl⟩
 | j+1,k,hij=>by
  obtain ⟨fr,ih,ih2⟩:=SK hv hv2 hm hF j (k+1) (by omega);refine ⟨fr,?_,ih2⟩;have h1:(k:Int) < 256:=by omega
  have bK:=Yz (x:=x) (k:=k) (by omega);have ha1:=W6 (x:=x) (i:=k) (j:=k+1) (by omega);rw [if_neg (by omega),Nat.add_sub_cancel] at ha1;have ha2:=W6 (x:=x) (i:=k) (j:=k) (by omega);rw [if_pos (Nat.le_refl _)] at ha2;have hsm:=Bs k x;have hlen:=Yw x k;generalize same k x=c at *;generalize less k x=c2 at *;generalize l2 x k=P at *;generalize l2 x (k+1)=P2 at *;have h3:0<=(k:Int)/\(k:Int) < 257:=by omega
  have h4:0<=(k:Int)+1/\(k:Int)+1 < 257:=by omega
  have s1:k+1+1<=257:=by omega
  have s2:k+1<=257:=by omega
  have s3:k<=255:=by omega
  simp only [Int.natCast_add,Int.natCast_one] at ih bK;rw [ak vO.eq_1];simp (disch:=first|exact dis|fail) only [sy,simprocAttr,-List.reduceReplicate,hF.all,h1,h3,h4,s1,s2,s3,ha1,ha2,bK,hlen,ih]
theorem GB{x:List Nat}{a:Option Addr}{e n ix m:Nat}(hR:Rd ⟨hp,L,H,[]⟩ (.slice a n e) x)(hn:x.length=n)(hm:n<=100000)(hx:ix<=n)(hm1:m=n+1)(hF:Fit hp.length L H):∀ (j r:Nat),r+j=m->∃ fr,
  aG env rO [47,46,1,0,9,5] (hp.length+2) [(47,.int .i64 r),(46,.int .i64 (m:Int)),(1,.int .i64 ix),(0,.slice a n e),(9,.slice (some ⟨hp.length+1,0,some 0⟩) m 1),(5,.pointer (some ⟨hp.length,0,some 0⟩))] ⟨hp++[.cells 0 true (l3 x (atR ix r)),.cells 0 true (l4 x ix r)],L,H,[]⟩
   = some (.exit 4,fr,⟨hp++[.cells 0 true (l3 x (atR ix m)),.cells 0 true (l4 x ix m)],L,H,[]⟩)/\fr.get 9=some (.slice (some ⟨hp.length+1,0,some 0⟩) m 1)
 | 0,r,hij=>by
  obtain rfl:r=m:=by omega
  have h1:¬ (r:Int) < r:=by omega
  rw [ak rO.eq_1];simp (disch:=first|exact dis|fail) only [sy,simprocAttr,-List.reduceReplicate,hF.all,h1];exact ⟨_,rfl,rfl⟩
 | j+1,r,hij=>by
  obtain ⟨fr,ih,ih2⟩:=GB hR hn hm hx hm1 hF j (r+1) (by omega);refine ⟨fr,?_,ih2⟩;have h1:(r:Int) < (m:Int):=by omega
  have k1:=fun d c1 c2=>yV (hp:=hp++[c1,c2]) (d:=d) (a:=a) (e:=e) hx (show r<=n by omega) hm (hF.mono (by simp));have s0:r+1<=m:=by omega
  have hv:∀ r∈refs (.slice a n e),r < hp.length:=hR.refs;by_cases h:r=ix
  ·subst h;have e1:atR r (r+1)=atR r r:=by unfold atR;rw [if_neg (by omega),if_pos (Nat.le_refl _)];omega
   rw [e1,<- Vw] at ih;rw [if_pos rfl,decide_eq_false (by simp)] at k1;simp only [Int.natCast_zero] at k1;generalize l3 x (atR r r)=P at *;generalize l4 x r r=Q at *;simp only [Int.natCast_add,Int.natCast_one] at ih;rw [ak rO.eq_1];simp (disch:=first|exact dis|fail) only [sy,simprocAttr,-List.reduceReplicate,hF.all,h1,k1,ih]
  ·rw [if_neg h,decide_eq_true h] at k1;have hr:r<=n:=by omega
   have hlt:=Di hr hx h;have e1:atR ix (r+1)=atR ix r+1:=by unfold atR;split<;>split<;>omega
   have hnx:=SE (x:=x) (ix:=ix) (r:=r) (by omega);have hi:atR ix r < x.length:=by omega
   have h8:x[atR ix r] < 256:=hR.by_ _ (List.getElem_mem hi);have bK:=YB hi h8;have hat:=W7 (x:=x) (i:=atR ix r) (j:=x[atR ix r]) (by omega);have YD:=W7 (x:=x) (i:=atR ix r+1) (j:=x[atR ix r]) (by omega);have abt:=YC (x:=x) h;have hlen:=SH x (atR ix r);have Bv:=SI x ix r;have abu:=SH x (atR ix r+1);have hle:=SF (x:=x) (ix:=ix) (r:=r) (by omega) (by omega) h;rw [tQ hi,if_pos rfl] at YD;rw [e1] at ih;obtain ⟨b,of,g,pl,cs,rfl,-,hh,hb,hcx⟩:=hR.at_ hi;have hbl:=(List.getElem?_eq_some_iff.1 hb).1;have e2:less x[atR ix r] x+(same x[atR ix r] (List.take (atR ix r) x)+1)=nxR x ix r:=by omega
   have e3:less x[atR ix r] x+same x[atR ix r] (List.take (atR ix r) x)+1=nxR x ix r:=by omega
   have e4:less x[atR ix r] x+same x[atR ix r] (List.take (atR ix r) x)=nxR x ix r - 1:=by omega
   rw [e2] at YD;rw [e3] at bK;rw [e4] at hat;have e5:((nxR x ix r - 1:Nat):Int)+1=((nxR x ix r:Nat):Int):=by omega
   clear e2 e3 e4;rw [hn] at Bv hle;rw [<- hm1] at Bv;have w1:1<=nxR x ix r:=by omega
   clear hnx;generalize nxR x ix r=w at *;generalize x[atR ix r]=y at *;generalize l3 x (atR ix r)=P at *;generalize l3 x (atR ix r+1)=P2 at *;generalize l4 x ix r=Q at *;generalize l4 x ix (r+1)=Q2 at *;generalize atR ix r=q at *;have h2:0<=(q:Int)/\(q:Int) < (n:Int):=by omega
   have h3:0<=(y:Int)/\(y:Int) < 257:=by omega
   have h4:0<=(r:Int)/\(r:Int) < (m:Int):=by omega
   have s1:y+1<=257:=by omega
   have s2:y<=256:=by omega
   simp only [Int.natCast_add,Int.natCast_one] at ih;rw [ak rO.eq_1];simp (disch:=first|exact dis|fail) only [sy,simprocAttr,-List.reduceReplicate,hF.all,h1,h2,h3,h4,s0,s1,s2,hr,k1,hb,hh,hcx,hat,YD,bK,abt,hlen,Bv,abu,e5,ih]
theorem GC{x:List Nat}{a:Option Addr}{e n ix:Nat}(hR:Rd ⟨hp,L,H,[]⟩ (.slice a n e) x)(hn:x.length=n)(hm:n<=1000)(hx:ix<=n)(hF:Fit hp.length L H) :
  aN env (.func 127) [.slice a n e,.int .i64 ix] ⟨hp,L,H,d⟩=some (.slice (some ⟨hp.length,0,some 0⟩) (n+1) 1,⟨hp++[.cells 0 true (l4 x ix (n+1))],L,H,d⟩):=by
 have hv:∀ r∈refs (.slice a n e),r < hp.length:=hR.refs;obtain ⟨fr1,p1,q1,q2,q3⟩:=SJ (ix:=.int .i64 ix) hR hn (by omega) hF n 0 (by omega);obtain ⟨fr2,p2,r1,r2,r3⟩:=SK (x:=x) (v:=.slice a n e) (ix:=.int .i64 ix) hv (by simp [refs,bw,aI]) (by omega) hF 256 0 (by omega);obtain ⟨m,hm1⟩:∃ m,m=n+1:=⟨_,rfl⟩;obtain ⟨fr3,p3,s1⟩:=GB hR hn (by omega) hx hm1 hF m 0 (by omega);have e0:atR ix 0=0:=by unfold atR;rw [if_pos (Nat.zero_le _)]
 rw [e0,<- Vv,hn,<- hm1] at p3;rw [<- Vu] at p1;rw [<- hm1];have e1:(n:Int)+1=(m:Int):=by omega
 have h0n:¬ (m:Int)=0:=by omega
 have hge:0<=(m:Int):=by omega
 have hn3:(m:Int)<=1048576:=by omega
 have hn4:m<=1048576:=by omega
 generalize l4 x ix m=Q at *;have hG:=fun c1=>iO (h:=hp) (nw:=[c1,.cells 0 true Q]) (L:=L) (H:=H) (v:=.slice (some ⟨hp.length+1,0,some 0⟩) m 1) 1 rfl (by simp [refs,bw,aI]) (by simp [refs,bw,aI]);have o2:AM.one hp.length (hp.length+1) (hp.length+1)=hp.length:=eU;simp only [Int.natCast_zero] at p1 p2 p3;generalize l3 x (atR ix m)=P4 at *;generalize l3 x 0=P3 at *;generalize l2 x 0=P2 at *;rw [av 127 _ _ aaj];simp (disch:=first|exact dis|fail) only [sy,simprocAttr,-List.reduceReplicate,hF.all,KS,p1,p2,p3,q1,q2,q3,r1,r2,r3,s1,e1,hge,hn3,hn4,h0n,Int.le_refl,Nat.one_mul,hG,ren,fN,dU,o2,List.map_cons,List.map_nil]
end
end UeB
namespace UeC
open Go Go.RowKit AM aE LtA SyP TmM TsA TsB TsC TsE TsI TsJ TtA TtB TuF UeA UeB Bt
def bt(x:List Nat)(ix:Nat):Nat->List Value
 | 0=>List.replicate x.length (.int .u8 0)
 | k+1=>(bt x ix k).set (x.length - (k+1)) (.int .u8 (x.getD (atR ix (fM x ix k)) 0:Nat))
theorem SL(x:List Nat)(ix:Nat):∀ k,(bt x ix k).length=x.length
 | 0=>by simp [bt]
 | k+1=>by rw [bt,List.length_set,SL x ix k]
theorem Lw{x:List Nat}{ix n:Nat}(hn:x.length=n)(hx:ix<=n)(h:∀ k,k < n->fM x ix k≠ix):∀ k,k<=n->fM x ix k<=n
 | 0,_=>Nat.zero_le _
 | k+1,hk=>by have:=SF (x:=x) (ix:=ix) (r:=fM x ix k) (by rw [hn];exact Lw hn hx h k (by omega)) (by omega) (h k (by omega));rw [hn] at this;exact this
section
variable{hp:List Blk}{L:Nat}{H d:List Nat}
theorem Lx{x:List Nat}{a:Option Addr}{e n ix m:Nat}(hR:Rd ⟨hp,L,H,[]⟩ (.slice a n e) x)(hn:x.length=n)(hm:n<=1000)(hx:ix<=n)(hm1:m=n+1)(hk:∀ k,k < n->fM x ix k≠ix)(hF:Fit hp.length L H):∀ (j k:Nat),k+j=n->∃ fr,
  aG env CT [8,0,7,1,10,9] (hp.length+2) [(8,.slice (some ⟨hp.length+1,0,some 0⟩) n 1),(0,.slice a n e),(7,.slice (some ⟨hp.length,0,some 0⟩) m 1),(1,.int .i64 ix),(10,.int .i64 ((j:Int) - 1)),(9,.int .i64 (fM x ix k:Nat))] ⟨hp++[.cells 0 true (l4 x ix m),.cells 0 true (bt x ix k)],L,H,[]⟩
   = some (.exit 0,fr,⟨hp++[.cells 0 true (l4 x ix m),.cells 0 true (bt x ix n)],L,H,[]⟩)/\fr.get 8=some (.slice (some ⟨hp.length+1,0,some 0⟩) n 1)/\fr.get 9=some (.int .i64 (fM x ix n:Nat))/\fr.get 1=some (.int .i64 ix)
 | 0,k,hij=>by
  obtain rfl:k=n:=by omega
  have h1:¬ ((0:Nat):Int) - 1>=0:=by omega
  have e1:((0:Nat):Int) - 1 = -1:=rfl;rw [e1] at *;rw [ak CT.eq_1];simp (disch:=first|exact dis|fail) only [sy,simprocAttr,-List.reduceReplicate,hF.all,h1];exact ⟨_,rfl,rfl,rfl,rfl⟩
 | j+1,k,hij=>by
  obtain ⟨fr,ih,ih2⟩:=Lx hR hn hm hx hm1 hk hF j (k+1) (by omega);refine ⟨fr,?_,ih2⟩;have hkn:=hk k (by omega);have hle:=Lw hn hx hk k (by omega);have e1:((j+1:Nat):Int) - 1=(j:Int):=by omega
  have k1:=fun d c1 c2=>yV (hp:=hp++[c1,c2]) (d:=d) (a:=a) (e:=e) hx hle (by omega) (hF.mono (by simp));rw [if_neg hkn,decide_eq_true hkn] at k1;have hlt:=Di hle hx hkn;have hi:atR ix (fM x ix k) < x.length:=by omega
  have bK:(bt x ix k).set j (.int .u8 (x[atR ix (fM x ix k)]:Nat))=bt x ix (k+1):=by rw [bt,show x.length - (k+1)=j by omega,List.getD_eq_getElem?_getD,List.getElem?_eq_getElem hi,Option.getD_some]
  have hlen:=SL x ix k;rw [hn] at hlen;have Bv:=SI x ix m;rw [hn,<- hm1] at Bv;have hat:=abr (x:=x) (ix:=ix) (i:=m) (j:=fM x ix k) (by omega);rw [if_pos ⟨by omega,hkn⟩,<- fM] at hat;have hv:∀ r∈refs (.slice a n e),r < hp.length:=hR.refs;obtain ⟨b,of,g,pl,cs,rfl,-,hh,hb,hcx⟩:=hR.at_ hi;have hbl:=(List.getElem?_eq_some_iff.1 hb).1;have h8:x[atR ix (fM x ix k)] < 256:=hR.by_ _ (List.getElem_mem hi);rw [e1];clear e1;generalize x[atR ix (fM x ix k)]=y at *;generalize fM x ix (k+1)=r2 at *;generalize bt x ix k=P at *;generalize bt x ix (k+1)=P2 at *;generalize l4 x ix m=Q at *;generalize fM x ix k=r at *;generalize atR ix r=q at *;have h1:(j:Int)>=0:=by omega
  have h2:0<=(q:Int)/\(q:Int) < (n:Int):=by omega
  have h3:0<=(r:Int)/\(r:Int) < (m:Int):=by omega
  have h4:0<=(j:Int)/\(j:Int) < (n:Int):=by omega
  have s1:j+1<=n:=by omega
  have s2:j < n:=by omega
  rw [ak CT.eq_1];simp (disch:=first|exact dis|fail) only [sy,simprocAttr,-List.reduceReplicate,hF.all,h1,h2,h3,h4,s1,s2,k1,hb,hh,hcx,hat,bK,hlen,Bv,ih]
theorem Ly:∀ n:Nat,(List.replicate n [Value.int .u8 0]).flatten=List.replicate n (.int .u8 0)
 | 0=>rfl
 | n+1=>by rw [List.replicate_succ,List.flatten_cons,Ly n,List.replicate_succ];rfl
theorem Oi{x:List Nat}{a:Option Addr}{e n ix:Nat}(hR:Rd ⟨hp,L,H,[]⟩ (.slice a n e) x)(hn:x.length=n)(hm:n<=1000)(h1:1<=n)(hx:ix<=n)(hk:∀ k,k < n->fM x ix k≠ix)(he:fM x ix n=ix)(hF:Fit hp.length L H) :
  aN env (.func 60) [.slice a n e,.int .i64 ix] ⟨hp,L,H,d⟩=some (.tuple #[.slice (some ⟨hp.length,0,some 0⟩) n 1,.int .i64 0],⟨hp++[.cells 0 true (bt x ix n)],L,H,d⟩):=by
 have hv:∀ r∈refs (.slice a n e),r < hp.length:=hR.refs;have k1:=fun d=>GC (d:=d) hR hn hm hx hF;obtain ⟨m,hm1⟩:∃ m,m=n+1:=⟨_,rfl⟩;rw [<- hm1] at k1;obtain ⟨fr,p1,q1,q2,q3⟩:=Lx hR hn hm hx hm1 hk hF n 0 (by omega);have hk0:=hk 0 (by omega);rw [fM] at hk0;rw [bt,<- Ly,fM,hn] at p1;rw [he] at q2;have hge:0<=(n:Int):=by omega
 have hn3:(n:Int)<=1048576:=by omega
 have hn4:n<=1048576:=by omega
 have h0n:¬ (n:Int)=0:=by omega
 have g1:¬ (ix:Int) < 0:=by omega
 have g2:¬ (ix:Int) > (n:Int):=by omega
 have g3:((ix:Int)==0)=false:=by simp;omega
 have g4:((ix:Int) != (ix:Int))=false:=by simp
 generalize bt x ix n=P at *;generalize l4 x ix m=Q at *;have hG:=fun c1=>iO (h:=hp) (nw:=[c1,.cells 0 true P]) (L:=L) (H:=H) (v:=.tuple #[.slice (some ⟨hp.length+1,0,some 0⟩) n 1,.int .i64 0]) 1 rfl (by simp [refs,bw,aI]) (by simp [refs,bw,aI]);have o2:AM.one hp.length (hp.length+1) (hp.length+1)=hp.length:=eU;simp only [Int.natCast_zero] at p1;rw [av 60 _ _ acI];simp (disch:=first|exact dis|fail) only [sy,simprocAttr,-List.reduceReplicate,hF.all,XU,k1,p1,q1,q2,q3,g1,g2,g3,g4,hge,hn3,hn4,h0n,Int.le_refl,Nat.one_mul,hG,ren,fN,dU,o2,List.map_cons,List.map_nil]
theorem JA{x:List Nat}{a:Option Addr}{e n ix:Nat}(hR:Rd ⟨hp,L,H,[]⟩ (.slice a n e) x)(hn:x.length=n)(hm:n<=1000)(h1:1<=n)(hx:ix<=n)(hk:∀ k,k < n->fM x ix k≠ix)(he:fM x ix n=ix)(hF:Fit hp.length L H) :
  aN env (.func 17) [.slice a n e,.int .i64 ix] ⟨hp,L,H,d⟩=some (.bool true,⟨hp,L,H,d⟩):=by have k1:=fun d=>Oi (d:=d) hR hn hm h1 hx hk he hF;generalize bt x ix n=P at *;rw [av 17 _ _ acA];simp (disch:=first|exact dis|fail) only [sy,simprocAttr,-List.reduceReplicate,hF.all,XP,k1]
theorem JB{x:List Nat}{a:Option Addr}{e n:Nat}(hR:Rd ⟨hp,L,H,[]⟩ (.slice a n e) (aK x).1)(hn:x.length=n)(hm:n<=1000)(h1:1<=n)(hF:Fit hp.length L H) :
  aN env (.func 17) [.slice a n e,.int .i64 ((aK x).2.1:Nat)] ⟨hp,L,H,d⟩=some (.bool true,⟨hp,L,H,d⟩):=by
 obtain ⟨o,hO,t1,t2⟩:=pq x;rw [t1] at hR;rw [t2];have hl:=yQ hO;have hx:o.idxOf 0<=n:=by have:=List.idxOf_lt_length_iff.2 (hO.mem.2 (Nat.zero_le _):(0:Nat)∈o);rw [hO.len] at this;omega
 refine JA hR (by omega) hm h1 hx (fun k hk=>(SG hO (by omega)).1) ?_ hF;rw [<- hn];exact Vt hO
end
end UeC
namespace ArA
open Go Go.RowKit AM aE
def p8(r:Nat)(s n:Int):Blk:=.cells 0 false [arP r,.int .i64 s,.int .i64 n]
theorem Bw{l:List Nat}{lv pk s n i:Int}(h0:0<=s)(h1:s+n<=lv)(h2:0<=i)(h3:i < n):(⟨l,lv,pk⟩:Arn).part s n i 1=true:=by rw [Arn.dM];show (_/\_/\_<=lv/\_<=lv - s)/\_;omega
theorem tS{l:List Nat}{lv pk s n i:Int}{c:Nat}(h0:0<=s)(h1:s+n<=lv)(h2:0<=i)(h3:i < n)(hc:l[(s+i).toNat]?=some c):(⟨l,lv,pk⟩:Arn).kF s n i=c:=by rw [Arn.kF,if_pos (Bw h0 h1 h2 h3),Arn.slot,List.getD_eq_getElem?_getD];simp only [hc];rfl
theorem GD{l:List Nat}{lv pk s n i:Int}{c:Nat}(h0:0<=s)(h1:s+n<=lv)(h2:0<=i)(h3:i < n)(h4:lv<=l.length):(⟨l,lv,pk⟩:Arn).cL s n i c=⟨l.set (s+i).toNat c,lv,pk⟩:=by rw [Arn.cL,if_pos (Bw h0 h1 h2 h3),Arn.setAt,yM (by show _ < l.length;omega)]
section
variable{hp:List Blk}{r q L t:Nat}{H d:List Nat}{A:Arn}{s n:Int}
theorem pE(hF:Fit hp.length L H)(k:bF hp.length r q H A)(ht:hp[t]?=some (p8 r s n))(hr:r≠t)(hq:q≠t)(hid:H.contains t=false)(i:Int) :
  aN env (.func 174) [.pointer (some ⟨t,0,some 0⟩),.int .i64 i] ⟨put hp r q A,L,H,d⟩=some (.int .u8 (A.kF s n i),⟨put hp r q A,L,H,d⟩):=by have h1:=k.cJ;have h2:=k.cI;have htl:t < hp.length:=(List.getElem?_eq_some_iff.1 ht).1;have hne:=k.ne;rw [av 174 _ _ aaq];simp (disch:=first|exact aQ|fail) only [sy,simprocAttr,-List.reduceReplicate,syR,Int.le_refl,hF.all,k.hr,k.hq,KU,ht,hid,p8,eP]
theorem qG(hF:Fit hp.length L H)(k:bF hp.length r q H A)(ht:hp[t]?=some (p8 r s n))(hr:r≠t)(hq:q≠t)(hid:H.contains t=false){i:Int}{c ix:Nat}{col:List Nat}
  (SM:∀ (j:Nat) x,col[j]?=some x->A.kF s n (i+1+(j:Int))=x) (hi:0<=i) (hi2:i<=1048576) (hm:col.length<=1048576) (hix:ix<=1048576) :
  ∀ (rest:List Nat) (j:Nat),col.drop j=rest->j<=col.length->∀ a:Nat,a+rest.length<=1048577->∃ fr,
  aG env vM [8,23,22,0,1,7,2] hp.length [(8,.int .i64 a),(23,.int .i64 j),(22,.int .i64 col.length),(0,.pointer (some ⟨t,0,some 0⟩)),(1,.int .i64 i),(7,.int .u8 c),(2,.int .i64 ix)] ⟨put hp r q A,L,H,[]⟩ =
   some (.exit 0,fr,⟨put hp r q A,L,H,[]⟩)/\fr.get 8=some (.int .i64 (a+cnt c ix j rest:Nat))/\fr.get 0=some (.pointer (some ⟨t,0,some 0⟩))/\fr.get 1=some (.int .i64 i)/\fr.get 7=some (.int .u8 c)/\fr.get 2=some (.int .i64 ix)
 | [],j,hd,hj,a,ha=>by
  have e1:j=col.length:=by have:=congrArg List.length hd;simp at this;omega
  subst e1;rw [ak vM.eq_1];simp (disch:=first|exact aQ|fail) only [sy,simprocAttr,-List.reduceReplicate,syR,Int.le_refl,hF.all,k.hr,k.hq];exact ⟨_,rfl,rfl,rfl,rfl,rfl,rfl⟩
 | x::rest,j,hd,hj,a,ha=>by
  have hjl:j < col.length:=by have:=congrArg List.length hd;simp at this;omega
  have hx:col[j]?=some x:=by have:=List.drop_eq_getElem_cons hjl;rw [hd] at this;rw [List.getElem?_eq_getElem hjl,(List.cons.inj this).1]
  have hlr:col.drop (j+1)=rest:=by have:=List.drop_eq_getElem_cons hjl;rw [hd] at this;exact (List.cons.inj this).2.symm
  have h1:(j:Int) < col.length:=by omega
  have hb:=SM j x hx;simp only [List.length_cons] at ha;rw [ak vM.eq_1];by_cases hc:x < c\/(x=c/\j < ix)
  ·obtain ⟨fr,e1,e2⟩:=qG hF k ht hr hq hid SM hi hi2 hm hix rest (j+1) hlr (by omega) (a+1) (by omega);have hcc:(if x < c\/(x=c/\j < ix) then 1 else 0)=1:=if_pos hc;rw [cnt,hcc,<- Nat.add_assoc];by_cases c1:(x:Int) < c
   ·simp (disch:=first|exact aQ|fail) only [sy,simprocAttr,-List.reduceReplicate,syR,Int.le_refl,hF.all,k.hr,k.hq,h1,pE hF k ht hr hq hid,hb,c1];exact ⟨fr,e1,e2⟩
   ·have c2:(x:Int)=c:=by omega
    have c3:(j:Int) < ix:=by omega
    have c4:x=c:=by omega
    simp (disch:=first|exact aQ|fail) only [sy,simprocAttr,-List.reduceReplicate,syR,Int.le_refl,hF.all,k.hr,k.hq,h1,pE hF k ht hr hq hid,hb,c1,c2,c3,c4];exact ⟨fr,e1,e2⟩
  ·obtain ⟨fr,e1,e2⟩:=qG hF k ht hr hq hid SM hi hi2 hm hix rest (j+1) hlr (by omega) a (by omega);have hcc:(if x < c\/(x=c/\j < ix) then 1 else 0)=0:=if_neg hc;rw [cnt,hcc,Nat.zero_add];have c1:¬ (x:Int) < c:=by omega
   by_cases c2:x=c
   ·have c3:¬ (j:Int) < ix:=by omega
    simp (disch:=first|exact aQ|fail) only [sy,simprocAttr,-List.reduceReplicate,syR,Int.le_refl,hF.all,k.hr,k.hq,h1,pE hF k ht hr hq hid,hb,c1,c2,c3];exact ⟨fr,e1,e2⟩
   ·have c3:¬ (x:Int)=c:=by omega
    simp (disch:=first|exact aQ|fail) only [sy,simprocAttr,-List.reduceReplicate,syR,Int.le_refl,hF.all,k.hr,k.hq,h1,pE hF k ht hr hq hid,hb,c1,c2,c3];exact ⟨fr,e1,e2⟩
theorem Bz(hF:Fit hp.length L H){P Q col:List Nat}{c ix m:Nat}{lv pk i:Int}(ht:hp[t]?=some (p8 r s n))(hr:r≠t)(hq:q≠t)(hid:H.contains t=false)(hw:L<=r/\L<=q)
  (hs:0<=s) (hi:0<=i) (hP:(P.length:Int)=s+i) (hn:n=i+1+col.length) (hlv:s+n<=lv) (hix:ix<=col.length) (hsz:n<=1048576) :
  ∀ (e j:Nat),j+e=ix->bF hp.length r q H ⟨P++(mid col c j++Q),lv,pk⟩->∃ fr,
  aG env vL [49,48,8,7,2,0,1] hp.length [(49,.int .i64 j),(48,.int .i64 ix),(8,.int .i64 m),(7,.int .u8 c),(2,.int .i64 ix),(0,.pointer (some ⟨t,0,some 0⟩)),(1,.int .i64 i)] ⟨put hp r q ⟨P++(mid col c j++Q),lv,pk⟩,L,H,[]⟩ =
   some (.exit 2,fr,⟨put hp r q ⟨P++(mid col c ix++Q),lv,pk⟩,L,H,[]⟩)/\bF hp.length r q H ⟨P++(mid col c ix++Q),lv,pk⟩/\fr.get 8=some (.int .i64 m)/\fr.get 0=some (.pointer (some ⟨t,0,some 0⟩))/\fr.get 1=some (.int .i64 i)/\fr.get 7=some (.int .u8 c)/\fr.get 2=some (.int .i64 ix)
 | 0,j,hj,k=>by
  have e1:j=ix:=by omega
  subst e1;rw [ak vL.eq_1];simp (disch:=first|exact aQ|fail) only [sy,simprocAttr,-List.reduceReplicate,syR,Int.le_refl,hF.all,k.hr,k.hq];exact ⟨_,rfl,k,rfl,rfl,rfl,rfl,rfl⟩
 | e+1,j,hj,k=>by
  have hjl:j < col.length:=by omega
  have h1:(j:Int) < ix:=by omega
  have hml:(mid col c j).length=col.length+1:=yO (by omega);have hx:col[j]?=some col[j]:=List.getElem?_eq_getElem hjl;have hb:(⟨P++(mid col c j++Q),lv,pk⟩:Arn).kF s n (i+j+1)=col[j]:=by apply tS hs (by omega) (by omega) (by omega);rw [oC (j:=j+1) (by omega) (by omega),Lt hjl,hx]
  have hc:col[j] < 256:=by have:=k.by_.get (i:=P.length+(j+1)) (by simp;omega);have e2:=oC (P:=P) (M:=mid col c j) (Q:=Q) (i:=P.length+(j+1)) (j:=j+1) (by omega) rfl;rw [Lt hjl,hx,List.getElem?_eq_getElem (by simp;omega)] at e2;rw [<- Option.some.inj e2];exact this
  have bK:(⟨P++(mid col c j++Q),lv,pk⟩:Arn).cL s n (i+j) col[j]=⟨P++(mid col c (j+1)++Q),lv,pk⟩:=by rw [GD hs (by omega) (by omega) (by omega) k.dn,Gx (j:=j) (by omega) (by omega),Vn hx]
  have k2:=k.cL (s:=s) (len:=n) (i:=i+j) hc;rw [bK] at k2;obtain ⟨fr,e1,e2⟩:=Bz hF ht hr hq hid hw hs hi hP hn hlv hix hsz e (j+1) (by omega) k2;rw [ak vL.eq_1];have hF2:Fit hp.length hp.length H:=⟨Nat.le_refl _,hF.2⟩;simp (disch:=first|exact aQ|fail) only [sy,simprocAttr,-List.reduceReplicate,syR,Int.le_refl,hF.all,k.hr,k.hq,ht,hid,p8,h1,pE hF2 k ht hr hq hid,mX hF k hw,hb,bK,hc];exact ⟨fr,e1,e2⟩
theorem Oj(hF:Fit hp.length L H){P Q col:List Nat}{c ix:Nat}{lv pk i:Int}(ht:hp[t]?=some (p8 r s n))(hr:r≠t)(hq:q≠t)(hid:H.contains t=false)(hw:L<=r/\L<=q)
  (hs:0<=s) (hi:0<=i) (hP:(P.length:Int)=s+i) (hn:n=i+1+col.length) (hlv:s+n<=lv) (hix:ix<=col.length) (hsz:n<=1048576) (k:bF hp.length r q H ⟨P++(c::col++Q),lv,pk⟩) :
  bF hp.length r q H ⟨P++(nD col ix c++Q),lv,pk⟩ /\
  aN env (.func 117) [.pointer (some ⟨t,0,some 0⟩),.int .i64 i,.int .i64 ix] ⟨put hp r q ⟨P++(c::col++Q),lv,pk⟩,L,H,d⟩=some (.int .i64 (Gu col ix c),⟨put hp r q ⟨P++(nD col ix c++Q),lv,pk⟩,L,H,d⟩):=by
 have h1:=k.cJ;have h2:=k.cI;have htl:t < hp.length:=(List.getElem?_eq_some_iff.1 ht).1;have hb0:(⟨P++(c::col++Q),lv,pk⟩:Arn).kF s n i=c:=by apply tS hs (by omega) (by omega) (by omega);rw [oC (j:=0) (by simp) (by omega)];rfl
 have hc:c < 256:=by
  have e1:(P++(c::col++Q))[P.length]?=some c:=by rw [oC (j:=0) (by simp) (by omega)];rfl
  have hl:P.length < (P++(c::col++Q)).length:=by simp
  rw [List.getElem?_eq_getElem hl] at e1;rw [<- Option.some.inj e1];exact k.by_.get hl
 have SM:∀ (j:Nat) x,col[j]?=some x->(⟨P++(c::col++Q),lv,pk⟩:Arn).kF s n (i+1+(j:Int))=x:=fun j x hx=>by have hjl:j < col.length:=(List.getElem?_eq_some_iff.1 hx).1;apply tS hs (by omega) (by omega) (by omega);rw [oC (j:=j+1) (by simp;omega) (by omega),List.getElem?_cons_succ,hx]
 obtain ⟨fr,e1,e2,e3,e4,e5,e6⟩:=qG hF k ht hr hq hid (i:=i) (c:=c) (ix:=ix) (col:=col) SM hi (by omega) (by omega) (by omega) col 0 rfl (by omega) 1 (by omega);obtain ⟨fr',g1,k',g2,g3,g4,g5,g6⟩:=Bz hF (P:=P) (Q:=Q) (col:=col) (c:=c) (ix:=ix) (m:=1+cnt c ix 0 col) (lv:=lv) (pk:=pk) (i:=i) ht hr hq hid hw hs hi hP hn hlv hix hsz ix 0 (by omega) k;have bK:(⟨P++(mid col c ix++Q),lv,pk⟩:Arn).cL s n (i+ix) c=⟨P++(nD col ix c++Q),lv,pk⟩:=by rw [GD hs (by omega) (by omega) (by omega) k'.dn,Gx (j:=ix) (by rw [yO hix];omega) (by omega),Vo hix]
 have k2:=k'.cL (s:=s) (len:=n) (i:=i+ix) hc;rw [bK] at k2;refine ⟨k2,?_⟩;have jR:n - i - 1=col.length:=by omega
 rw [Sx] at g1;simp only [Int.natCast_zero,Int.natCast_one] at e1 g1;have hF2:Fit hp.length hp.length H:=⟨Nat.le_refl _,hF.2⟩;simp only [List.cons_append] at k hb0 e1 g1;rw [av 117 _ _ Z9];simp (disch:=first|exact aQ|fail) only [sy,simprocAttr,-List.reduceReplicate,syR,Int.le_refl,hF.all,k.hr,k.hq,KQ,ht,hid,p8,pE hF k ht hr hq hid,hb0,jR,e1,e2,e3,e4,e5,e6,g1,g2,g3,g4,g5,g6,mX hF k' hw,bK,hc];rfl
theorem Dj(hF:Fit hp.length L H)(k:bF hp.length r q H A)(s n:Int) :
  aN env (.func 116) [arP r,.agg #[.int .i64 s,.int .i64 n]] ⟨put hp r q A,L,H,d⟩=some (.bool (A.has s n&&decide (0 < n)&&decide (n<=65536)),⟨put hp r q A,L,H,d⟩):=by
 have h1:=k.cJ;have h2:=k.cI;have h3:=k.gV;have h4:=k.dn;have h5:=k.size;rw [av 116 _ _ Z8];simp (disch:=first|exact aQ|fail) only [sy,simprocAttr,-List.reduceReplicate,syR,Int.le_refl,hF.all,k.hr,k.hq,Rt,bE];cases hh:A.has s n with
 | false=>simp (disch:=first|exact aQ|fail) only [sy,simprocAttr,-List.reduceReplicate,syR,Int.le_refl,hF.all,k.hr,k.hq]
 | true=>
  simp (disch:=first|exact aQ|fail) only [sy,simprocAttr,-List.reduceReplicate,syR,Int.le_refl,hF.all,k.hr,k.hq];iterate 2 (all_goals (try (split<;>rename_i hq<;>(try simp only [Decidable.not_not] at hq)<;>(first | simp (disch:=first|exact aQ|fail) only [sy,simprocAttr,-List.reduceReplicate,syR,Int.le_refl,hF.all,k.hr,k.hq,eq_false hq] | simp (disch:=first|exact aQ|fail) only [sy,simprocAttr,-List.reduceReplicate,syR,Int.le_refl,hF.all,k.hr,k.hq,eq_true hq]))))
  all_goals (first | (simp [*];done) | (simp;omega))
theorem BA(hF:Fit hp.length L H){P Q x:List Nat}{b:Nat}{lv pk:Int}(hx:hp[b]?=some (.cells 0 true [.int .i64 s,.int .i64 n]))(hbr:r≠b)(hbq:q≠b)(abv:H.contains b=false)
  (ht:hp[t]?=some (p8 r s n)) (hr:r≠t) (hq:q≠t) (hid:H.contains t=false) (hw:L<=r/\L<=q)
  (hs:0<=s) (hP:(P.length:Int)=s) (hn:n=x.length) (hlv:s+n<=lv) (hsz:n<=1048576) :
  ∀ j:Nat,j<=x.length->bF hp.length r q H ⟨P++(x.take j++((aK (x.drop j)).1++Q)),lv,pk⟩->∃ fr,
  aG env CS [5,4,8,3,7] hp.length [(5,.int .i64 (aK (x.drop j)).2.2),(4,.int .i64 (aK (x.drop j)).2.1),(8,.int .i64 ((j:Int) - 1)),(3,.pointer (some ⟨b,0,some 0⟩)),(7,.pointer (some ⟨t,0,some 0⟩))] ⟨put hp r q ⟨P++(x.take j++((aK (x.drop j)).1++Q)),lv,pk⟩,L,H,[]⟩ =
   some (.exit 0,fr,⟨put hp r q ⟨P++((aK x).1++Q),lv,pk⟩,L,H,[]⟩)/\bF hp.length r q H ⟨P++((aK x).1++Q),lv,pk⟩/\fr.get 4=some (.int .i64 (aK x).2.1)/\fr.get 5=some (.int .i64 (aK x).2.2)
 | 0,hj,k=>by
  rw [ak CS.eq_1];simp (disch:=first|exact aQ|fail) only [sy,simprocAttr,-List.reduceReplicate,syR,Int.le_refl,hF.all,k.hr,k.hq,Int.natCast_zero];exact ⟨_,rfl,k,rfl,rfl⟩
 | j+1,hj,k=>by
  have hj':j < x.length:=hj;have hd:x.drop j=x[j]::x.drop (j+1):=List.drop_eq_getElem_cons hj';have htk:x.take (j+1)=x.take j++[x[j]]:=by rw [List.take_succ,List.getElem?_eq_getElem hj'];rfl
  have hlen:=iF (x.drop (j+1));have hst:=Gw (t:=x.drop (j+1)) (by simp;omega);have hl:(x.drop (j+1)).length=x.length - (j+1):=by simp
  have hl2:(x.take j).length=j:=by simp;omega
  have key:P++(x.take (j+1)++((aK (x.drop (j+1))).1++Q))=(P++x.take j)++(x[j]::(aK (x.drop (j+1))).1++Q):=by rw [htk];simp only [List.append_assoc,List.cons_append,List.nil_append]
  have kc:=Oj (d:=[]) hF (P:=P++x.take j) (Q:=Q) (col:=(aK (x.drop (j+1))).1) (c:=x[j]) (ix:=(aK (x.drop (j+1))).2.1) (lv:=lv) (pk:=pk) (i:=j) ht hr hq hid hw hs (by omega) (by simp;omega) (by omega) hlv (by omega) hsz (by rw [<- key];exact k);obtain ⟨k2,hcome⟩:=kc;have abw:(P++x.take j)++(nD (aK (x.drop (j+1))).1 (aK (x.drop (j+1))).2.1 x[j]++Q)=P++(x.take j++((aK (x.drop j)).1++Q)):=by rw [hd];simp [aK]
  have acN:Gu (aK (x.drop (j+1))).1 (aK (x.drop (j+1))).2.1 x[j]=(aK (x.drop j)).2.1:=by rw [hd];rfl
  have acO:((aK (x.drop (j+1))).2.2:Int)+(n - 1 - j+(aK (x.drop (j+1))).2.1)=(aK (x.drop j)).2.2:=by rw [hd];simp only [aK];omega
  rw [<- key,abw,acN] at hcome;rw [abw] at k2;obtain ⟨fr,e1,e2⟩:=BA hF hx hbr hbq abv ht hr hq hid hw hs hP hn hlv hsz j (by omega) k2;have h1:(((j+1:Nat):Int) - 1)=j:=by omega
  have h2:(j:Int)>=0:=by omega
  rw [ak CS.eq_1];rw [h1];generalize aK (x.drop (j+1))=u at *;generalize P++(x.take (j+1)++(u.1++Q))=l at *;simp (disch:=first|exact aQ|fail) only [sy,simprocAttr,-List.reduceReplicate,syR,Int.le_refl,hF.all,k.hr,k.hq,h2,hx,abv,hcome,acO];exact ⟨fr,e1,e2⟩
theorem Ol(hF:Fit hp.length L H){P Q x:List Nat}{lv pk:Int}(hw:L<=r/\L<=q)(hs:0<=s)(hP:(P.length:Int)=s)(hn:n=x.length)(hlv:s+n<=lv)(hsz:n<=65536)(h0:0 < n)(k:bF hp.length r q H ⟨P++(x++Q),lv,pk⟩) :
  bF hp.length r q H ⟨P++((aK x).1++Q),lv,pk⟩ /\
  aN env (.func 57) [arP r,.agg #[.int .i64 s,.int .i64 n]] ⟨put hp r q ⟨P++(x++Q),lv,pk⟩,L,H,d⟩=some (.tuple #[.int .i64 (aK x).2.1,.int .i64 (aK x).2.2,.int .i64 0],⟨put hp r q ⟨P++((aK x).1++Q),lv,pk⟩,L,H,d⟩):=by
 have h1:=k.cJ;have h2:=k.cI;have hv:((⟨P++(x++Q),lv,pk⟩:Arn).has s n&&decide (0 < n)&&decide (n<=65536))=true:=by
  have:(⟨P++(x++Q),lv,pk⟩:Arn).has s n=true:=by rw [Arn.cq];show _/\_/\_<=lv/\_<=lv - s;omega
  rw [this];simp;omega
 have hlx:x.take x.length=x:=List.take_length;have hdx:x.drop x.length=[]:=List.drop_length;have abx:=BA (hp:=hp++[.cells 0 true [.int .i64 s,.int .i64 n],p8 r s n]) (hF.mono (by simp)) (P:=P) (Q:=Q) (x:=x) (b:=hp.length) (t:=hp.length+1) (s:=s) (n:=n) (lv:=lv) (pk:=pk) (by rw [dK]) (by omega) (by omega) hF.jv (by rw [gj];rfl) (by omega) (by omega) (hF.nL 1) hw hs hP hn hlv (by omega) x.length (Nat.le_refl _) (by rw [hlx,hdx];exact k.mono (by simp));obtain ⟨fr,e1,k2,e2,e3⟩:=abx;refine ⟨⟨h1,h2,k2.ne,k2.by_,k2.gV,k2.dn,k2.Bg,k2.uY,k2.size,k2.hr,k2.hq⟩,?_⟩;rw [hlx,hdx] at e1;simp only [aK,List.nil_append,Int.natCast_zero,p8,List.length_append,List.length_cons,List.length_nil,Nat.zero_add,Nat.reduceAdd] at e1;rw [<- hn] at e1;rw [av 57 _ _ acF];simp (disch:=first|exact aQ|fail) only [sy,simprocAttr,-List.reduceReplicate,syR,Int.le_refl,hF.all,k.hr,k.hq,XS,Dj,hv,e1,e2,e3]
end
end ArA
namespace ArA
open Go Go.RowKit AM aE
end ArA
namespace AM
open Go Go.RowKit
def upd(W:Nat->Nat)(i v:Nat):Nat->Nat:=fun j=>if j=i then v else W j
def swp(W:Nat->Nat)(i k:Nat):Nat->Nat:=upd (upd W i (W k)) k (W i)
def nM(W:Nat->Nat)(n x:Nat):Prop:=∃ j,j < n/\W j=x
def Inj(W:Nat->Nat)(n:Nat):Prop:=∀ i k,i < n->k < n->W i=W k->i=k
structure ld(W V:Nat->Nat)(n:Nat):Prop where
 mem:∀ x,nM W n x↔nM V n x
 inj:Inj V n->Inj W n
 out:∀ j,n<=j->W j=V j
theorem ld.rfl'{W:Nat->Nat}{n:Nat} : ld W W n:=⟨fun _=>Iff.rfl,id,fun _ _=>rfl⟩
theorem ld.trans{W V U:Nat->Nat}{n:Nat}(h:ld W V n)(k:ld V U n):ld W U n:=
 ⟨fun x=>(h.mem x).trans (k.mem x),fun i=>h.inj (k.inj i),fun j hj=>(h.out j hj).trans (k.out j hj)⟩
theorem dZ{W:Nat->Nat}{i k j:Nat} : swp W i k j=if j=k then W i else if j=i then W k else W j:=rfl
theorem yW{W:Nat->Nat}{i k n:Nat}(hi:i < n)(hk:k < n):ld (swp W i k) W n:=by
 refine ⟨fun x=>⟨?_,?_⟩,fun h a b ha hb e=>?_,fun j hj=>?_⟩
 ·rintro ⟨j,hj,rfl⟩;rw [dZ];split
  ·exact ⟨i,hi,rfl⟩
  split
  ·exact ⟨k,hk,rfl⟩
  ·exact ⟨j,hj,rfl⟩
 ·rintro ⟨j,hj,rfl⟩;by_cases h1:j=i
  ·exact ⟨k,hk,by rw [dZ,if_pos rfl,h1]⟩
  by_cases h2:j=k
  ·refine ⟨i,hi,?_⟩;rw [dZ];split
   ·rename_i h3;rw [h2,h3]
   ·rw [if_pos rfl,h2]
  ·exact ⟨j,hj,by rw [dZ,if_neg h2,if_neg h1]⟩
 ·have hg:∀ j,swp W i k j=W (if j=k then i else if j=i then k else j):=fun j=>by
   rw [dZ];split
   ·rfl
   split<;>rfl
  rw [hg,hg] at e;have:=h _ _ (by split;exact hi;split;exact hk;exact ha) (by split;exact hi;split;exact hk;exact hb) e;split at this<;>split at this<;>(try split at this)<;>(try split at this)<;>omega
 ·rw [dZ,if_neg (by omega),if_neg (by omega)]
section
variable(lt:Nat->Nat->Bool)
structure Tot:Prop where
 asy:∀ a b,lt a b=true->lt b a=false
 tra:∀ a b c,lt b a=false->lt c b=false->lt c a=false
variable{lt}
theorem Tot.irr(h:Tot lt)(a:Nat):lt a a=false:=by
 cases e:lt a a with
 | false=>rfl
 | true=>exact e ▸ h.asy a a e
def GF(lt:Nat->Nat->Bool)(W:Nat->Nat)(n:Nat):Prop:=∀ j,0 < j->j < n->lt (W ((j - 1) / 2)) (W j)=false
structure acP(lt:Nat->Nat->Bool)(W:Nat->Nat)(n i:Nat):Prop where
 ok:∀ j,0 < j->j < n->(j - 1) / 2≠i->lt (W ((j - 1) / 2)) (W j)=false
 Uo:∀ j,0 < j->j < n->(j - 1) / 2=i->0 < i->lt (W ((i - 1) / 2)) (W j)=false
structure aby(lt:Nat->Nat->Bool)(W:Nat->Nat)(n i:Nat):Prop where
 ok:∀ j,0 < j->j < n->j≠i->lt (W ((j - 1) / 2)) (W j)=false
 Uo:∀ j,0 < j->j < n->(j - 1) / 2=i->0 < i->lt (W ((i - 1) / 2)) (W j)=false
def kid(lt:Nat->Nat->Bool)(W:Nat->Nat)(n i:Nat):Nat:=if 2*i+1+1 < n/\lt (W (2*i+1)) (W (2*i+1+1))=true then 2*i+1+1 else 2*i+1
def iY(lt:Nat->Nat->Bool)(n:Nat):Nat->(Nat->Nat)->Nat->(Nat->Nat)
 | 0,W,_=>W
 | f+1,W,i=>if kid lt W n i>=n\/lt (W i) (W (kid lt W n i))=false then W else iY lt n f (swp W i (kid lt W n i)) (kid lt W n i)
def p9(lt:Nat->Nat->Bool):Nat->(Nat->Nat)->Nat->(Nat->Nat)
 | 0,W,_=>W
 | f+1,W,i=>if i=0 then W else if lt (W ((i - 1) / 2)) (W i)=false then W else p9 lt f (swp W ((i - 1) / 2) i) ((i - 1) / 2)
theorem YE(W:Nat->Nat)(n i:Nat):kid lt W n i=2*i+1\/kid lt W n i=2*i+2:=by unfold kid;split<;>omega
theorem Lz(h:Tot lt)(W:Nat->Nat){n i j:Nat}(hj:j < n)(h0:0 < j)(hp:(j - 1) / 2=i):lt (W (kid lt W n i)) (W j)=false:=by
 have:j=2*i+1\/j=2*i+2:=by omega
 unfold kid;split
 ·rename_i c;rcases this with rfl | rfl
  ·exact h.asy _ _ c.2
  ·exact h.irr _
 ·rename_i c;rcases this with rfl | rfl
  ·exact h.irr _
  ·cases e:lt (W (2*i+1)) (W (2*i+2)) with
   | false=>rfl
   | true=>exact absurd ⟨hj,e⟩ c
theorem mY:∀ (f:Nat) (W:Nat->Nat) (n i:Nat),i < n->ld (iY lt n f W i) W n
 | 0,W,n,i,_=>ld.rfl'
 | f+1,W,n,i,hi=>by
  unfold iY;split
  ·exact ld.rfl'
  ·rename_i c;have hk:kid lt W n i < n:=by omega
   exact (mY f _ n _ hk).trans (yW hi hk)
theorem qH(h:Tot lt):∀ (f:Nat) (W:Nat->Nat) (n i:Nat),n<=i+f->i < n->acP lt W n i->GF lt (iY lt n f W i) n
 | 0,W,n,i,hf,hi,_=>by omega
 | f+1,W,n,i,hf,hi,s=>by
  have hk:=YE (lt:=lt) W n i;unfold iY;split
  ·rename_i c;intro j h0 hj;by_cases hp:(j - 1) / 2=i
   ·have h1:=Lz h W hj h0 hp;rcases c with c | c
    ·exfalso;have:kid lt W n i=2*i+1\/(2*i+2 < n/\kid lt W n i=2*i+2):=by
      unfold kid;split
      ·rename_i c2;exact .inr ⟨c2.1,rfl⟩
      ·exact .inl rfl
     omega
    ·rw [hp];exact h.tra _ _ _ h1 c
   ·exact s.ok j h0 hj hp
  ·rename_i c;have hkn:kid lt W n i < n:=by omega
   have c2:lt (W i) (W (kid lt W n i))=true:=by
    cases e:lt (W i) (W (kid lt W n i)) with
    | true=>rfl
    | false=>exact absurd (.inr e) c
   generalize hkk:kid lt W n i=k at *;have hpk:(k - 1) / 2=i:=by omega
   apply qH h f _ n k (by omega) hkn;constructor
   ·intro j h0 hj hp;rw [dZ,dZ];by_cases j1:j=k
    ·rw [if_pos j1,j1,hpk,if_neg (by omega),if_pos rfl];exact h.asy _ _ c2
    ·rw [if_neg j1,if_neg hp];by_cases p1:(j - 1) / 2=i
     ·rw [if_pos p1,if_neg (by omega)];have:=Lz h W hj h0 p1;rwa [hkk] at this
     ·rw [if_neg p1];by_cases j2:j=i
      ·rw [if_pos j2,j2];exact s.Uo k (by omega) hkn hpk (by omega)
      ·rw [if_neg j2];exact s.ok j h0 hj p1
   ·intro j h0 hj hp hk0;rw [hpk,dZ,dZ,if_neg (by omega),if_pos rfl,if_neg (by omega),if_neg (by omega)];have:=s.ok j h0 hj (by omega);rwa [hp] at this
theorem yX:∀ (f:Nat) (W:Nat->Nat) (n i:Nat),i < n->ld (p9 lt f W i) W n
 | 0,W,n,i,_=>ld.rfl'
 | f+1,W,n,i,hi=>by
  unfold p9;split
  ·exact ld.rfl'
  split
  ·exact ld.rfl'
  ·exact (yX f _ n _ (by omega)).trans (yW (by omega) hi)
theorem yY(h:Tot lt):∀ (f:Nat) (W:Nat->Nat) (n i:Nat),i<=f->i < n->aby lt W n i->GF lt (p9 lt f W i) n
 | 0,W,n,i,hf,hi,s=>fun j h0 hj=>s.ok j h0 hj (by omega)
 | f+1,W,n,i,hf,hi,s=>by
  unfold p9;split
  ·exact fun j h0 hj=>s.ok j h0 hj (by omega)
  rename_i i0;split
  ·rename_i c;intro j h0 hj;by_cases e:j=i
   ·rw [e];exact c
   ·exact s.ok j h0 hj e
  ·rename_i c;have c2:lt (W ((i - 1) / 2)) (W i)=true:=by
    cases e:lt (W ((i - 1) / 2)) (W i) with
    | true=>rfl
    | false=>exact absurd e c
   generalize hu:(i - 1) / 2=u at *;apply yY h f _ n u (by omega) (by omega);have hup:∀ j,0 < j->j < n->(j - 1) / 2=u->lt (W u) (W j)=true\/lt (W u) (W j)=false:=fun j _ _ _=>by cases lt (W u) (W j)<;>simp
   constructor
   ·intro j h0 hj hne;rw [dZ,dZ];by_cases j1:j=i
    ·rw [if_pos j1,j1,hu,if_neg (by omega),if_pos rfl];exact h.asy _ _ c2
    ·rw [if_neg j1,if_neg hne];by_cases p1:(j - 1) / 2=i
     ·rw [if_pos p1];have:=s.Uo j h0 hj p1 (by omega);rwa [hu] at this
     ·rw [if_neg p1];by_cases p2:(j - 1) / 2=u
      ·rw [if_pos p2];have h3:=s.ok j h0 hj j1;rw [p2] at h3;exact h.tra _ _ _ h3 (h.asy _ _ c2)
      ·rw [if_neg p2];exact s.ok j h0 hj j1
   ·intro j h0 hj hp hu0;have abz:lt (W ((u - 1) / 2)) (W u)=false:=s.ok u hu0 (by omega) (by omega);rw [dZ,dZ,if_neg (by omega),if_neg (by omega)];by_cases j1:j=i
    ·rw [if_pos j1];exact abz
    ·rw [if_neg j1,if_neg (by omega)];have h3:=s.ok j h0 hj j1;rw [hp] at h3;exact h.tra _ _ _ h3 abz
theorem GF.top(h:Tot lt){W:Nat->Nat}{n:Nat}(k:GF lt W n):∀ j,j < n->lt (W 0) (W j)=false
 | 0,_=>h.irr _
 | j+1,hj=>by have h1:=k (j+1) (by omega) hj;have h2:=GF.top h k ((j+1 - 1) / 2) (by omega);exact h.tra _ _ _ h1 h2
termination_by j=>j
decreasing_by omega
structure lp(lt:Nat->Nat->Bool)(ask:Nat->Bool)(room:Nat)(W:Nat->Nat)(n e:Nat):Prop where
 heap:GF lt W n
 inj:Inj W n
 le:n<=room
 from_:∀ x,nM W n x->x < e/\ask x=true
 rest:∀ x,x < e->ask x=true->¬ nM W n x->n=room/\∀ y,nM W n y->lt y x=true
theorem lp.nil{ask:Nat->Bool}{room:Nat}{W:Nat->Nat} : lp lt ask room W 0 0:=
 ⟨fun j _ h=>by omega,fun i k h=>by omega,by omega,fun x ⟨j,h,_⟩=>by omega,fun x h=>by omega⟩
theorem lp.skip{ask:Nat->Bool}{room:Nat}{W:Nat->Nat}{n e:Nat}(g:lp lt ask room W n e)(h:ask e=false):lp lt ask room W n (e+1):=
 { g with from_:=fun x hx=>by have:=g.from_ x hx;exact ⟨by omega,this.2⟩,rest:=fun x hx ha hn=>g.rest x (by
       have:x≠e:=fun e1=>by rw [e1,h] at ha;cases ha
       omega) ha hn }
theorem z7{W:Nat->Nat}{n e x:Nat} : nM (upd W n e) (n+1) x↔nM W n x\/x=e:=by
 constructor
 ·rintro ⟨j,hj,rfl⟩;unfold upd;split
  ·exact .inr rfl
  ·exact .inl ⟨j,by omega,rfl⟩
 ·rintro (⟨j,hj,rfl⟩ | rfl)
  ·exact ⟨j,by omega,by unfold upd;rw [if_neg (by omega)]⟩
  ·exact ⟨n,by omega,by unfold upd;rw [if_pos rfl]⟩
theorem lp.acQ(h:Tot lt){ask:Nat->Bool}{room:Nat}{W:Nat->Nat}{n e:Nat}(g:lp lt ask room W n e)(ha:ask e=true)(hn:n < room):lp lt ask room (p9 lt n (upd W n e) n) (n+1) (e+1):=by
 have hs:=yX (lt:=lt) n (upd W n e) (n+1) n (by omega);have hm:∀ x,nM (p9 lt n (upd W n e) n) (n+1) x↔nM W n x\/x=e:=fun x=>(hs.mem x).trans z7;refine ⟨yY h n _ (n+1) n (by omega) (by omega) ⟨fun j h0 hj hne=>?_,fun j h0 hj hp hn0=>by omega⟩,hs.inj fun i k hi hk he=>?_,by omega,fun x hx=>?_,fun x hx hax hno=>?_⟩
 ·unfold upd;rw [if_neg (by omega),if_neg (by omega)];exact g.heap j h0 (by omega)
 ·unfold upd at he;split at he<;>split at he
  ·omega
  ·have:=(g.from_ (W k) ⟨k,by omega,rfl⟩).1;omega
  ·have:=(g.from_ (W i) ⟨i,by omega,rfl⟩).1;omega
  ·exact g.inj i k (by omega) (by omega) he
 ·rcases (hm x).1 hx with h1 | rfl
  ·have:=g.from_ x h1;exact ⟨by omega,this.2⟩
  ·exact ⟨by omega,ha⟩
 ·have h1:x≠e:=fun e1=>hno ((hm x).2 (.inr e1));have:=(g.rest x (by omega) hax fun h2=>hno ((hm x).2 (.inl h2))).1;omega
def Tri(lt:Nat->Nat->Bool)(B:Nat):Prop:=∀ a b,a < B->b < B->lt a b=false->a≠b->lt b a=true
theorem lp.full(h:Tot lt){B:Nat}(tri:Tri lt B){ask:Nat->Bool}{room:Nat}{W:Nat->Nat}{e:Nat}(g:lp lt ask room W room e)(he:e < B)(h0:0 < room)(hl:lt e (W 0)=false):lp lt ask room W room (e+1):=by
 refine { g with from_:=fun x hx=>by have:=g.from_ x hx;exact ⟨by omega,this.2⟩,rest:=fun x hx hax hno=>?_ };rcases Nat.lt_succ_iff_lt_or_eq.1 hx with h1 | rfl
 ·exact g.rest x h1 hax hno
 ·refine ⟨rfl,fun y hy=>?_⟩;obtain ⟨j,hj,rfl⟩:=hy;have h1:=g.heap.top h j hj;have h3:lt x (W j)=false:=h.tra (W j) (W 0) x h1 hl;have h4:=(g.from_ _ ⟨j,hj,rfl⟩).1;exact tri _ _ he (by omega) h3 (fun e1=>hno ⟨j,hj,e1.symm⟩)
theorem Tot.trans(h:Tot lt){a b c:Nat}(h1:lt a b=true)(h2:lt b c=true):lt a c=true:=by
 cases e:lt a c with
 | true=>rfl
 | false=>
  have:=h.tra c a b e (h.asy _ _ h1);rw [h2] at this;cases this
theorem Dk{W:Nat->Nat}{n e x:Nat}(h0:0 < n)(hi:Inj W n):nM (upd W 0 e) n x↔(nM W n x/\x≠W 0)\/x=e:=by
 constructor
 ·rintro ⟨j,hj,rfl⟩;unfold upd;split
  ·exact .inr rfl
  ·rename_i c;exact .inl ⟨⟨j,hj,rfl⟩,fun e1=>c (hi _ _ hj h0 e1)⟩
 ·rintro (⟨⟨j,hj,rfl⟩,h1⟩ | rfl)
  ·exact ⟨j,hj,by unfold upd;rw [if_neg (fun e1=>h1 (by rw [e1]))]⟩
  ·exact ⟨0,h0,by unfold upd;rw [if_pos rfl]⟩
theorem lp.swap(h:Tot lt){B:Nat}(tri:Tri lt B){ask:Nat->Bool}{room:Nat}{W:Nat->Nat}{e:Nat}(g:lp lt ask room W room e)(he:e < B)(h0:0 < room)(ha:ask e=true)(hl:lt e (W 0)=true):lp lt ask room (iY lt room room (upd W 0 e) 0) room (e+1):=by
 have hs:=mY (lt:=lt) room (upd W 0 e) room 0 h0;have hm:∀ x,nM (iY lt room room (upd W 0 e) 0) room x↔(nM W room x/\x≠W 0)\/x=e:=fun x=>(hs.mem x).trans (Dk h0 g.inj);have hin:∀ i,i < room->W i < e:=fun i hi=>(g.from_ _ ⟨i,hi,rfl⟩).1;refine ⟨qH h room _ room 0 (by omega) h0 ⟨fun j h1 hj hp=>?_,fun j h1 hj hp h2=>by omega⟩,hs.inj fun i k hi hk e1=>?_,Nat.le_refl _,fun x hx=>?_,fun x hx hax hno=>⟨rfl,fun y hy=>?_⟩⟩
 ·unfold upd;rw [if_neg (by omega),if_neg (by omega)];exact g.heap j h1 hj
 ·have a1:=hin i hi;have a2:=hin k hk;unfold upd at e1;split at e1<;>split at e1
  ·omega
  ·omega
  ·omega
  ·exact g.inj i k hi hk e1
 ·rcases (hm x).1 hx with h1 | rfl
  ·have:=g.from_ x h1.1;exact ⟨by omega,this.2⟩
  ·exact ⟨by omega,ha⟩
 ·have hxe:x≠e:=fun e1=>hno ((hm x).2 (.inr e1));have h00:=hin 0 h0;by_cases hx0:nM W room x
  ·have hx1:x=W 0:=by
    by_cases c:x=W 0
    ·exact c
    ·exact absurd ((hm x).2 (.inl ⟨hx0,c⟩)) hno
   rw [hx1];rcases (hm y).1 hy with ⟨⟨j,hj,rfl⟩,h1⟩ | rfl
   ·have:=hin j hj;exact tri _ _ (by omega) (by omega) (g.heap.top h j hj) (fun e1=>h1 e1.symm)
   ·exact hl
  ·have h1:=(g.rest x (by omega) hax hx0).2;rcases (hm y).1 hy with ⟨h2,-⟩ | rfl
   ·exact h1 y h2
   ·exact h.trans hl (h1 _ ⟨0,h0,rfl⟩)
def kG(lt:Nat->Nat->Bool):Nat->(Nat->Nat)->(Nat->Nat)
 | 0,W=>W
 | 1,W=>W
 | n+2,W=>kG lt (n+1) (iY lt (n+1) (n+1) (swp W 0 (n+1)) 0)
theorem ld.more{W V:Nat->Nat}{n:Nat}(h:ld W V n)(hi:Inj V (n+1)):ld W V (n+1):=by
 refine ⟨fun x=>⟨?_,?_⟩,fun _=>?_,fun j hj=>h.out j (by omega)⟩
 ·rintro ⟨j,hj,rfl⟩;rcases Nat.lt_succ_iff_lt_or_eq.1 hj with h1 | rfl
  ·obtain ⟨k,hk,e⟩:=(h.mem _).1 ⟨j,h1,rfl⟩;exact ⟨k,by omega,e⟩
  ·exact ⟨j,hj,(h.out j (Nat.le_refl _)).symm⟩
 ·rintro ⟨j,hj,rfl⟩;rcases Nat.lt_succ_iff_lt_or_eq.1 hj with h1 | rfl
  ·obtain ⟨k,hk,e⟩:=(h.mem _).2 ⟨j,h1,rfl⟩;exact ⟨k,by omega,e⟩
  ·exact ⟨j,hj,h.out j (Nat.le_refl _)⟩
 ·have h1:Inj V n:=fun i k hi' hk=>hi i k (by omega) (by omega);have h2:=h.inj h1;have h3:=h.out n (Nat.le_refl _);intro i k hi' hk e;rcases Nat.lt_succ_iff_lt_or_eq.1 hi' with a | a<;>rcases Nat.lt_succ_iff_lt_or_eq.1 hk with b | b
  ·exact h2 i k a b e
  ·obtain ⟨j,hj,e2⟩:=(h.mem _).1 ⟨i,a,rfl⟩;rw [b,h3] at e;have:=hi j n (by omega) (by omega) (e2.trans e);omega
  ·obtain ⟨j,hj,e2⟩:=(h.mem _).1 ⟨k,b,rfl⟩;rw [a,h3] at e;have:=hi n j (by omega) (by omega) (e.trans e2.symm);omega
  ·omega
theorem GG(h:Tot lt){B:Nat}(tri:Tri lt B):∀ (n:Nat) (W:Nat->Nat),GF lt W n->Inj W n->(∀ i,i < n->W i < B) ->
  ld (kG lt n W) W n/\∀ i j,i < j->j < n->lt (kG lt n W i) (kG lt n W j)=true
 | 0,W,_,_,_=>⟨ld.rfl',fun i j _ _=>by omega⟩
 | 1,W,_,_,_=>⟨ld.rfl',fun i j _ _=>by omega⟩
 | n+2,W,hh,hi,hB=>by
  have s1:ld (swp W 0 (n+1)) W (n+2):=yW (by omega) (by omega);have i1:=s1.inj hi;have s2:=mY (lt:=lt) (n+1) (swp W 0 (n+1)) (n+1) 0 (by omega);have i2:Inj (iY lt (n+1) (n+1) (swp W 0 (n+1)) 0) (n+1):=s2.inj fun i k a b=>i1 i k (by omega) (by omega);have s3:=s2.more i1;have i3:=s3.inj i1;have h3:GF lt (iY lt (n+1) (n+1) (swp W 0 (n+1)) 0) (n+1):=by refine qH h (n+1) _ (n+1) 0 (by omega) (by omega) ⟨fun j h1 hj hp=>?_,fun j h1 hj hp h2=>by omega⟩;rw [dZ,dZ,if_neg (by omega),if_neg (by omega),if_neg (by omega),if_neg (by omega)];exact hh j h1 (by omega)
  have hmem:∀ x,nM (iY lt (n+1) (n+1) (swp W 0 (n+1)) 0) (n+2) x↔nM W (n+2) x:=fun x=>(s3.mem x).trans (s1.mem x);have hB3:∀ i,i < n+2->iY lt (n+1) (n+1) (swp W 0 (n+1)) 0 i < B:=fun i hi'=>by obtain ⟨j,hj,e⟩:=(hmem _).1 ⟨i,hi',rfl⟩;rw [<- e];exact hB j hj
  have abA:iY lt (n+1) (n+1) (swp W 0 (n+1)) 0 (n+1)=W 0:=by rw [s2.out (n+1) (Nat.le_refl _),dZ,if_pos rfl]
  unfold kG;generalize iY lt (n+1) (n+1) (swp W 0 (n+1)) 0=V at *;obtain ⟨r1,r2⟩:=GG h tri (n+1) V h3 i2 fun i hi'=>hB3 i (by omega);have r3:=r1.more i3;refine ⟨r3.trans (s3.trans s1),fun i j hij hj=>?_⟩;rcases Nat.lt_succ_iff_lt_or_eq.1 hj with c | rfl
  ·exact r2 i j hij c
  ·rw [r1.out (n+1) (Nat.le_refl _),abA];obtain ⟨k,hk,e⟩:=(r1.mem _).1 ⟨i,hij,rfl⟩;obtain ⟨k2,hk2,e2⟩:=(hmem _).1 ⟨k,by omega,rfl⟩;rw [<- e,<- e2];refine tri _ _ (hB 0 (by omega)) (hB k2 hk2) (hh.top h k2 hk2) fun e3=>?_;rw [<- abA,e2] at e3;have:=i3 (n+1) k (by omega) (by omega) e3;omega
theorem lp.next(h:Tot lt){B:Nat}(tri:Tri lt B){ask:Nat->Bool}{room n:Nat}{W:Nat->Nat}(g:lp lt ask room W n B){p:List Nat}(hp:p.Pairwise fun a b=>lt a b=true)(hm:∀ x,x∈p↔x < B/\ask x=true) :
  (List.range n).map (kG lt n W)=p.take room/\n=min room p.length:=by
 obtain ⟨s,o⟩:=GG h tri n W g.heap g.inj fun i hi=>(g.from_ _ ⟨i,hi,rfl⟩).1;have hl:((List.range n).map (kG lt n W)).Pairwise fun a b=>lt a b=true:=by rw [List.pairwise_map];refine List.Pairwise.imp_of_mem ?_ List.pairwise_lt_range;intro a b ha hb hab;exact o a b hab (List.mem_range.1 hb)
 have hml:∀ x,x∈(List.range n).map (kG lt n W)↔nM W n x:=fun x=>by rw [<- s.mem x];simp only [List.mem_map,List.mem_range,nM]
 have hlen:((List.range n).map (kG lt n W)).length=n:=by simp
 have hnd:∀ {l:List Nat},l.Pairwise (fun a b=>lt a b=true)->l.Nodup:=fun {l} hl=>hl.imp fun {a b} h1 e=>by rw [e,h.irr] at h1;cases h1
 generalize (List.range n).map (kG lt n W)=l at *;have hq:(l++p.filter (fun x=>decide (x∉l))).Pairwise fun a b=>lt a b=true:=by rw [List.pairwise_append];refine ⟨hl,hp.filter _,fun a ha b hb=>?_⟩;rw [List.mem_filter,decide_eq_true_eq] at hb;have hb1:=(hm b).1 hb.1;exact (g.rest b hb1.1 hb1.2 fun c=>hb.2 ((hml b).2 c)).2 a ((hml a).1 ha)
 have he:l++p.filter (fun x=>decide (x∉l))=p:=by
  refine List.Perm.eq_of_pairwise (fun a b _ _ h1 h2=>?_) hq hp ?_
  ·rw [h.asy _ _ h1] at h2;cases h2
  ·refine (List.perm_ext_iff_of_nodup (hnd hq) (hnd hp)).2 fun x=>?_;rw [List.mem_append,List.mem_filter,decide_eq_true_eq];constructor
   ·rintro (h1 | h1)
    ·exact (hm x).2 (g.from_ x ((hml x).1 h1))
    ·exact h1.1
   ·intro h1;by_cases c:x∈l
    ·exact .inl c
    ·exact .inr ⟨h1,c⟩
 have hpl:n<=p.length:=by rw [<- he,List.length_append,hlen];omega
 by_cases c:n=room
 ·refine ⟨?_,by omega⟩;rw [<- he,<- c,<- hlen,List.take_left]
 ·have hall:∀ x∈p,x∈l:=fun x hx=>by
   by_cases c2:x∈l
   ·exact c2
   ·have hx1:=(hm x).1 hx;exact absurd (g.rest x hx1.1 hx1.2 fun c3=>c2 ((hml x).2 c3)).1 c
  have hf:p.filter (fun x=>decide (x∉l))=[]:=by rw [List.filter_eq_nil_iff];intro x hx;simp [hall x hx]
  rw [hf,List.append_nil] at he;have:=g.le;refine ⟨?_,by rw [<- he,hlen];omega⟩;rw [<- he,List.take_of_length_le (by omega)]
end
end AM
end Go.Proofs.YtgdpefeomemllaaGreat
section
namespace Go.Proofs.YtgdpefeomemllaaGreat
namespace ArA
open Go Go.RowKit AM aE
structure Words(A B:Arn)(t n:Nat)(W:Nat->Nat):Prop where
 live:B.live=A.live
 cR:B.cR=A.cR
 len:B.bs.length=A.bs.length
 by_:By B.bs
 out:∀ p,p < t\/t+4*n<=p->B.bs[p]?=A.bs[p]?
 word:∀ w,w < n->∀ j,j < 4->B.bs[t+4*w+j]?=(ji (W w))[j]?
theorem Words.ok{A B:Arn}{t n m r q:Nat}{W:Nat->Nat}{H:List Nat}(h:Words A B t n W)(o:bF m r q H A):bF m r q H B where
 cJ:=o.cJ
 cI:=o.cI
 ne:=o.ne
 by_:=h.by_
 gV:=by rw [h.live];exact o.gV
 dn:=by rw [h.live,h.len];exact o.dn
 Bg:=by rw [h.cR];exact o.Bg
 uY:=by rw [h.cR,h.len];exact o.uY
 size:=by rw [h.len];exact o.size
 hr:=o.hr
 hq:=o.hq
theorem Words.set{A B:Arn}{t z n:Nat}{W:Nat->Nat}(h:Words A B t n W)(hz:(t:Int)+z<=A.live)(h1:A.live<=A.bs.length)(hn:4*n<=z)(hs:z<=1048576){w v:Nat}(hw:w < n) :
  Words A (B.bI t z w v) t n (upd W w v):=by
 have hp:B.iX t z w=true:=by unfold Arn.iX;rw [Bool.and_eq_true,decide_eq_true_eq,Arn.dM,h.live];omega
 have e:B.bI t z w v=⟨lR B.bs (t+4*w) (ji v),B.live,B.cR⟩:=by unfold Arn.bI;rw [if_pos hp];unfold Arn.setAt;rw [show ((t:Int)+4*(w:Int)).toNat=t+4*w by omega]
 have hl4:(ji v).length=4:=rfl;have hfit:t+4*w+(ji v).length<=B.bs.length:=by rw [hl4,h.len];omega
 rw [e];refine ⟨h.live,h.cR,by show (lR _ _ _).length=_;rw [kE hfit,h.len],Lr h.by_ (Bh _),fun p hp=>?_,fun u hu j hj=>?_⟩
 ·show (lR _ _ _)[p]?=_;rw [oA hfit,if_neg (by rw [hl4];omega)];exact h.out p hp
 ·show (lR _ _ _)[t+4*u+j]?=_;rw [oA hfit,hl4];unfold upd;by_cases c:u=w
  ·subst c;rw [if_pos (by omega),if_pos rfl,show t+4*u+j - (t+4*u)=j by omega]
  ·rw [if_neg (by omega),if_neg c];exact h.word u hu j hj
theorem Words.get{A B:Arn}{t z n:Nat}{W:Nat->Nat}(h:Words A B t n W)(hz:(t:Int)+z<=A.live)(hn:4*n<=z)(hs:z<=1048576){w:Nat}(hw:w < n)(hv:W w < 4294967296):B.cY t z w=W w:=by
 have hp:B.iX t z w=true:=by unfold Arn.iX;rw [Bool.and_eq_true,decide_eq_true_eq,Arn.dM,h.live];omega
 have sl:∀ j,j < 4->B.slot t (4*(w:Int)+(j:Nat))=((ji (W w))[j]?).getD 0:=fun j hj=>by unfold Arn.slot;rw [show ((t:Int)+(4*(w:Int)+(j:Nat))).toNat=t+4*w+j by omega,List.getD_eq_getElem?_getD,h.word w hw j hj]
 have s0:=sl 0 (by omega);have s1:=sl 1 (by omega);have s2:=sl 2 (by omega);have s3:=sl 3 (by omega);unfold Arn.cY;rw [if_pos hp];simp only [Int.natCast_zero,Int.add_zero,Int.natCast_one,Int.cast_ofNat_Int] at s0 s1 s2 s3;rw [s0,s1,s2,s3];exact Oe (by omega)
theorem Words.holds{A B:Arn}{s t n:Nat}{W:Nat->Nat}{x:List Nat}(h:Words A B t n W)(hx:eL A s x)(hap:∀ i,i < x.length->s+i < t\/t+4*n<=s+i):eL B s x:=
 ⟨by rw [h.live];exact hx.live,fun i hi=>by rw [h.out _ (hap i hi)];exact hx.get i hi⟩
theorem Words.self{A:Arn}{t n:Nat}(h:By A.bs)(hl:t+4*n<=A.bs.length):Words A A t n (fun w=>le4 (A.bs.getD (t+4*w) 0) (A.bs.getD (t+4*w+1) 0) (A.bs.getD (t+4*w+2) 0) (A.bs.getD (t+4*w+3) 0)):=by
 refine ⟨rfl,rfl,rfl,h,fun _ _=>rfl,fun w hw j hj=>?_⟩;have g:∀ i,i < A.bs.length->A.bs[i]?=some (A.bs.getD i 0)/\A.bs.getD i 0 < 256:=fun i hi=>by rw [List.getD_eq_getElem?_getD,List.getElem?_eq_getElem hi];exact ⟨rfl,h.get hi⟩
 have g0:=g (t+4*w) (by omega);have g1:=g (t+4*w+1) (by omega);have g2:=g (t+4*w+2) (by omega);have g3:=g (t+4*w+3) (by omega);unfold le4 ji;have:j=0\/j=1\/j=2\/j=3:=by omega
 rcases this with rfl | rfl | rfl | rfl
 ·rw [Nat.add_zero,g0.1];simp only [List.getElem?_cons_zero];congr 1;omega
 ·rw [g1.1];simp only [List.getElem?_cons_succ,List.getElem?_cons_zero];congr 1;omega
 ·rw [g2.1];simp only [List.getElem?_cons_succ,List.getElem?_cons_zero];congr 1;omega
 ·rw [g3.1];simp only [List.getElem?_cons_succ,List.getElem?_cons_zero];congr 1;omega
def slt(x:List Nat)(i k:Nat):Bool:=decide (x.drop i < x.drop k)
theorem rY(x:List Nat):Tot (slt x):=by
 refine ⟨fun a b h=>?_,fun a b c h1 h2=>?_⟩
 ·simp only [slt,decide_eq_true_eq,decide_eq_false_iff_not] at *;exact rW h
 ·simp only [slt,decide_eq_false_iff_not] at *;intro h3;rcases wv (x.drop a) (x.drop b) with h | h | h
  ·exact h2 (wz h3 h)
  ·exact h2 (h ▸ h3)
  ·exact h1 h
theorem Dl(x:List Nat):Tri (slt x) (x.length+1):=by
 intro a b ha hb h1 h2;simp only [slt,decide_eq_true_eq,decide_eq_false_iff_not] at *;rcases wv (x.drop a) (x.drop b) with h | h | h
 ·exact absurd h h1
 ·have:=congrArg List.length h;simp only [List.length_drop] at this;omega
 ·exact h
theorem SN{A:Arn}(h:By A.bs)(s z i:Int):A.cY s z i < 4294967296:=by
 unfold Arn.cY;split
 ·have h0:=Arn.jx h s (4*i);have h1:=Arn.jx h s (4*i+1);have h2:=Arn.jx h s (4*i+2);have h3:=Arn.jx h s (4*i+3);unfold le4;omega
 ·decide
def hB(r s m t z many:Nat):Blk:=.cells 0 false [arP r,.int .i64 s,.int .i64 m,.int .i64 t,.int .i64 z,.int .i64 many]
section
variable{hp:List Blk}{L:Nat}{H d:List Nat}{r q f:Nat}{A B:Arn}{s t z m many:Nat}{x:List Nat}
theorem fH(hF:Fit hp.length L H)(k:bF hp.length r q H A)(hf:hp[f]?=some (hB r s m t z many))(hr:r≠f)(hq:q≠f)(hid:H.contains f=false)(i:Int) :
  aN env (.func 124) [.pointer (some ⟨f,0,some 0⟩),.int .i64 i] ⟨put hp r q A,L,H,d⟩=some (.int .i64 (A.cY t z i),⟨put hp r q A,L,H,d⟩):=by have h1:=k.cJ;have h2:=k.cI;have hfl:f < hp.length:=(List.getElem?_eq_some_iff.1 hf).1;have hne:=k.ne;have hlt:=SN k.by_ t z i;rw [av 124 _ _ aag];simp (disch:=first|exact aQ|fail) only [sy,simprocAttr,-List.reduceReplicate,syR,Int.le_refl,hF.all,k.hr,k.hq,RA,hf,hid,hB,Bp]
theorem dB(hF:Fit hp.length L H)(k:bF hp.length r q H A)(hw:L<=r/\L<=q)(hf:hp[f]?=some (hB r s m t z many))(hr:r≠f)(hq:q≠f)(hid:H.contains f=false)(i:Int){v:Nat}(hv:v < 4294967296) :
  aN env (.func 177) [.pointer (some ⟨f,0,some 0⟩),.int .i64 i,.int .i64 v] ⟨put hp r q A,L,H,d⟩=some (.tuple #[],⟨put hp r q (A.bI t z i v),L,H,d⟩):=by have h1:=k.cJ;have h2:=k.cI;have hfl:f < hp.length:=(List.getElem?_eq_some_iff.1 hf).1;have hne:=k.ne;rw [av 177 _ _ aat];simp (disch:=first|exact aQ|fail) only [sy,simprocAttr,-List.reduceReplicate,syR,Int.le_refl,hF.all,k.hr,k.hq,RB,hf,hid,hB,Dg,hv]
end
end ArA
end Go.Proofs.YtgdpefeomemllaaGreat
end
section
namespace Go.Proofs.YtgdpefeomemllaaGreat
namespace ArA
open Go Go.RowKit AM aE
section
variable{hp:List Blk}{L:Nat}{H d:List Nat}{r q f:Nat}{A B:Arn}{s t z m many:Nat}{x:List Nat}
theorem eL.abB{A:Arn}{s:Nat}{x:List Nat}(h:eL A s x):A.kF s x.length x.length=0/\A.part s x.length x.length 1=false:=by
 have:A.part s x.length x.length 1=false:=by rw [Bool.eq_false_iff,ne_eq,Arn.dM];omega
 refine ⟨?_,this⟩;unfold Arn.kF;rw [if_neg (by rw [this];decide)]
theorem yZ(x:List Nat)(i:Nat):slt x i i=false:=by simp only [slt,decide_eq_false_iff_not];exact Dc _
theorem LA(x:List Nat){i:Nat}(h:i < x.length):slt x i x.length=false/\slt x x.length i=true:=by have:=Sy h;simp only [slt,decide_eq_true_eq,decide_eq_false_iff_not];exact ⟨rW this,this⟩
theorem JC(hF:Fit hp.length L H)(k:bF hp.length r q H A)(hx:eL A s x)(hm:x.length<=65536)(hf:hp[f]?=some (hB r s x.length t z many))(hr:r≠f)(hq:q≠f)(hid:H.contains f=false) :
  ∀ (n i j:Nat),i+n=x.length->j<=x.length->∀ v:Value,∃ fr,
  aG env vN [0,2,1] hp.length [(0,.pointer (some ⟨f,0,some 0⟩)),(2,.int .i64 j),(1,.int .i64 i)] ⟨put hp r q A,L,H,[]⟩ =
   some (.ret,fr,⟨put hp r q A,L,H,[]⟩)/\fr.get 6=some (.bool (slt x i j)):=by
 intro n;have h1:=k.cJ;have h2:=k.cI;have hfl:f < hp.length:=(List.getElem?_eq_some_iff.1 hf).1;have hne:=k.ne;have hE:=hx.abB;induction n with
 | zero=>
  intro i j hi hj v;have ei:i=x.length:=by omega
  subst ei;rw [ak vN.eq_1];by_cases c:j=x.length
  ·subst c;rw [yZ];simp (disch:=first|exact aQ|fail) only [sy,simprocAttr,-List.reduceReplicate,syR,Int.le_refl,hF.all,k.hr,k.hq,hf,hid,hB,eP,hE.1,hE.2];exact ⟨_,rfl,rfl⟩
  ·have hj2:j < x.length:=by omega
   rw [(LA x hj2).2];simp (disch:=first|exact aQ|fail) only [sy,simprocAttr,-List.reduceReplicate,syR,Int.le_refl,hF.all,k.hr,k.hq,hf,hid,hB,eP,hE.1,hE.2,hx.byte hj2,hx.part hj2];exact ⟨_,rfl,rfl⟩
 | succ n ih=>
  intro i j hi hj v;have hi2:i < x.length:=by omega
  have hbi:=k.by_.get (i:=s+i);rw [ak vN.eq_1];by_cases c:j=x.length
  ·subst c;rw [(LA x hi2).1];simp (disch:=first|exact aQ|fail) only [sy,simprocAttr,-List.reduceReplicate,syR,Int.le_refl,hF.all,k.hr,k.hq,hf,hid,hB,eP,hE.1,hE.2,hx.byte hi2,hx.part hi2];exact ⟨_,rfl,rfl⟩
  ·have hj2:j < x.length:=by omega
   by_cases c2:x[i]=x[j]
   ·by_cases c3:i=j
    ·subst c3;rw [yZ];simp (disch:=first|exact aQ|fail) only [sy,simprocAttr,-List.reduceReplicate,syR,Int.le_refl,hF.all,k.hr,k.hq,hf,hid,hB,eP,hx.byte hi2,hx.part hi2];exact ⟨_,rfl,rfl⟩
    ·have c4:¬ (i:Int)=j:=by omega
     have c5:(x[i]:Int)=(x[j]:Nat):=by rw [c2]
     obtain ⟨fr,e1,e2⟩:=ih (i+1) (j+1) (by omega) (by omega) v;have e3:slt x i j=slt x (i+1) (j+1):=by unfold slt;rw [decide_eq_decide];exact Od hi2 hj2 c2
     rw [e3];simp (disch:=first|exact aQ|fail) only [sy,simprocAttr,-List.reduceReplicate,syR,Int.le_refl,hF.all,k.hr,k.hq,hf,hid,hB,eP,hx.byte hi2,hx.part hi2,hx.byte hj2,hx.part hj2,c5,c4];exact ⟨fr,e1,e2⟩
   ·have c5:¬ (x[i]:Int)=(x[j]:Nat):=by omega
    have e3:slt x i j=decide ((x[i]:Int) < (x[j]:Nat)):=by unfold slt;rw [decide_eq_decide,Vr hi2 hj2 c2];omega
    rw [e3];simp (disch:=first|exact aQ|fail) only [sy,simprocAttr,-List.reduceReplicate,syR,Int.le_refl,hF.all,k.hr,k.hq,hf,hid,hB,eP,hx.byte hi2,hx.part hi2,hx.byte hj2,hx.part hj2,c5];exact ⟨_,rfl,rfl⟩
theorem gw(hF:Fit hp.length L H)(k:bF hp.length r q H A)(hx:eL A s x)(hm:x.length<=65536)(hf:hp[f]?=some (hB r s x.length t z many))(hr:r≠f)(hq:q≠f)(hid:H.contains f=false){i j:Nat}(hi:i<=x.length)(hj:j<=x.length) :
  aN env (.func 122) [.pointer (some ⟨f,0,some 0⟩),.int .i64 i,.int .i64 j] ⟨put hp r q A,L,H,d⟩=some (.bool (slt x i j),⟨put hp r q A,L,H,d⟩):=by have h1:=k.cJ;have h2:=k.cI;have hne:=k.ne;obtain ⟨fr,e1,e2⟩:=JC (hF:=hF.mono (Nat.le_refl _)) k hx hm hf hr hq hid (x.length - i) i j (by omega) hj (.bool false);rw [av 122 _ _ aae];simp (disch:=first|exact aQ|fail) only [sy,simprocAttr,-List.reduceReplicate,syR,Int.le_refl,hF.all,k.hr,k.hq,Rx,e1,e2]
end
end ArA
end Go.Proofs.YtgdpefeomemllaaGreat
end
