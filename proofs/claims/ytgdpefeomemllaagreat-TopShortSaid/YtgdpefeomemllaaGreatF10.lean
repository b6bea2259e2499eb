/- Conditions: none. -/
import Derived.Test.YtgdpefeomemllaaGreatF9
set_option linter.all false
set_option maxRecDepth 100000
namespace Go.Proofs.YtgdpefeomemllaaGreat
namespace TpL
open Go Go.RowKit AM fO
theorem abq:AL (ur iT mT 2000) 2000 [15,2,0,12,1,3,14] qd 8 29 f0 t0=some (f1,t1):=by kernel_rfl
theorem LR0:fW (.base iT) qd [15,2,0,12,1,3,14] 8 (ofL f0) t0=fW (.base iT) qd [15,2,0,12,1,3,14] 8 (ofL f1) t1:=yp (kQ jm 2000) 29 _ _ _ _ abq
end TpL
namespace TpL
open Go Go.RowKit AM fO
theorem abr:AL (ur iT mT 2000) 2000 [15,2,0,12,1,3,14] qd 8 19 f1 t1=some (f2,t2):=by kernel_rfl
theorem LR1:fW (.base iT) qd [15,2,0,12,1,3,14] 8 (ofL f1) t1=fW (.base iT) qd [15,2,0,12,1,3,14] 8 (ofL f2) t2:=yp (kQ jm 2000) 19 _ _ _ _ abr
end TpL
namespace TpL
open Go Go.RowKit AM fO
theorem ahi:YC (ur iT mT 2000) 2000 [15,2,0,12,1,3,14] qd 8 40 f2 t2=some (.ret,f3,t3):=by kernel_rfl
theorem LE2:fW (.base iT) qd [15,2,0,12,1,3,14] 8 (ofL f2) t2=some (.ret,ofL f3,t3):=QG (kQ jm 2000) 40 _ _ _ _ _ ahi (by decide)
end TpL
namespace TpL
open Go Go.RowKit AM fO
def H2:List Blk:=[.cells 0 true ban,.cells 0 false [.slice (some ⟨0,0,some 0⟩) 6 1],.cells 55 true cB]
def HA:List Blk:=[.cells 0 true ban,.cells 0 false [.slice (some ⟨0,0,some 0⟩) 6 1],.cells 55 true cB,.cells 0 false [w64 6,w8 0,.pointer (some ⟨4,0,some 0⟩),.pointer (some ⟨6,0,some 0⟩),.pointer (some ⟨7,0,some 0⟩),.slice none 0 0,w64 0,w64 0,.int .u32 0,w64 0,.nilIface,w64 0,w64 0,.int .u32 0,w64 0],.cells 0 false [.slice (some ⟨5,0,some 0⟩) 6 1,w64 0,w64 0],.cells 0 true [w8 0,w8 0,w8 0,w8 0,w8 0,w8 0],.cells 0 false [.slice none 0 0,w64 0,w64 0,.bool false],.cells 0 true (List.append [w64 1] (List.append (List.replicate 9 (w64 0)) (List.append [.int .u32 0,w64 0] (List.append (List.replicate 258 (w8 0)) (List.append [w64 0,w64 0,w64 0,w64 0] (List.append (List.replicate 258 (w8 0)) (List.append [w64 0,w64 0] (List.append (List.replicate 256 (w8 0)) ([w64 0,w64 0,w64 0,.bool false,w64 0])))))))))]
theorem fnT:(Env.base iT).fn 13=some NA:=by kernel_rfl
theorem aim:fS (.base iT) (.func 43) [.int .i64 6] ⟨H2,0,[],[]⟩=some (.tuple #[.pointer (some ⟨3,0,some 0⟩),.int .i64 0],⟨HA,0,[],[]⟩):=L43
theorem Y1:fW (.base iT) qd [15,2,0,12,1,3,14] HA.length [(15,.int .i64 0),(2,.int .i64 1),(0,.slice (some ⟨2,0,some 55⟩) 55 1),(12,.pointer (some ⟨3,0,some 0⟩)),(1,.int .i64 6),(3,.int .i64 6),(14,.slice none 0 0)] ⟨HA,0,[],[]⟩=some (.ret,ofL f3,t3):=
 LR0.trans (LR1.trans LE2)
theorem Y2:ga (.base iT) NA.code (gS 0 [.slice (some ⟨2,0,some 55⟩) 55 1,.int .i64 6,.int .i64 1,.int .i64 6]) ⟨H2,0,[],[]⟩=some (.ret,ofL f3,{ t3 with fA:=fX [] t3.fA }):=by simp(disch:=first|exact dis|fail) only[sy,simprocAttr,-List.reduceReplicate,NA,aim,Y1]
theorem L13:fS (.base iT) (.func 13) a13 s13=some r13:=by rw[F5 fnT];show(ga (.base iT) NA.code (gS 0 [.slice (some ⟨2,0,some 55⟩) 55 1,.int .i64 6,.int .i64 1,.int .i64 6]) ⟨H2,0,[],[]⟩).bind (fin NA.results s13)=some r13;rw[Y2];kernel_rfl
end TpL
namespace TpL
open Go Go.RowKit AM fO
theorem fnL:aes.fn 10=some aha:=by kernel_rfl
theorem ahj:ur iT (Di 12 a12 s12 r12 (Di 13 a13 s13 r13 (Di 15 a15 s15 r15 (Di 14 a14 s14 r14 mT)))) 100 (.func 10) [] ⟨[],0,[],[]⟩=some (.bool true,⟨[],0,[],[]⟩):=by kernel_rfl
theorem Y3:MB Tryz.prog 10 (mL (.bool true)):=by obtain⟨n,hn⟩:=tY.1 (kQ (ow L12 (ow L13 (ow L15 (ow L14 jm)))) 100 _ _ _ _ ahj);exact DF abo mixed Tryz.func10 QT fnL (n:=n) (by rw[show run aes n (.func 10) [] ⟨[],0,[],[]⟩=some (.bool true,⟨[],0,[],[]⟩) from hn];rfl)
end TpL
end Go.Proofs.YtgdpefeomemllaaGreat
