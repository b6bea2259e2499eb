/- Conditions: none. -/
import Derived.Test.YtgdpefeomemllaaGreatF9
set_option linter.all false
set_option maxRecDepth 100000
namespace Go.Proofs.YtgdpefeomemllaaGreat
namespace TpL
open Go Go.RowKit AM af
theorem XK:wD (qG dh iP 2000) 2000 [15,2,0,12,1,3,14] ld 8 29 f0 t0=some (f1,t1):=by kernel_rfl
theorem LR0:aX (.base dh) ld [15,2,0,12,1,3,14] 8 (ofL f0) t0=aX (.base dh) ld [15,2,0,12,1,3,14] 8 (ofL f1) t1:=uc (fT dK 2000) 29 _ _ _ _ XK
end TpL
namespace TpL
open Go Go.RowKit AM af
theorem XL:wD (qG dh iP 2000) 2000 [15,2,0,12,1,3,14] ld 8 19 f1 t1=some (f2,t2):=by kernel_rfl
theorem LR1:aX (.base dh) ld [15,2,0,12,1,3,14] 8 (ofL f1) t1=aX (.base dh) ld [15,2,0,12,1,3,14] 8 (ofL f2) t2:=uc (fT dK 2000) 19 _ _ _ _ XL
end TpL
namespace TpL
open Go Go.RowKit AM af
theorem acY:Un (qG dh iP 2000) 2000 [15,2,0,12,1,3,14] ld 8 40 f2 t2=some (.ret,f3,t3):=by kernel_rfl
theorem LE2:aX (.base dh) ld [15,2,0,12,1,3,14] 8 (ofL f2) t2=some (.ret,ofL f3,t3):=Mh (fT dK 2000) 40 _ _ _ _ _ acY (by decide)
end TpL
namespace TpL
open Go Go.RowKit AM af
def H2:List Blk:=[.cells 0 true ban,.cells 0 false [.slice (some ⟨0,0,some 0⟩) 6 1],.cells 55 true cB]
def HA:List Blk:=[.cells 0 true ban,.cells 0 false [.slice (some ⟨0,0,some 0⟩) 6 1],.cells 55 true cB,.cells 0 false [w64 6,w8 0,.pointer (some ⟨4,0,some 0⟩),.pointer (some ⟨6,0,some 0⟩),.pointer (some ⟨7,0,some 0⟩),.slice none 0 0,w64 0,w64 0,.int .u32 0,w64 0,.nilIface,w64 0,w64 0,.int .u32 0,w64 0],.cells 0 false [.slice (some ⟨5,0,some 0⟩) 6 1,w64 0,w64 0],.cells 0 true [w8 0,w8 0,w8 0,w8 0,w8 0,w8 0],.cells 0 false [.slice none 0 0,w64 0,w64 0,.bool false],.cells 0 true (List.append [w64 1] (List.append (List.replicate 9 (w64 0)) (List.append [.int .u32 0,w64 0] (List.append (List.replicate 258 (w8 0)) (List.append [w64 0,w64 0,w64 0,w64 0] (List.append (List.replicate 258 (w8 0)) (List.append [w64 0,w64 0] (List.append (List.replicate 256 (w8 0)) ([w64 0,w64 0,w64 0,.bool false,w64 0])))))))))]
theorem fnT:(Env.base dh).fn 13=some FK:=by kernel_rfl
theorem adR:aN (.base dh) (.func 43) [.int .i64 6] ⟨H2,0,[],[]⟩=some (.tuple #[.pointer (some ⟨3,0,some 0⟩),.int .i64 0],⟨HA,0,[],[]⟩):=L43
theorem UO:aX (.base dh) ld [15,2,0,12,1,3,14] HA.length [(15,.int .i64 0),(2,.int .i64 1),(0,.slice (some ⟨2,0,some 55⟩) 55 1),(12,.pointer (some ⟨3,0,some 0⟩)),(1,.int .i64 6),(3,.int .i64 6),(14,.slice none 0 0)] ⟨HA,0,[],[]⟩=some (.ret,ofL f3,t3):=
 LR0.trans (LR1.trans LE2)
theorem UP:bh (.base dh) FK.code (cj 0 [.slice (some ⟨2,0,some 55⟩) 55 1,.int .i64 6,.int .i64 1,.int .i64 6]) ⟨H2,0,[],[]⟩=some (.ret,ofL f3,{ t3 with ak:=aR [] t3.ak }):=by
 simp (disch:=first | exact AM.dis | fail) only [af.sy,simprocAttr,-List.reduceReplicate,FK,adR,UO]
theorem L13:aN (.base dh) (.func 13) a13 s13=some r13:=by
 rw [Cs fnT]
 show (bh (.base dh) FK.code (cj 0 [.slice (some ⟨2,0,some 55⟩) 55 1,.int .i64 6,.int .i64 1,.int .i64 6]) ⟨H2,0,[],[]⟩).bind (fin FK.results s13)=some r13
 rw [UP]
 kernel_rfl
end TpL
namespace TpL
open Go Go.RowKit AM af
theorem fnL:aal.fn 10=some aak:=by kernel_rfl
theorem acZ:qG dh (z9 12 a12 s12 r12 (z9 13 a13 s13 r13 (z9 15 a15 s15 r15 (z9 14 a14 s14 r14 iP)))) 100 (.func 10) [] ⟨[],0,[],[]⟩=some (.bool true,⟨[],0,[],[]⟩):=by kernel_rfl
theorem UQ:Iq Tryz.prog 10 (gW (.bool true)):=by
 obtain ⟨n,hn⟩:=oQ.1 (fT (kT L12 (kT L13 (kT L15 (kT L14 dK)))) 100 _ _ _ _ acZ)
 exact zQ XJ mixed Tryz.func10 Mr fnL (n:=n) (by rw [show run aal n (.func 10) [] ⟨[],0,[],[]⟩=some (.bool true,⟨[],0,[],[]⟩) from hn];rfl)
end TpL
end Go.Proofs.YtgdpefeomemllaaGreat
