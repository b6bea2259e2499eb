/- Conditions: none. -/
import Derived.Test.YtgdpefeomemllaaGreatF9
set_option linter.all false
set_option maxRecDepth 100000
namespace Go.Proofs.YtgdpefeomemllaaGreat
namespace TpL
open Go Go.RowKit AM aE
theorem Wk:wD (pM cM gY 2000) 2000 [15,2,0,12,1,3,14] k7 8 29 f0 t0=some (f1,t1):=by kernel_rfl
theorem LR0:aG (.base cM) k7 [15,2,0,12,1,3,14] 8 (ofL f0) t0=aG (.base cM) k7 [15,2,0,12,1,3,14] 8 (ofL f1) t1:=ue (eW dh 2000) 29 _ _ _ _ Wk
end TpL
namespace TpL
open Go Go.RowKit AM aE
theorem Wl:wD (pM cM gY 2000) 2000 [15,2,0,12,1,3,14] k7 8 19 f1 t1=some (f2,t2):=by kernel_rfl
theorem LR1:aG (.base cM) k7 [15,2,0,12,1,3,14] 8 (ofL f1) t1=aG (.base cM) k7 [15,2,0,12,1,3,14] 8 (ofL f2) t2:=ue (eW dh 2000) 19 _ _ _ _ Wl
end TpL
namespace TpL
open Go Go.RowKit AM aE
theorem acd:Tz (pM cM gY 2000) 2000 [15,2,0,12,1,3,14] k7 8 40 f2 t2=some (.ret,f3,t3):=by kernel_rfl
theorem LE2:aG (.base cM) k7 [15,2,0,12,1,3,14] 8 (ofL f2) t2=some (.ret,ofL f3,t3):=LY (eW dh 2000) 40 _ _ _ _ _ acd (by decide)
end TpL
namespace TpL
open Go Go.RowKit AM aE
def H2:List Blk:=[.cells 0 true ban,.cells 0 false [.slice (some ⟨0,0,some 0⟩) 6 1],.cells 55 true cB]
def HA:List Blk:=[.cells 0 true ban,.cells 0 false [.slice (some ⟨0,0,some 0⟩) 6 1],.cells 55 true cB,.cells 0 false [w64 6,w8 0,.pointer (some ⟨4,0,some 0⟩),.pointer (some ⟨6,0,some 0⟩),.pointer (some ⟨7,0,some 0⟩),.slice none 0 0,w64 0,w64 0,.int .u32 0,w64 0,.nilIface,w64 0,w64 0,.int .u32 0,w64 0],.cells 0 false [.slice (some ⟨5,0,some 0⟩) 6 1,w64 0,w64 0],.cells 0 true [w8 0,w8 0,w8 0,w8 0,w8 0,w8 0],.cells 0 false [.slice none 0 0,w64 0,w64 0,.bool false],.cells 0 true (List.append [w64 1] (List.append (List.replicate 9 (w64 0)) (List.append [.int .u32 0,w64 0] (List.append (List.replicate 258 (w8 0)) (List.append [w64 0,w64 0,w64 0,w64 0] (List.append (List.replicate 258 (w8 0)) (List.append [w64 0,w64 0] (List.append (List.replicate 256 (w8 0)) ([w64 0,w64 0,w64 0,.bool false,w64 0])))))))))]
theorem fnT:(Env.base cM).fn 13=some Jf:=by kernel_rfl
theorem ac6:aN (.base cM) (.func 43) [.int .i64 6] ⟨H2,0,[],[]⟩=some (.tuple #[.pointer (some ⟨3,0,some 0⟩),.int .i64 0],⟨HA,0,[],[]⟩):=L43
theorem TX:aG (.base cM) k7 [15,2,0,12,1,3,14] HA.length [(15,.int .i64 0),(2,.int .i64 1),(0,.slice (some ⟨2,0,some 55⟩) 55 1),(12,.pointer (some ⟨3,0,some 0⟩)),(1,.int .i64 6),(3,.int .i64 6),(14,.slice none 0 0)] ⟨HA,0,[],[]⟩=some (.ret,ofL f3,t3):=
 LR0.trans (LR1.trans LE2)
theorem TY:aZ (.base cM) Jf.code (bX 0 [.slice (some ⟨2,0,some 55⟩) 55 1,.int .i64 6,.int .i64 1,.int .i64 6]) ⟨H2,0,[],[]⟩=some (.ret,ofL f3,{ t3 with af:=aO [] t3.af }):=by simp (disch:=first|exact dis|fail) only [sy,simprocAttr,-List.reduceReplicate,Jf,ac6,TX]
theorem L13:aN (.base cM) (.func 13) a13 s13=some r13:=by rw [Cs fnT];show (aZ (.base cM) Jf.code (bX 0 [.slice (some ⟨2,0,some 55⟩) 55 1,.int .i64 6,.int .i64 1,.int .i64 6]) ⟨H2,0,[],[]⟩).bind (fin Jf.results s13)=some r13;rw [TY];kernel_rfl
end TpL
namespace TpL
open Go Go.RowKit AM aE
theorem fnL:Zm.fn 10=some ab2:=by kernel_rfl
theorem ace:pM cM (zx 12 a12 s12 r12 (zx 13 a13 s13 r13 (zx 15 a15 s15 r15 (zx 14 a14 s14 r14 gY)))) 100 (.func 10) [] ⟨[],0,[],[]⟩=some (.bool true,⟨[],0,[],[]⟩):=by kernel_rfl
theorem TZ:H9 Tryz.prog 10 (gR (.bool true)):=by obtain ⟨n,hn⟩:=oZ.1 (eW (jC L12 (jC L13 (jC L15 (jC L14 dh)))) 100 _ _ _ _ ace);exact zS Wi mixed Tryz.func10 L7 fnL (n:=n) (by rw [show run Zm n (.func 10) [] ⟨[],0,[],[]⟩=some (.bool true,⟨[],0,[],[]⟩) from hn];rfl)
end TpL
end Go.Proofs.YtgdpefeomemllaaGreat
