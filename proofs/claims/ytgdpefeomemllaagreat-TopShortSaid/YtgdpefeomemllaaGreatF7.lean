/- Conditions: none. -/
import Derived.Test.YtgdpefeomemllaaGreatF6
set_option linter.all false
set_option maxRecDepth 100000
namespace Go.Proofs.YtgdpefeomemllaaGreat
namespace TpL
open Go Go.RowKit AM fO
def w8(n:Int):Value:=.int .u8 n
def w64(n:Int):Value:=.int .i64 n
def ban:List Value:=[w8 98,w8 97,w8 110,w8 97,w8 110,w8 97]
def cB:List Value:=(List.append [w8 87,w8 80,w8 1,w8 6,w8 1,w8 6,w8 3,w8 3,w8 139,w8 103,w8 207,w8 51,w8 240] (List.append (List.replicate 11 (w8 0)) (List.append [w8 5,w8 71,w8 224,w8 5,w8 60] (List.append (List.replicate 17 (w8 0)) ([w8 1,w8 76,w8 79,w8 80,w8 0,w8 3,w8 139,w8 103,w8 207])))))
def abp:Value:=.agg (Array.mk (List.append [w8 3,w8 3] (List.append (List.replicate 97 (w8 0)) (List.append [w8 3,w8 3] (List.append (List.replicate 10 (w8 0)) (List.append [w8 2] (List.append (List.replicate 145 (w8 0)) ([w8 2]))))))))
def hq0:List Blk:=[.cells 0 true ban,.cells 0 false [.slice (some ⟨0,0,some 0⟩) 6 1]]
def hq1:List Blk:=List.append hq0 [.cells 55 true cB]
def hq2:List Blk:=List.append hq1 [.cells 6 true ban]
def hq3:List Blk:=List.append hq2 [.cells 0 true ban]
def hq4:List Blk:=List.append hq3 [.cells 6 true [w8 97,w8 110,w8 110,w8 98,w8 97,w8 97]]
def hq5:List Blk:=List.append hq4 [.cells 0 true ban]
def hq6:List Blk:=List.append hq5 [.cells 51 true (List.append [w8 1,w8 6,w8 3,w8 3,w8 139,w8 103,w8 207,w8 51,w8 240] (List.append (List.replicate 11 (w8 0)) (List.append [w8 5,w8 71,w8 224,w8 5,w8 60] (List.append (List.replicate 17 (w8 0)) ([w8 1,w8 76,w8 79,w8 80,w8 0,w8 3,w8 139,w8 103,w8 207]))))),.cells 0 true [w64 6],.cells 44 true (List.append [w8 51,w8 240] (List.append (List.replicate 11 (w8 0)) (List.append [w8 5,w8 71,w8 224,w8 5,w8 60] (List.append (List.replicate 17 (w8 0)) ([w8 1,w8 76,w8 79,w8 80,w8 0,w8 3,w8 139,w8 103,w8 207]))))),.cells 0 true [w64 4,w64 0,w64 0,w64 6,w64 3,.int .u32 59467727,w64 4],.cells 44 true (List.append [w8 51,w8 240] (List.append (List.replicate 11 (w8 0)) (List.append [w8 5,w8 71,w8 224,w8 5,w8 60] (List.append (List.replicate 17 (w8 0)) ([w8 1,w8 76,w8 79,w8 80,w8 0,w8 3,w8 139,w8 103,w8 207]))))),.cells 0 true [w64 4,w64 0,w64 0,w64 6,w64 3,.int .u32 59467727,w64 4]]
def hq7:List Blk:=List.append hq6 [.cells 352 true (List.append [w64 0,w64 0,w64 1,w64 1,w64 0,w64 0,w64 1,w64 1,w64 1,w64 1,w64 1,w64 1] (List.append (List.replicate 97 (w64 0)) (List.append [w64 1,w64 0,w64 1,w64 0,w64 1,w64 0,w64 0,w64 0,w64 1,w64 1,w64 1,w64 1,w64 1,w64 1] (List.append (List.replicate 10 (w64 0)) (List.append [w64 1,w64 0,w64 1,w64 0,w64 0,w64 1,w64 1,w64 1,w64 1] (List.append (List.replicate 145 (w64 0)) (List.append [w64 1,w64 0,w64 1,w64 0,w64 0,w64 1,w64 1,w64 0,w64 0,w64 0,w64 1,w64 0,w64 0,w64 1,w64 1,w64 1,w64 1,w64 0,w64 1,w64 0,w64 1] (List.append (List.replicate 18 (w64 0)) ([w64 1,w64 1,w64 1,w64 0,w64 0,w64 0,w64 1,w64 0,w64 1,w64 1,w64 0,w64 1,w64 1,w64 0,w64 0,w64 1,w64 1,w64 1,w64 1,w64 1,w64 0,w64 0,w64 1,w64 1,w64 1,w64 1])))))))))]
def hq8:List Blk:=List.append hq7 [.cells 0 true (List.append [w8 3,w8 3] (List.append (List.replicate 97 (w8 0)) (List.append [w8 3,w8 3] (List.append (List.replicate 10 (w8 0)) (List.append [w8 2] (List.append (List.replicate 145 (w8 0)) ([w8 2])))))))]
def hq9:List Blk:=List.append hq0 [.cells 0 false [w64 6,w64 6,w8 2,.pointer (some ⟨3,0,some 0⟩),.slice (some ⟨5,0,some 2⟩) 1 2,.int .u32 59467727,.int .u32 59467727,.bool true,.bool false],.cells 0 false [.slice (some ⟨4,0,some 0⟩) 6 1,w64 6,w64 6],.cells 0 true [w8 98,w8 110,w8 110,w8 97,w8 97,w8 97],.cells 2 true [w64 0,w64 6],.cells 4 true [w8 87,w8 80,w8 1,w8 6],.cells 0 false [.slice (some ⟨0,4,some 0⟩) 2 1],.cells 0 false [.slice (some ⟨0,4,some 0⟩) 2 1],.map [(w8 1,.func (.func 164) (Array.mk [.pointer (some ⟨2,0,some 0⟩)]) (Array.mk [])),(w8 2,.func (.func 164) (Array.mk [.pointer (some ⟨2,0,some 0⟩)]) (Array.mk [])),(w8 3,.func (.func 165) (Array.mk [.pointer (some ⟨2,0,some 0⟩)]) (Array.mk []))],.cells 0 true [w64 0,w64 6],.cells 7 true [w8 1,w8 6,w8 3,w8 3,w8 139,w8 103,w8 207],.cells 6 true [w8 98,w8 110,w8 110,w8 97,w8 97,w8 97],.cells 6 true [w64 99,w64 111,w64 0,w64 100,w64 1,w64 257],.cells 0 true (List.append [w64 1,w64 1] (List.append (List.replicate 97 (w64 0)) (List.append [w64 1,w64 1] (List.append (List.replicate 10 (w64 0)) (List.append [w64 1] (List.append (List.replicate 145 (w64 0)) ([w64 1]))))))),.cells 0 true (List.append [w8 3,w8 3] (List.append (List.replicate 97 (w8 0)) (List.append [w8 3,w8 3] (List.append (List.replicate 10 (w8 0)) (List.append [w8 2] (List.append (List.replicate 145 (w8 0)) ([w8 2])))))))]
def aet:List Value:=[.pointer (some ⟨16,0,some 0⟩),abp]
def aeu:St:=⟨(List.append hq9 [.cells 0 false [.slice none 0 0,w64 0]]),0,[],[9]⟩
def aev:Value×St:=(w64 0,⟨(List.append hq9 [.cells 0 false [.slice (some ⟨17,0,some 37⟩) 37 1,w64 292],.cells 37 true (List.append [w8 51,w8 240] (List.append (List.replicate 11 (w8 0)) (List.append [w8 5,w8 71,w8 224,w8 5,w8 60] (List.append (List.replicate 17 (w8 0)) ([w8 1,w8 64])))))]),0,[],[16,9]⟩)
def a20:List Value:=[.agg (Array.mk (List.append [w64 1,w64 1] (List.append (List.replicate 97 (w64 0)) (List.append [w64 1,w64 1] (List.append (List.replicate 10 (w64 0)) (List.append [w64 1] (List.append (List.replicate 145 (w64 0)) [w64 1]))))))),w64 15]
def s20:St:=⟨List.take 15 hq9,0,[],[9]⟩
def r20:Value×St:=(.tuple (Array.mk [abp,w64 0]),s20)
def a12:List Value:=[w64 6,w64 6,.slice (some ⟨1,0,some 0⟩) 1 1,w64 4]
def s12:St:=⟨hq0,0,[],[]⟩
def r12:Value×St:=(.tuple (Array.mk [.slice (some ⟨2,0,some 55⟩) 55 1,.bool true]),⟨hq1,0,[],[]⟩)
def a43:List Value:=[w64 6]
def s43:St:=⟨hq1,0,[],[]⟩
def r43:Value×St:=(.tuple (Array.mk [.pointer (some ⟨3,0,some 0⟩),w64 0]),⟨(List.append hq1 [.cells 0 false [w64 6,w8 0,.pointer (some ⟨4,0,some 0⟩),.pointer (some ⟨6,0,some 0⟩),.pointer (some ⟨7,0,some 0⟩),.slice none 0 0,w64 0,w64 0,.int .u32 0,w64 0,.nilIface,w64 0,w64 0,.int .u32 0,w64 0],.cells 0 false [.slice (some ⟨5,0,some 0⟩) 6 1,w64 0,w64 0],.cells 0 true [w8 0,w8 0,w8 0,w8 0,w8 0,w8 0],.cells 0 false [.slice none 0 0,w64 0,w64 0,.bool false],.cells 0 true (List.append [w64 1] (List.append (List.replicate 9 (w64 0)) (List.append [.int .u32 0,w64 0] (List.append (List.replicate 258 (w8 0)) (List.append [w64 0,w64 0,w64 0,w64 0] (List.append (List.replicate 258 (w8 0)) (List.append [w64 0,w64 0] (List.append (List.replicate 256 (w8 0)) ([w64 0,w64 0,w64 0,.bool false,w64 0])))))))))]),0,[],[]⟩)
def a13:List Value:=[.slice (some ⟨2,0,some 55⟩) 55 1,w64 6,w64 1,w64 6]
def s13:St:=⟨hq1,0,[],[]⟩
def r13:Value×St:=(.tuple (Array.mk [.slice (some ⟨3,0,some 6⟩) 6 1,w8 3,w64 0,.bool true]),⟨hq2,0,[],[]⟩)
def a15:List Value:=[.slice (some ⟨4,0,some 0⟩) 6 1]
def s15:St:=⟨hq3,0,[],[]⟩
def r15:Value×St:=(.tuple (Array.mk [.slice (some ⟨5,0,some 6⟩) 6 1,w64 4]),⟨hq4,0,[],[]⟩)
def aew:List Value:=[.slice (some ⟨11,0,some 44⟩) 44 1]
def aex:St:=⟨hq6,0,[],[]⟩
def aey:Value×St:=(.slice (some ⟨13,0,some 352⟩) 352 1,⟨hq7,0,[],[]⟩)
def aez:List Value:=[.slice (some ⟨13,0,some 352⟩) 352 1]
def aeA:St:=⟨hq7,0,[],[]⟩
def aeB:Value×St:=(.tuple (Array.mk [abp,w64 292,w64 0]),⟨hq7,0,[],[]⟩)
def aeC:List Value:=[w64 6,abp,.slice (some ⟨13,292,some 352⟩) 60 1]
def aeD:St:=⟨hq8,0,[],[]⟩
def aeE:Value×St:=(.tuple (Array.mk [.slice (some ⟨15,0,some 6⟩) 6 1,w64 16,w64 0]),⟨(List.append hq8 [.cells 6 true [w8 98,w8 110,w8 110,w8 97,w8 97,w8 97]]),0,[],[]⟩)
def a14:List Value:=[.slice (some ⟨2,0,some 55⟩) 55 1,.slice (some ⟨6,0,some 0⟩) 6 1]
def s14:St:=⟨hq5,0,[],[]⟩
def r14:Value×St:=(.bool true,⟨hq5,0,[],[]⟩)
end TpL
namespace TpL
open Go Go.RowKit AM fO
theorem aeF:ur iT (mT) 2000 (.func 146) aet aeu=some aev:=by kernel_rfl
theorem aii:fS (.base iT) (.func 146) aet aeu=some aev:=kQ (jm) 2000 _ _ _ _ aeF
theorem ahd:ur iT (mT) 2000 (.func 15) a15 s15=some r15:=by kernel_rfl
theorem L15:fS (.base iT) (.func 15) a15 s15=some r15:=kQ (jm) 2000 _ _ _ _ ahd
end TpL
namespace TpL
open Go Go.RowKit AM fO
theorem ahe:ur iT (mT) 2000 (.func 20) a20 s20=some r20:=by kernel_rfl
theorem L20:fS (.base iT) (.func 20) a20 s20=some r20:=kQ (jm) 2000 _ _ _ _ ahe
end TpL
end Go.Proofs.YtgdpefeomemllaaGreat
