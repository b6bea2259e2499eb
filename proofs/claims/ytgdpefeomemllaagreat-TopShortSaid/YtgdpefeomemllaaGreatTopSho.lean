/- Conditions: none. -/
import Derived.Test.YtgdpefeomemllaaGreatF11
set_option linter.all false
set_option maxRecDepth 100000
namespace Go.Proofs.YtgdpefeomemllaaGreat
open Go Go.RowKit Go.ChangeShapes Go.WideShapes Go.ChangeAt Go.Deep AM TwZ
theorem Dv:∀ t∈Tryz.f5.params.toList,Tryz.prog.readableRec t=true/\t < Tryz.prog.types.size:=by rw[Tryz.params5];simp only[List.forall_mem_cons,bJ,false_imp_iff,implies_true,and_true];exact⟨⟨by kernel_rfl,by decide +kernel⟩,⟨by kernel_rfl,by decide +kernel⟩⟩
set_option maxRecDepth 100000 in
theorem zL(os:Os)(started:os.Started)(H:Type)(enc:TypeId×Value->H) :
  ReturnsInHanded {} Tryz.checked os 5 .any (Rows.topShortSpec.pre6 enc Tryz.prog Tryz.f5 Rows.topShortRow.domain false) (Rows.topShortSpec.post enc Tryz.prog Tryz.f5 false true false false):=by
 refine returnsInHanded_of_change (C:=Tryz.checked) YE started (by kernel_rfl) Tryz.func5
  (ChangeSpec.witness6 (enc:=enc) (C:=Tryz.checked) false ⟨#[],#[.slice none 0 0,.slice none 0 0],[]⟩ 8 (by kernel_rfl) (by kernel_rfl) (by kernel_rfl) (by kernel_rfl)) ?_
 intro W base args ds gs before hval0 hW hcnd _;have hval:∀ (j:Nat) t v,Tryz.f5.params[j]?=some t->args[j]?=some v->Value.okWide Tryz.prog W .any base t v:=hval0;have hW':=hW;obtain⟨p,q,hA0,hV,rfl,hfz,hnd⟩:=hW;have hA:DataW.TrodAll enc Tryz.prog W 0 (fun _=>true) true Tryz.f5.params.toList args.toList ds p:=hA0;rw[Tryz.params5] at hA hval;obtain⟨v0,vs0,d0,ds0,p0,q0,hargs,rfl,rfl,h0,r0⟩:=trodAll_cons hA;obtain⟨v1,vs1,d1,ds1,p1,q1,rfl,rfl,rfl,h1,r1⟩:=trodAll_cons r0;obtain⟨rfl,rfl,rfl⟩:=trodAll_nil r1;obtain rfl:args=#[v0,v1]:=by cases args;simp_all
 obtain⟨rfl,rfl⟩:=trodVars_none hV;have A0:=Argd.nil W;obtain⟨B0,l0,c0,rfl,ha0,hb0,hc0,hd0,he0,hf0⟩:=DX Tryz.underlying25 Tryz.underlying5 (by kernel_rfl) (hval 0 25 v0 rfl rfl) h0;obtain⟨X0,bs0,w0,A1,R0⟩:=A0.bytes ha0 hb0 hc0 hd0 he0 hf0;obtain⟨B1,l1,c1,rfl,ha1,hc1,hd1,he1,hf1⟩:=open_introws Tryz.underlying37 Tryz.underlying3 (by kernel_rfl) (hval 1 37 v1 rfl rfl) h1;obtain⟨X1,bs1,w1,A2,R1⟩:=A1.cells ha1 (ints_sc .i64 l1) hc1 hd1 he1 hf1;refine(abd TxK.nX TxK.mixed A2 (TQ R0 l1 w1 R1)).mono fun e W' ⟨he,hb⟩=>⟨_,he,?_⟩;exact YG (tb:=4) hW' YF Dv rfl rfl Tryz.underlying4 rfl hb
theorem topShort_holds:Rows.TopShortSaid:=
 OpenClaim.holds_of_wide 5 Tryz.f5 rfl rfl rfl rfl rfl rfl rfl ⟨rfl,rfl,rfl,rfl,rfl⟩ rfl rfl rfl rfl rfl (by kernel_rfl) Tryz.func5 (by kernel_rfl)
  (of_decide_eq_true (by kernel_rfl)) (by unfold Func.isWrapper;rw[if_neg (of_decide_eq_false (by kernel_rfl))];exact⟨rfl,rfl⟩)
  (fun os started H enc _=>zL os started H enc)
end Go.Proofs.YtgdpefeomemllaaGreat
