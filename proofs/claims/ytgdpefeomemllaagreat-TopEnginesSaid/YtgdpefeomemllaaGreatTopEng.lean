/- Conditions: none. -/
import Derived.Test.YtgdpefeomemllaaGreatF11
set_option linter.all false
set_option maxRecDepth 100000
namespace Go.Proofs.YtgdpefeomemllaaGreat
open Go Go.RowKit Go.ChangeShapes Go.WideShapes Go.ChangeAt Go.Deep AM UeF
theorem uh:∀ t∈Tryz.f4.params.toList,Tryz.prog.readableRec t=true/\t < Tryz.prog.types.size:=by rw [Tryz.params4];simp only [List.forall_mem_cons,List.not_mem_nil,false_imp_iff,implies_true,and_true];exact ⟨⟨by kernel_rfl,by decide +kernel⟩,⟨by kernel_rfl,by decide +kernel⟩⟩
set_option maxRecDepth 100000 in
theorem sH(os:Os)(started:os.Started)(H:Type)(enc:TypeId×Value->H) :
  ReturnsInHanded {} Tryz.checked os 4 .any (Rows.topEnginesSpec.pre6 enc Tryz.prog Tryz.f4 Rows.topEnginesRow.domain false) (Rows.topEnginesSpec.post enc Tryz.prog Tryz.f4 false true false false):=by
 refine returnsInHanded_of_change (C:=Tryz.checked) TA started (by kernel_rfl) Tryz.func4
  (ChangeSpec.witness6 (enc:=enc) (C:=Tryz.checked) false ⟨#[],#[.slice none 0 0,.int .i64 0],[]⟩ 8 (by kernel_rfl) (by kernel_rfl) (by kernel_rfl) (by kernel_rfl)) ?_
 intro W base args ds gs before hval0 hW hcnd _;have hval:∀ (j:Nat) t v,Tryz.f4.params[j]?=some t->args[j]?=some v->Value.okWide Tryz.prog W .any base t v:=hval0;have hW':=hW;obtain ⟨p,q,hA0,hV,rfl,hfz,hnd⟩:=hW;have hA:DataW.TrodAll enc Tryz.prog W 0 (fun _=>true) true Tryz.f4.params.toList args.toList ds p:=hA0;rw [Tryz.params4] at hA hval;obtain ⟨v0,vs0,d0,ds0,p0,q0,hargs,rfl,rfl,h0,r0⟩:=trodAll_cons hA;obtain ⟨v1,vs1,d1,ds1,p1,q1,rfl,rfl,rfl,h1,r1⟩:=trodAll_cons r0;obtain ⟨rfl,rfl,rfl⟩:=trodAll_nil r1;obtain rfl:args=#[v0,v1]:=by cases args;simp_all
 obtain ⟨rfl,rfl⟩:=trodVars_none hV;have A0:=Argd.nil W;obtain ⟨B0,l0,c0,rfl,ha0,hb0,hc0,hd0,he0,hf0⟩:=Ad Tryz.underlying25 Tryz.underlying5 (by kernel_rfl) (hval 0 25 v0 rfl rfl) h0;obtain ⟨X0,bs0,w0,A1,R0⟩:=A0.bytes ha0 hb0 hc0 hd0 he0 hf0;obtain ⟨x1,rfl,hx1,hy1⟩:=TD Tryz.underlying3 (hval 1 3 v1 rfl rfl) h1;have A2:=A1.sc (v:=.int .i64 x1) rfl;refine (V6 UeK.jh UeK.mixed A2 (V0 R0 x1 hx1 hy1)).mono fun e W' ⟨he,hb⟩=>⟨_,he,?_⟩;exact TC (tb:=4) hW' TB uh rfl rfl Tryz.underlying4 rfl hb
theorem topEngines_holds:Rows.TopEnginesSaid:=
 OpenClaim.holds_of_wide 4 Tryz.f4 rfl rfl rfl rfl rfl rfl rfl ⟨rfl,rfl,rfl,rfl,rfl⟩ rfl rfl rfl rfl rfl (by kernel_rfl) Tryz.func4 (by kernel_rfl)
  (of_decide_eq_true (by kernel_rfl)) (by unfold Func.isWrapper;rw [if_neg (of_decide_eq_false (by kernel_rfl))];exact ⟨rfl,rfl⟩)
  (fun os started H enc _=>sH os started H enc)
end Go.Proofs.YtgdpefeomemllaaGreat
