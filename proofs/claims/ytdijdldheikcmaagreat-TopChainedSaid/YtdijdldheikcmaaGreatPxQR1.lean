import Derived.Test.YtdijdldheikcmaaGreatRows
import Derived.Test.YtdijdldheikcmaaGreatPxR
set_option linter.all false
namespace Go.Proofs.YtdijdldheikcmaaGreat
open Go.ChangeShapes Go.WideShapes Go.ChangeAt Go.RowKit Go.PX
theorem own:ownKnob Tryz.prog.godebug=none:=by kernel_rfl
theorem kids:Kids Tryz.prog (· < Tryz.prog.types.size):=kids_rows (by kernel_rfl) (by kernel_rfl)
theorem full:∀ t e,t<Tryz.prog.types.size->Tryz.prog.underlying t=some (.slice e)->0<Tryz.prog.cellsOf e:=slices_full_of Tryz.prog (by kernel_rfl)
set_option maxRecDepth 100000 in
theorem topChained_lifted(os:Os)(started:os.Started)(H:Type)(enc:TypeId×Value->H) :
  ReturnsInHanded {} Tryz.checked os 3 .any (Rows.topChainedSpec.pre6 enc Tryz.prog Tryz.f3 Rows.topChainedRow.domain false) (Rows.topChainedSpec.post enc Tryz.prog Tryz.f3 false true false false):=by
 refine returnsInHanded_of_change_sized (C:=Tryz.checked) own started (by kernel_rfl) Tryz.func3
  (ChangeSpec.witness6 (enc:=enc) (C:=Tryz.checked) false ⟨#[],#[.agg #[.slice none 0 0,.int .i64 0,.int .i64 0,.int .i64 0,.int .i64 0,.int .i64 0,.slice none 0 0,.int .i64 0,.int .i64 0,.int .i64 0,.int .i64 0,.int .i64 0,.slice none 0 0],.agg #[.slice none 0 0,.slice none 0 0,.int .i64 0,.int .i64 0,.int .i64 0,.int .i64 0,.int .i64 0,.int .i64 0,.int .i64 0],.agg #[.int .u8 0,.int .u8 0,.slice none 0 0]],[]⟩ 8 (by kernel_rfl) (by kernel_rfl) (by kernel_rfl) (by kernel_rfl)) ?_
 intro W base args ds gs before IX hW VO WH _;have sf:∀ (j:Nat) t v,Tryz.f3.params[j]?=some t->args[j]?=some v->Value.okWide Tryz.prog W .any base t v:=IX;have Uw:=hW;obtain⟨p,q,Up,hV,rfl,Xf,vR⟩:=hW;have hA:DataW.TrodAll enc Tryz.prog W 0 (fun _=>true) true Tryz.f3.params.toList args.toList ds p:=Up;have Pz:=hA;rw[Tryz.params3]at hA sf;obtain⟨v0,v1,v2,d0,d1,d2,p0,p1,p2,rfl,rfl,rfl,h0,h1,h2⟩:=trodAll_three hA;obtain⟨rfl,rfl⟩:=trodVars_none hV;simp only[List.append_nil]at Uw Pz;have hz:=Il WH;rw[Tryz.params3]at hz;simp only[List.cons_append,List.nil_append,DataW.weightsEach]at hz;have U0:=(jf.1 hz).1;replace hz:=(jf.1 hz).2;have PV:=(jf.1 hz).1;replace hz:=(jf.1 hz).2;have WQ:=(jf.1 hz).1;replace hz:=(jf.1 hz).2;obtain⟨Vo,rfl,_⟩:=okWide_struct Tryz.underlying32 (sf 0 32 v0 rfl rfl);obtain⟨n0,g0⟩:=h0;obtain⟨_,⟨c,rfl⟩,r0⟩:=(K0 W).read g0;obtain⟨Vp,rfl,_⟩:=okWide_struct Tryz.underlying40 (sf 1 40 v1 rfl rfl);obtain⟨n1,g1⟩:=h1;obtain⟨_,⟨m,rfl⟩,r1⟩:=(K5 W).read g1;obtain⟨Vq,rfl,_⟩:=okWide_struct Tryz.underlying44 (sf 2 44 v2 rfl rfl);obtain⟨n2,g2⟩:=h2;obtain⟨_,⟨x,rfl,hx,Xy⟩,r2⟩:=(HS W).read g2 WQ;clear Up IX;refine(top (WZ c m x hx (by omega)) W (OL W) _ ⟨_,_,rfl,⟨Vo,rfl,r0⟩,_,_,rfl,⟨Vp,rfl,r1⟩,_,_,rfl,⟨Vq,rfl,r2⟩,rfl⟩).mono fun e W' ⟨x,he,⟨F',hx⟩,hs⟩=>?_;have hx:x = .bool true:=hx;subst he;subst hx;refine⟨_,rfl,?_⟩;refine⟨_,_,_,[],_,[],Uw,trodAll_mk1 (shut_bool Tryz.underlying4 _),ou (DataW.TrodAll.respare kids full (by rw[Tryz.params3];decide) Pz (fun p hp=>by simpa using Pz.lt p hp)) (fun p hp=>hs.sameAt (Pz.lt p hp)),rfl,hs.frame _,fun h=>by cases h⟩
theorem topChained_holds:Rows.TopChainedSaid:=
 OpenClaim.holds_of_wide 3 Tryz.f3 rfl rfl rfl rfl rfl rfl rfl ⟨rfl,rfl,rfl,rfl,rfl⟩ rfl rfl rfl rfl rfl (by kernel_rfl) Tryz.func3 (by kernel_rfl)
  (of_decide_eq_true (by kernel_rfl)) (by unfold Func.isWrapper;first|(rw[if_pos (by decide +kernel)];kernel_rfl)|(rw[if_neg (by decide +kernel)];exact⟨rfl,rfl⟩))
  (fun os started H enc _=>topChained_lifted os started H enc)
end Go.Proofs.YtdijdldheikcmaaGreat
