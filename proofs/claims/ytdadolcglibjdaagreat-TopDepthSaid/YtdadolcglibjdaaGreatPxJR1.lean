/- Proved: for every fix, chain case and past, TopDepth of the given program returns true and leaves what it was given as it was. Conditions: none beyond the given statement TopDepthSaid. -/
import Derived.Test.YtdadolcglibjdaaGreatRows
import Derived.Test.YtdadolcglibjdaaGreatPxS
set_option linter.all false
namespace Go.Proofs.YtdadolcglibjdaaGreat
open Go.ChangeShapes Go.WideShapes Go.ChangeAt Go.RowKit Go.PX
theorem own:ownKnob Tryz.prog.godebug=none:=by kernel_rfl
theorem kids:Kids Tryz.prog (· < Tryz.prog.types.size):=kids_rows (by kernel_rfl) (by kernel_rfl)
theorem full:∀ t e,t<Tryz.prog.types.size->Tryz.prog.underlying t=some (.slice e)->0<Tryz.prog.cellsOf e:=slices_full_of Tryz.prog (by kernel_rfl)
set_option maxRecDepth 100000 in
theorem topDepth_lifted(os:Os)(started:os.Started)(H:Type)(enc:TypeId×Value->H) :
  ReturnsInHanded {} Tryz.checked os 3 .any (Rows.topDepthSpec.pre6 enc Tryz.prog Tryz.f3 Rows.topDepthRow.domain false) (Rows.topDepthSpec.post enc Tryz.prog Tryz.f3 false true false false):=by
 refine returnsInHanded_of_change_sized (C:=Tryz.checked) own started (by kernel_rfl) Tryz.func3
  (ChangeSpec.witness6 (enc:=enc) (C:=Tryz.checked) false ⟨#[],#[.agg #[.slice none 0 0,.slice none 0 0,.int .i64 0,.slice none 0 0,.slice none 0 0,.int .i64 0,.int .i64 0],.agg #[.slice none 0 0,.int .i64 0,.int .i64 0,.int .i64 0,.int .i64 0,.int .i64 0,.slice none 0 0,.int .i64 0,.int .i64 0,.int .i64 0,.int .i64 0,.int .i64 0,.slice none 0 0],.agg #[.int .u8 0,.int .u8 0,.slice none 0 0,.slice none 0 0]],[]⟩ 8 (by kernel_rfl) (by kernel_rfl) (by kernel_rfl) (by kernel_rfl)) ?_
 intro W base args ds gs before K8 hW YT ZQ _;have tP:∀ (j:Nat) t v,Tryz.f3.params[j]?=some t->args[j]?=some v->Value.okWide Tryz.prog W .any base t v:=K8;have Xs:=hW;obtain⟨p,q,Xn,hV,rfl,hfz,wD⟩:=hW;have hA:DataW.TrodAll enc Tryz.prog W 0 (fun _=>true) true Tryz.f3.params.toList args.toList ds p:=Xn;have Sn:=hA;rw[Tryz.params3]at hA tP;obtain⟨v0,v1,v2,d0,d1,d2,p0,p1,p2,rfl,rfl,rfl,h0,h1,h2⟩:=trodAll_three hA;obtain⟨rfl,rfl⟩:=trodVars_none hV;simp only[List.append_nil]at Xs Sn;have hz:=Km ZQ;rw[Tryz.params3]at hz;simp only[List.cons_append,List.nil_append,DataW.weightsEach]at hz;have XS:=(jY.1 hz).1;replace hz:=(jY.1 hz).2;have SK:=(jY.1 hz).1;replace hz:=(jY.1 hz).2;have ZV:=(jY.1 hz).1;replace hz:=(jY.1 hz).2;obtain⟨Yk,rfl,_⟩:=okWide_struct Tryz.underlying29 (tP 0 29 v0 rfl rfl);obtain⟨n0,g0⟩:=h0;obtain⟨_,⟨f,rfl⟩,r0⟩:=(R1 W).read g0;obtain⟨Yl,rfl,_⟩:=okWide_struct Tryz.underlying40 (tP 1 40 v1 rfl rfl);obtain⟨n1,g1⟩:=h1;obtain⟨_,⟨c,rfl⟩,r1⟩:=(Nk W).read g1;obtain⟨Ym,rfl,_⟩:=okWide_struct Tryz.underlying44 (tP 2 44 v2 rfl rfl);obtain⟨n2,g2⟩:=h2;obtain⟨_,⟨x,rfl,hx,hxz,XR⟩,r2⟩:=(J4 W).read g2 ZV;clear Xn K8;refine(top (Yx f c x hx (by omega) (by omega)) W (RU W) _ ⟨_,_,rfl,⟨Yk,rfl,r0⟩,_,_,rfl,⟨Yl,rfl,r1⟩,_,_,rfl,⟨Ym,rfl,r2⟩,rfl⟩).mono fun e W' ⟨x,he,⟨F',hx⟩,hs⟩=>?_;have hx:x = .bool true:=hx;subst he;subst hx;refine⟨_,rfl,?_⟩;refine⟨_,_,_,[],_,[],Xs,trodAll_mk1 (shut_bool Tryz.underlying4 _),pW (DataW.TrodAll.respare kids full (by rw[Tryz.params3];decide) Sn (fun p hp=>by simpa using Sn.lt p hp)) (fun p hp=>hs.sameAt (Sn.lt p hp)),rfl,hs.frame _,fun h=>by cases h⟩
theorem topDepth_holds:Rows.TopDepthSaid:=
 OpenClaim.holds_of_wide 3 Tryz.f3 rfl rfl rfl rfl rfl rfl rfl ⟨rfl,rfl,rfl,rfl,rfl⟩ rfl rfl rfl rfl rfl (by kernel_rfl) Tryz.func3 (by kernel_rfl)
  (of_decide_eq_true (by kernel_rfl)) (by unfold Func.isWrapper;first|(rw[if_pos (by decide +kernel)];kernel_rfl)|(rw[if_neg (by decide +kernel)];exact⟨rfl,rfl⟩))
  (fun os started H enc _=>topDepth_lifted os started H enc)
end Go.Proofs.YtdadolcglibjdaaGreat
