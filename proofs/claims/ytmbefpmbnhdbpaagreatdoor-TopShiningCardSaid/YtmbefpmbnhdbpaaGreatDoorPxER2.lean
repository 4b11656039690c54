import Derived.Test.YtmbefpmbnhdbpaaGreatDoorCards
import Derived.Test.YtmbefpmbnhdbpaaGreatDoorTie
import Derived.SevenTiedAt
import Derived.ChangeMaps5
import Derived.Test.YtmbefpmbnhdbpaaGreatDoorPxJ
import Derived.Test.YtmbefpmbnhdbpaaGreatDoorPxQ
import Derived.Test.YtmbefpmbnhdbpaaGreatDoorPxX
set_option linter.all false
namespace Go.Proofs.YtmbefpmbnhdbpaaGreatDoor
open Go.ChangeShapes Go.WideShapes Go.ChangeAt Go.RowKit Go.PX
set_option maxRecDepth 100000 in
theorem topShining_lifted(os:Os)(started:os.Started)(H:Type)(enc:TypeId×Value->H) :
  ReturnsInHanded {} Tryz.checked os 4 .any (fun w args=>(Rows.topShiningSpec.pre enc Tryz.prog Tryz.f4 Rows.topShiningRow.domain false w args/\laidMetH Tryz.prog wY w)/\sizedMet enc Tryz.prog Tryz.f4 (OpenSpec.ofChange Rows.topShiningSpec) false w args) (Rows.topShiningSpec.post enc Tryz.prog Tryz.f4 false true false false):=by
 refine rn (C:=Tryz.checked) (X:=fun w _=>laidMetH Tryz.prog wY w) (fun _ _ _ hh h=>h.of_heap hh) own started (by kernel_rfl) Tryz.func4
  (ChangeSpec.witness_shaped (enc:=enc) (C:=Tryz.checked) (os:=os) (X:=fun w _=>laidMetH Tryz.prog wY w) false (World.laidAll Tryz.prog os wY) #[.agg #[.int .i64 0,.slice none 0 0],.agg #[.int .i64 0,.slice none 0 0,.int .i64 0,.int .i64 0,.int .i64 0,.int .i64 0,.int .i64 0,.int .i64 0,.slice none 0 0,.slice none 0 0],.agg #[.slice none 0 0,.slice none 0 0,.slice none 0 0,.int .u8 0,.int .u8 0,.int .u8 0]] 8 (World.laidAll_os _ _ _)
   (Bf os _) (by kernel_rfl) (by kernel_rfl) (by kernel_rfl) (DQ os _)) ?_
 intro W base args ds gs before Rq hW acg hwt hL OB;have MP:=KR hL OB;have uA:∀ (j:Nat) t v,Tryz.f4.params[j]?=some t->args[j]?=some v->Value.okWide Tryz.prog W .any base t v:=Rq;have hW':=hW;obtain⟨p,q,Su,hV,rfl,hfz,vj⟩:=hW;have hA:DataW.TrodAll enc Tryz.prog W 0 (fun _=>true) true Tryz.f4.params.toList args.toList ds p:=Su;have YK:=hA;rw[Tryz.params4]at hA uA;obtain⟨v0,v1,v2,d0,d1,d2,p0,p1,p2,rfl,rfl,rfl,h0,h1,h2⟩:=trodAll_three hA;obtain⟨rfl,rfl⟩:=trodVars_none hV;simp only[List.append_nil]at hW' YK;have hz:=QG hwt;rw[Tryz.params4]at hz;simp only[List.cons_append,List.nil_append,DataW.weightsEach]at hz;have TA:=(l6.1 hz).1;replace hz:=(l6.1 hz).2;have zn:=(l6.1 hz).1;replace hz:=(l6.1 hz).2;have hz2:=(l6.1 hz).1;replace hz:=(l6.1 hz).2;obtain⟨cs0,rfl,_⟩:=okWide_struct Tryz.underlying24 (uA 0 24 v0 rfl rfl);obtain⟨n0,g0⟩:=h0;obtain⟨_,⟨l,rfl⟩,r0⟩:=(Ym W).read g0;obtain⟨cs1,rfl,_⟩:=okWide_struct Tryz.underlying61 (uA 1 61 v1 rfl rfl);obtain⟨n1,g1⟩:=h1;obtain⟨_,⟨c,rfl⟩,r1⟩:=(Qn W).read g1;obtain⟨cs2,rfl,_⟩:=okWide_struct Tryz.underlying64 (uA 2 64 v2 rfl rfl);obtain⟨n2,g2⟩:=h2;obtain⟨_,⟨v,x,y,w1,w2,g,rfl,hv,hx,hy,Dc,E9,hg⟩,r2⟩:=(HR W).read g2 hz2;clear Su Rq;refine(top (te4 l c v x y w1 w2 g hv hx hy Dc E9) W MP _ ⟨_,_,rfl,⟨cs0,rfl,r0⟩,_,_,rfl,⟨cs1,rfl,r1⟩,_,_,rfl,⟨cs2,rfl,r2⟩,rfl⟩).mono fun e W' ⟨x,he,⟨F',hx⟩,hs⟩=>?_;have hx:x = .bool true:=hx;subst he;subst hx;refine⟨_,rfl,?_⟩;refine⟨_,_,_,[],_,[],hW',trodAll_mk1 (shut_bool Tryz.underlying4 _),sK (DataW.TrodAll.respare kids full (by rw[Tryz.params4];decide) YK (fun p hp=>by simpa using YK.lt p hp)) (fun p hp=>hs.sameAt (YK.lt p hp)),rfl,hs.frame _,fun h=>by cases h⟩
theorem topShining_holds:Rows.TopShiningSaid:=
 OpenClaim.holds_of_wide 4 Tryz.f4 rfl rfl rfl rfl rfl rfl rfl ⟨rfl,rfl,rfl,rfl,rfl⟩ rfl rfl rfl rfl rfl (by kernel_rfl) Tryz.func4 (by kernel_rfl)
  (of_decide_eq_true (by kernel_rfl)) (by unfold Func.isWrapper;first|(rw[if_pos (by decide +kernel)];kernel_rfl)|(rw[if_neg (by decide +kernel)];exact⟨rfl,rfl⟩))
  (fun os started H enc _=>topShining_lifted os started H enc)
theorem topShining_card:Rows.TopShiningCardSaid:=
 Claim7.holds_tied_plain_at .later [] [.data, .data, .data, .data, .sentinel, .sentinel, .pinned] true (true, "f701387d0af9c7eec2d7ff0c35ba208c12851f160270143d8c17c5ec2f6ae7b4") true topShining_holds (fun _ h => by cases h) (by kernel_rfl) (fun _ h => by cases h) topShining_row_tie rfl ⟨rfl, rfl⟩ (by kernel_rfl) rfl
  (fun f fn hf hfn=>by
   obtain rfl : f = 4 := Option.some.inj ((show Tryz.prog.funcNamed "nore/noretop.TopShining" = some 4 by kernel_rfl).symm.trans hf) |>.symm
   obtain rfl:fn=Tryz.f4:=(Option.some.inj (Tryz.func4.symm.trans hfn)).symm;exact⟨by kernel_rfl,fun j t ht=>by
    rw[Tryz.params4]at ht;have hm:t ∈ [24,61,64]:=by simpa using Array.mem_of_getElem? ht
    have cR:(([24,61,64]:List TypeId).all fun u=>!Tryz.prog.wantsStandIn u)=true:=by kernel_rfl
    exact(show Tryz.prog.wantsStandIn t=false by simpa using List.all_eq_true.1 cR t hm)⟩)
  (by kernel_rfl)
end Go.Proofs.YtmbefpmbnhdbpaaGreatDoor
