import Derived.Test.YtmbefpmbnhdbpaaGreatDoorCards
import Derived.Test.YtmbefpmbnhdbpaaGreatDoorTie
import Derived.SevenTiedAt
import Derived.ChangeMaps5
import Derived.Test.YtmbefpmbnhdbpaaGreatDoorPxJ
import Derived.Test.YtmbefpmbnhdbpaaGreatDoorPxM
import Derived.Test.YtmbefpmbnhdbpaaGreatDoorPxW
set_option linter.all false
namespace Go.Proofs.YtmbefpmbnhdbpaaGreatDoor
open Go.ChangeShapes Go.WideShapes Go.ChangeAt Go.RowKit Go.PX
set_option maxRecDepth 100000 in
theorem topStood_lifted(os:Os)(started:os.Started)(H:Type)(enc:TypeId×Value->H) :
  ReturnsInHanded {} Tryz.checked os 3 .any (fun w args=>(Rows.topStoodSpec.pre enc Tryz.prog Tryz.f3 Rows.topStoodRow.domain false w args/\laidMetH Tryz.prog vy w)/\sizedMet enc Tryz.prog Tryz.f3 (OpenSpec.ofChange Rows.topStoodSpec) false w args) (Rows.topStoodSpec.post enc Tryz.prog Tryz.f3 false true false false):=by
 refine qj (C:=Tryz.checked) (X:=fun w _=>laidMetH Tryz.prog vy w) (fun _ _ _ hh h=>h.of_heap hh) own started (by kernel_rfl) Tryz.func3
  (ChangeSpec.witness_shaped (enc:=enc) (C:=Tryz.checked) (os:=os) (X:=fun w _=>laidMetH Tryz.prog vy w) false (World.laidAll Tryz.prog os vy) #[.agg #[.int .i64 0,.slice none 0 0],.agg #[.slice none 0 0,.slice none 0 0,.int .i64 0,.int .i64 0],.agg #[.slice none 0 0,.slice none 0 0,.int .u8 0,.int .u8 0,.int .u8 0]] 8 (World.laidAll_os _ _ _)
   (zW os _) (by kernel_rfl) (by kernel_rfl) (by kernel_rfl) (Cw os _)) ?_
 intro W base args ds gs before P6 hW aba hwt hL JZ;have Lr:=Jx hL JZ;have th:∀ (j:Nat) t v,Tryz.f3.params[j]?=some t->args[j]?=some v->Value.okWide Tryz.prog W .any base t v:=P6;have hW':=hW;obtain⟨p,q,hA0,hV,rfl,hfz,tZ⟩:=hW;have hA:DataW.TrodAll enc Tryz.prog W 0 (fun _=>true) true Tryz.f3.params.toList args.toList ds p:=hA0;have WW:=hA;rw[Tryz.params3]at hA th;obtain⟨v0,v1,v2,d0,d1,d2,p0,p1,p2,rfl,rfl,rfl,h0,h1,h2⟩:=trodAll_three hA;obtain⟨rfl,rfl⟩:=trodVars_none hV;simp only[List.append_nil]at hW' WW;have hz:=Pd hwt;rw[Tryz.params3]at hz;simp only[List.cons_append,List.nil_append,DataW.weightsEach]at hz;have Xm:=(kZ.1 hz).1;replace hz:=(kZ.1 hz).2;have AL:=(kZ.1 hz).1;replace hz:=(kZ.1 hz).2;have hz2:=(kZ.1 hz).1;replace hz:=(kZ.1 hz).2;obtain⟨cs0,rfl,_⟩:=okWide_struct Tryz.underlying24 (th 0 24 v0 rfl rfl);obtain⟨n0,g0⟩:=h0;obtain⟨_,⟨l,rfl⟩,r0⟩:=(V5 W).read g0;obtain⟨cs1,rfl,_⟩:=okWide_struct Tryz.underlying28 (th 1 28 v1 rfl rfl);obtain⟨n1,g1⟩:=h1;obtain⟨_,⟨c,rfl⟩,r1⟩:=(Sg W).read g1;obtain⟨cs2,rfl,_⟩:=okWide_struct Tryz.underlying33 (th 2 33 v2 rfl rfl);obtain⟨n2,g2⟩:=h2;obtain⟨_,⟨x,y,w1,w2,g,rfl,hx,hy,B2,HE,hg⟩,r2⟩:=(Gr W).read g2 hz2;clear hA0 P6;refine(top (te3 l c x y w1 w2 g hx hy B2 HE hg) W Lr _ ⟨_,_,rfl,⟨cs0,rfl,r0⟩,_,_,rfl,⟨cs1,rfl,r1⟩,_,_,rfl,⟨cs2,rfl,r2⟩,rfl⟩).mono fun e W' ⟨x,he,⟨F',hx⟩,hs⟩=>?_;have hx:x = .bool true:=hx;subst he;subst hx;refine⟨_,rfl,?_⟩;refine⟨_,_,_,[],_,[],hW',trodAll_mk1 (shut_bool Tryz.underlying4 _),rz (DataW.TrodAll.respare kids full (by rw[Tryz.params3];decide) WW (fun p hp=>by simpa using WW.lt p hp)) (fun p hp=>hs.sameAt (WW.lt p hp)),rfl,hs.frame _,fun h=>by cases h⟩
theorem topStood_holds:Rows.TopStoodSaid:=
 OpenClaim.holds_of_wide 3 Tryz.f3 rfl rfl rfl rfl rfl rfl rfl ⟨rfl,rfl,rfl,rfl,rfl⟩ rfl rfl rfl rfl rfl (by kernel_rfl) Tryz.func3 (by kernel_rfl)
  (of_decide_eq_true (by kernel_rfl)) (by unfold Func.isWrapper;first|(rw[if_pos (by decide +kernel)];kernel_rfl)|(rw[if_neg (by decide +kernel)];exact⟨rfl,rfl⟩))
  (fun os started H enc _=>topStood_lifted os started H enc)
theorem topStood_card:Rows.TopStoodCardSaid:=
 Claim7.holds_tied_plain_at .later [] [.data, .data, .data, .data, .sentinel, .sentinel, .pinned] true (true, "f701387d0af9c7eec2d7ff0c35ba208c12851f160270143d8c17c5ec2f6ae7b4") true topStood_holds (fun _ h => by cases h) (by kernel_rfl) (fun _ h => by cases h) topStood_row_tie rfl ⟨rfl, rfl⟩ (by kernel_rfl) rfl
  (fun f fn hf Zq=>by
   obtain rfl : f = 3 := Option.some.inj ((show Tryz.prog.funcNamed "nore/noretop.TopStood" = some 3 by kernel_rfl).symm.trans hf) |>.symm
   obtain rfl:fn=Tryz.f3:=(Option.some.inj (Tryz.func3.symm.trans Zq)).symm;exact⟨by kernel_rfl,fun j t ht=>by
    rw[Tryz.params3]at ht;have hm:t ∈ [24,28,33]:=by simpa using Array.mem_of_getElem? ht
    have cn:(([24,28,33]:List TypeId).all fun u=>!Tryz.prog.wantsStandIn u)=true:=by kernel_rfl
    exact(show Tryz.prog.wantsStandIn t=false by simpa using List.all_eq_true.1 cn t hm)⟩)
  (by kernel_rfl)
end Go.Proofs.YtmbefpmbnhdbpaaGreatDoor
