import Derived.Test.YtgpmlbbkfmkmkaaGreatDoorCards
import Derived.Test.YtgpmlbbkfmkmkaaGreatDoorTie
import Derived.SevenTiedAt
import Derived.ChangeMaps5
import Derived.Test.YtgpmlbbkfmkmkaaGreatDoorPxJ
import Derived.Test.YtgpmlbbkfmkmkaaGreatDoorPxM
import Derived.Test.YtgpmlbbkfmkmkaaGreatDoorPxU
set_option linter.all false
namespace Go.Proofs.YtgpmlbbkfmkmkaaGreatDoor
open Go.ChangeShapes Go.WideShapes Go.ChangeAt Go.RowKit Go.PX
set_option maxRecDepth 100000 in
theorem passNeeds_lifted(os:Os)(started:os.Started)(H:Type)(enc:TypeId×Value->H) :
  ReturnsInHanded {} Tryz.checked os 5 .any (fun w args=>(Rows.passNeedsSpec.pre enc Tryz.prog Tryz.f5 Rows.passNeedsRow.domain false w args/\laidMetH Tryz.prog qlV w)/\sizedMet enc Tryz.prog Tryz.f5 (OpenSpec.ofChange Rows.passNeedsSpec) false w args) (Rows.passNeedsSpec.post enc Tryz.prog Tryz.f5 false true false false):=by
 refine qet (C:=Tryz.checked) (X:=fun w _=>laidMetH Tryz.prog qlV w) (fun _ _ _ hh h=>h.of_heap hh) own started (by kernel_rfl) Tryz.func5
  (ChangeSpec.witness_shaped (enc:=enc) (C:=Tryz.checked) (os:=os) (X:=fun w _=>laidMetH Tryz.prog qlV w) false (World.laidAll Tryz.prog os qlV) #[.agg #[.int .i64 0,.slice none 0 0]] 8 (World.laidAll_os _ _ _)
   (qkx os _) (by kernel_rfl) (by kernel_rfl) (by kernel_rfl) (qlW os _)) ?_
 intro W base args ds gs before hval0 hW hcnd hwt hL hsh;have hlaid:=qrE hL hsh;have hval:∀ (j:Nat) t v,Tryz.f5.params[j]?=some t->args[j]?=some v->Value.okWide Tryz.prog W .any base t v:=hval0;have hW':=hW;obtain⟨p,q,hA0,hV,rfl,hfz,hnd⟩:=hW;have hA:DataW.TrodAll enc Tryz.prog W 0 (fun _=>true) true Tryz.f5.params.toList args.toList ds p:=hA0;have hAk:=hA;rw[Tryz.params5]at hA hval;obtain⟨v0,d0,rfl,rfl,h0⟩:=trodAll_one hA;obtain⟨rfl,rfl⟩:=trodVars_none hV;simp only[List.append_nil]at hW' hAk;obtain⟨cs0,rfl,_⟩:=okWide_struct Tryz.underlying24 (hval 0 24 v0 rfl rfl);obtain⟨n0,g0⟩:=h0;obtain⟨_,⟨l,rfl⟩,r0⟩:=(qyt W).read g0;clear hA0 hval0;refine(top (pa5 l) W hlaid _ ⟨_,_,rfl,⟨cs0,rfl,r0⟩,rfl⟩).mono fun e W' ⟨x,he,⟨F',hx⟩,hs⟩=>?_;have hx:x = .bool true:=hx;subst he;subst hx;refine⟨_,rfl,?_⟩;refine⟨_,_,_,[],_,[],hW',trodAll_mk1 (shut_bool Tryz.underlying4 _),qft (DataW.TrodAll.respare kids full (by rw[Tryz.params5];decide) hAk (fun p hp=>by simpa using hAk.lt p hp)) (fun p hp=>hs.sameAt (hAk.lt p hp)),rfl,hs.frame _,fun h=>by cases h⟩
theorem passNeeds_holds:Rows.PassNeedsSaid:=
 OpenClaim.holds_of_wide 5 Tryz.f5 rfl rfl rfl rfl rfl rfl rfl ⟨rfl,rfl,rfl,rfl,rfl⟩ rfl rfl rfl rfl rfl (by kernel_rfl) Tryz.func5 (by kernel_rfl)
  (of_decide_eq_true (by kernel_rfl)) (by unfold Func.isWrapper;first|(rw[if_pos (by decide +kernel)];kernel_rfl)|(rw[if_neg (by decide +kernel)];exact⟨rfl,rfl⟩))
  (fun os started H enc _=>passNeeds_lifted os started H enc)
theorem passNeeds_card:Rows.PassNeedsCardSaid:=
 Claim7.holds_tied_plain_at .later [] [.data, .data, .data, .data, .sentinel, .sentinel, .pinned] true (true, "90b45fb562ff722763237ebbf2b701f5236fca1073619ecb4d8d313225d786db") true passNeeds_holds (fun _ h => by cases h) (by kernel_rfl) (fun _ h => by cases h) passNeeds_row_tie rfl ⟨rfl, rfl⟩ (by kernel_rfl) rfl
  (fun f fn hf hfn=>by
   obtain rfl : f = 5 := Option.some.inj ((show Tryz.prog.funcNamed "nore/norelaw11.PassNeeds" = some 5 by kernel_rfl).symm.trans hf) |>.symm
   obtain rfl:fn=Tryz.f5:=(Option.some.inj (Tryz.func5.symm.trans hfn)).symm;exact⟨by kernel_rfl,fun j t ht=>by
    rw[Tryz.params5]at ht;have hm:t ∈ [24]:=by simpa using Array.mem_of_getElem? ht
    have hall:(([24]:List TypeId).all fun u=>!Tryz.prog.wantsStandIn u)=true:=by kernel_rfl
    exact(show Tryz.prog.wantsStandIn t=false by simpa using List.all_eq_true.1 hall t hm)⟩)
  (by kernel_rfl)
end Go.Proofs.YtgpmlbbkfmkmkaaGreatDoor
