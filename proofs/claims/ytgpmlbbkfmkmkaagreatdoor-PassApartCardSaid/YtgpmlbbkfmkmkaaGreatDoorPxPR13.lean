import Derived.Test.YtgpmlbbkfmkmkaaGreatDoorCards
import Derived.Test.YtgpmlbbkfmkmkaaGreatDoorTie
import Derived.SevenTiedAt
import Derived.ChangeMaps5
import Derived.Test.YtgpmlbbkfmkmkaaGreatDoorPxJ
import Derived.Test.YtgpmlbbkfmkmkaaGreatDoorPxM
import Derived.Test.YtgpmlbbkfmkmkaaGreatDoorPxU
set_option linter.all false
namespace Go.Proofs.YtgpmlbbkfmkmkaaGreatDoor
open Go.ChangeShapes Go.WideShapes Go.ChangeAt Go.RowKit Go.PX
set_option maxRecDepth 100000 in
theorem passApart_lifted(os:Os)(started:os.Started)(H:Type)(enc:TypeId×Value->H) :
  ReturnsInHanded {} Tryz.checked os 4 .any (fun w args=>(Rows.passApartSpec.pre enc Tryz.prog Tryz.f4 Rows.passApartRow.domain false w args/\laidMetH Tryz.prog qkK w)/\sizedMet enc Tryz.prog Tryz.f4 (OpenSpec.ofChange Rows.passApartSpec) false w args) (Rows.passApartSpec.post enc Tryz.prog Tryz.f4 false true false false):=by
 refine returnsInHanded_laid (C:=Tryz.checked) (X:=fun w _=>laidMetH Tryz.prog qkK w) (fun _ _ _ hh h=>h.of_heap hh) own started (by kernel_rfl) Tryz.func4
  (ChangeSpec.witness_shaped (enc:=enc) (C:=Tryz.checked) (os:=os) (X:=fun w _=>laidMetH Tryz.prog qkK w) false (World.laidAll Tryz.prog os qkK) #[.agg #[.int .i64 0,.slice none 0 0],.agg #[.int .i64 0,.int .i64 0],.agg #[.int .i64 0,.int .i64 0]] 8 (World.laidAll_os _ _ _)
   (witness_shape os _) (by kernel_rfl) (by kernel_rfl) (by kernel_rfl) (witness_laid os _)) ?_
 intro W base args ds gs before hval0 hW hcnd hwt hL hsh;have hlaid:=pass_laid hL hsh;have hval:∀ (j:Nat) t v,Tryz.f4.params[j]?=some t->args[j]?=some v->Value.okWide Tryz.prog W .any base t v:=hval0;have hW':=hW;obtain⟨p,q,hA0,hV,rfl,hfz,hnd⟩:=hW;have hA:DataW.TrodAll enc Tryz.prog W 0 (fun _=>true) true Tryz.f4.params.toList args.toList ds p:=hA0;have hAk:=hA;rw[Tryz.params4]at hA hval;obtain⟨v0,v1,v2,d0,d1,d2,p0,p1,p2,rfl,rfl,rfl,h0,h1,h2⟩:=trodAll_three hA;obtain⟨rfl,rfl⟩:=trodVars_none hV;simp only[List.append_nil]at hW' hAk;obtain⟨cs0,rfl,_⟩:=okWide_struct Tryz.underlying24 (hval 0 24 v0 rfl rfl);obtain⟨n0,g0⟩:=h0;obtain⟨_,⟨l,rfl⟩,r0⟩:=(rdLog W).read g0;obtain⟨cs1,rfl,_⟩:=okWide_struct Tryz.underlying26 (hval 1 26 v1 rfl rfl);obtain⟨n1,g1⟩:=h1;obtain⟨_,⟨x,rfl⟩,r1⟩:=(qsf W).read g1;obtain⟨cs2,rfl,_⟩:=okWide_struct Tryz.underlying26 (hval 2 26 v2 rfl rfl);obtain⟨n2,g2⟩:=h2;obtain⟨_,⟨y,rfl⟩,r2⟩:=(qsf W).read g2;clear hA0 hval0;refine(top (pa4 l x y) W hlaid _ ⟨_,_,rfl,⟨cs0,rfl,r0⟩,_,_,rfl,⟨cs1,rfl,r1⟩,_,_,rfl,⟨cs2,rfl,r2⟩,rfl⟩).mono fun e W' ⟨x,he,⟨F',hx⟩,hs⟩=>?_;have hx:x = .bool true:=hx;subst he;subst hx;refine⟨_,rfl,?_⟩;refine⟨_,_,_,[],_,[],hW',trodAll_mk1 (shut_bool Tryz.underlying4 _),qfb (DataW.TrodAll.respare kids full (by rw[Tryz.params4];decide) hAk (fun p hp=>by simpa using hAk.lt p hp)) (fun p hp=>hs.sameAt (hAk.lt p hp)),rfl,hs.frame _,fun h=>by cases h⟩
theorem passApart_holds:Rows.PassApartSaid:=
 OpenClaim.holds_of_wide 4 Tryz.f4 rfl rfl rfl rfl rfl rfl rfl ⟨rfl,rfl,rfl,rfl,rfl⟩ rfl rfl rfl rfl rfl (by kernel_rfl) Tryz.func4 (by kernel_rfl)
  (of_decide_eq_true (by kernel_rfl)) (by unfold Func.isWrapper;first | (rw[if_pos (by decide +kernel)];kernel_rfl) | (rw[if_neg (by decide +kernel)];exact⟨rfl,rfl⟩))
  (fun os started H enc _=>passApart_lifted os started H enc)
theorem passApart_card:Rows.PassApartCardSaid:=
 Claim7.holds_tied_plain_at .later [] [.data, .data, .data, .data, .sentinel, .sentinel, .pinned] true (true, "90b45fb562ff722763237ebbf2b701f5236fca1073619ecb4d8d313225d786db") true passApart_holds (fun _ h => by cases h) (by kernel_rfl) (fun _ h => by cases h) passApart_row_tie rfl ⟨rfl, rfl⟩ (by kernel_rfl) rfl
  (fun f fn hf hfn=>by
   obtain rfl : f = 4 := Option.some.inj ((show Tryz.prog.funcNamed "nore/norelaw11.PassApart" = some 4 by kernel_rfl).symm.trans hf) |>.symm
   obtain rfl:fn=Tryz.f4:=(Option.some.inj (Tryz.func4.symm.trans hfn)).symm;exact⟨by kernel_rfl,fun j t ht=>by
    rw[Tryz.params4]at ht;have hm:t ∈ [24,26,26]:=by simpa using Array.mem_of_getElem? ht
    have hall:(([24,26,26]:List TypeId).all fun u=>!Tryz.prog.wantsStandIn u)=true:=by kernel_rfl
    exact(show Tryz.prog.wantsStandIn t=false by simpa using List.all_eq_true.1 hall t hm)⟩)
  (by kernel_rfl)
end Go.Proofs.YtgpmlbbkfmkmkaaGreatDoor
