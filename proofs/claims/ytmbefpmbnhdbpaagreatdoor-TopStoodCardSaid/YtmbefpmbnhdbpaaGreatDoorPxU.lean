import Derived.Test.YtmbefpmbnhdbpaaGreatDoorPxT
import Derived.Test.YtmbefpmbnhdbpaaGreatDoorPxJ
set_option linter.all false
set_option maxRecDepth 10000
namespace Go.PX
open Go.Proofs
theorem M7(c:aA)(set:Int):o9 Tryz.prog 62 [.ptr 1000000 0] [(1000000,.box (.dd (Ag c set)))] fun v h'=>v = .ptr 2000002 0/\h' = [(2000000,.map []),(2000001,.map []),(2000002,.box (.vv [.d (bC c set),.mp 2000000,.mp 2000001]))]:=by
 intro σ Y s;refine dQ mixed ak Tryz.func62 rfl (ft:=NT) (args:=[.ptr 1000000 0]) (show nS NT Tryz.f62 1=true from by decide +kernel) ?_;conv=>whnf
 refine nY ((Wk.Tn 1 [1000000]).trans (Wk.sub (e':=dy 0 [.ptr 7 0]) (h':=[(4,.map []),(5,.map []),(7,.box (.vv [.d (bC c set),.mp 4,.mp 5]))]) ⟨rfl,trivial⟩ ⟨rfl,rfl,rfl,trivial⟩)) rfl rfl ?_;exact aC [4,5,7] [.ptr 2000002 0] [(2000000,.map []),(2000001,.map []),(2000002,.box (.vv [.d (bC c set),.mp 2000000,.mp 2000001]))] rfl ⟨rfl,rfl,rfl,trivial⟩ rfl ⟨⟨rfl,rfl⟩,rfl⟩
theorem aa4(c:aA)(hR:WR c)(set:Int):bq Tryz.prog 103 [i64 set,.ref c.cells] (.bool (fT c set .zero)):=by
 refine aI mixed ak Tryz.func103 rfl (ft:=Ts) 2 (by decide +kernel) (by rfl) fun {σ} Y st=>?_;conv=>whnf
 refine aY (M7 c set) [7] rfl ⟨_,_,rfl,rfl,rfl⟩ rfl ?_;conv=>whnf
 obtain⟨Vr,eI,hE⟩:=jX hR (set:=set) .nil [] (jz.zero hR);refine aY hE [100514,100512,100513] rfl ?lent rfl ?_;case lent=>exact⟨_,_,rfl,bK rfl ⟨rfl,rfl,rfl,trivial⟩,_,_,rfl,rfl,_,_,rfl,rfl,rfl⟩
 conv=>whnf
 exact ab 0 rfl ⟨⟨rfl,rfl⟩,rfl⟩
def jB(w:Int->Bool)(cV:Int)(set:Int):Int:=if jk set cV&&w set then set else cV
def Wc(many:Nat):List Int:=(List.range' 1 (2^many-1)).map fun(i:Nat)=>(i:Int)
def BM(w:Int->Bool)(many:Nat):Int:=(Wc many).foldl (jB w) (-1)
def HR(set:Int)(many:Nat):List Int:=((List.range many).filter fun(i:Nat)=>decide (set≥0)&&jb set i).map fun(i:Nat)=>(i:Int)
def HM(l:List Int):D:=match l with
 | []=>.nils
 | x::r=>ax (x::r)
theorem NC(set:Int)(j:Nat):gF .and .i64 (set.fdiv (2^min (j:Int).toNat IntKind.i64.bits)) 1=0\/gF .and .i64 (set.fdiv (2^min (j:Int).toNat IntKind.i64.bits)) 1=1:=by
 generalize (set.fdiv (2^min (j:Int).toNat IntKind.i64.bits))=a;show IntKind.i64.wrap (BitVec.ofInt 64 a &&& BitVec.ofInt 64 1).toNat=0\/IntKind.i64.wrap (BitVec.ofInt 64 a &&& BitVec.ofInt 64 1).toNat=1;have h:(BitVec.ofInt 64 a &&& BitVec.ofInt 64 1).toNat=(BitVec.ofInt 64 a).toNat%2:=by
  rw[BitVec.toNat_and];exact Nat.and_one_is_mod _
 rw[h];have h2:(BitVec.ofInt 64 a).toNat%2=0\/(BitVec.ofInt 64 a).toNat%2=1:=by omega
 rcases h2 with h2|h2<;>rw[h2]
 ·left;decide
 ·right;decide
theorem aa3(many:Nat)(hm:many<=5)(g:FuncId)(bS:List D)(w:Int->Bool)(hw:∀ set,bq Tryz.prog g (i64 set::bS) (.bool (w set))) :
  bq Tryz.prog 102 [i64 many,.clo g bS] (HM (HR (BM w many) many)):=by
 refine aI mixed ak Tryz.func102 rfl (ft:=Tq) 2 (by decide +kernel) (by rfl) fun {σ} Y st=>?_;conv=>whnf
 have hp:(2:Int)^many<=32:=by
  have:many=0\/many=1\/many=2\/many=3\/many=4\/many=5:=by omega
  rcases this with rfl|rfl|rfl|rfl|rfl|rfl<;>decide
 have P0:(2:Nat)^many<=32:=by
  have:many=0\/many=1\/many=2\/many=3\/many=4\/many=5:=by omega
  rcases this with rfl|rfl|rfl|rfl|rfl|rfl<;>decide
 have DG:1<=(2:Nat)^many:=Nat.one_le_two_pow;have hpc:(2:Int)^many=((2^many:Nat):Int):=by simp
 generalize tg:BM w many=res;refine dh (T:=tys) ak (by exact an mixed ak (by decide +kernel)) (α:=Nat×Int) (fun x=>⟨[(0,.d (i64 many)),(1,.d (.clo g bS)),(4,.d .nils),(5,.d (i64 x.2)),(6,.d (i64 x.1))],[],st⟩)
  (fun x=>1<=x.1/\x.1<=2^many/\(-1<=x.2/\x.2<32)/\((List.range' x.1 (2^many-x.1)).map fun(i:Nat)=>(i:Int)).foldl (jB w) x.2=res) (fun x=>2^many-x.1) (1,-1)
  (Wk.sub (by repeat' first|constructor|simp[PX.get]) trivial) ⟨by simp,DG,by simp,tg⟩ ?_
 clear tg;rintro ⟨i,cV⟩ ⟨h1,h2,hb,hr⟩;simp only at h1 h2 hb hr;conv=>whnf
 refine ao ((2^many:Nat):Int) (by
  rw[show min (many:Int).toNat IntKind.i64.bits=many by show min many 64=many;omega,Int.one_mul,hpc]) (wrap_i64 (by omega)) ?_
 conv=>whnf
 refine af (fun dN=>?_) (fun dN=>?_)
 ·have dN:i<2^many:=by have:=of_decide_eq_true dN;simp at this;omega
  obtain⟨k,hk⟩:∃ k,2^many-i=k+1:=⟨2^many-i-1,by omega⟩;have gu:2^many-(i+1)=k:=by omega
  rw[hk,List.range'_succ,List.map_cons,List.foldl_cons]at hr;conv=>whnf
  refine arith.mk ?_;conv=>whnf
  refine ai (ds:=[.int .u64 (IntKind.u64.wrap i)]) (WI _) rfl rfl ?_;conv=>whnf
  refine arith.mk ?_;conv=>whnf
  refine ai (ds:=[.int .u64 (IntKind.u64.wrap cV)]) (WI _) rfl rfl ?_;conv=>whnf
  refine af (fun hA=>?_) (fun hA=>?_)
  ·have hB:jk i cV=true:=by unfold jk;rw[show decide (cV<0)=true from hA];rfl
   conv=>whnf
   refine ai (ds:=i64 i::bS) (hw i) rfl rfl ?_;conv=>whnf
   refine af (fun hW=>?_) (fun hW=>?_)
   ·have hW:w i=true:=hW
    have Fx:jB w cV i=i:=by unfold jB;rw[hB,hW];rfl
    rw[Fx]at hr;conv=>whnf
    refine ao (((i+1:Nat):Int)) (by(try dsimp only);omega) (wrap_i64 (by(try dsimp only);omega)) ?_;conv=>whnf
    exact⟨(i+1,(i:Int)),by simp only;omega,⟨by simp only;omega,by simp only;omega,by simp only;omega,by simp only;rw[gu];exact hr⟩,(Wk.sub (by repeat' first|constructor|simp[PX.get]) trivial)⟩
   ·have hW:w i=false:=hW
    have Fx:jB w cV i=cV:=by unfold jB;rw[hB,hW];rfl
    rw[Fx]at hr;conv=>whnf
    refine ao (((i+1:Nat):Int)) (by(try dsimp only);omega) (wrap_i64 (by(try dsimp only);omega)) ?_;conv=>whnf
    exact⟨(i+1,cV),by simp only;omega,⟨by simp only;omega,by simp only;omega,hb,by simp only;rw[gu];exact hr⟩,(Wk.sub (by repeat' first|constructor|simp[PX.get]) trivial)⟩
  have hA:decide (cV<0)=false:=hA;conv=>whnf
  refine af (fun IK=>?_) (fun IK=>?_)
  ·have IK:decide (wm i<wm cV)=true:=IK
   have hB:jk i cV=true:=by unfold jk;rw[hA,IK];rfl
   conv=>whnf
   refine ai (ds:=i64 i::bS) (hw i) rfl rfl ?_;conv=>whnf
   refine af (fun hW=>?_) (fun hW=>?_)
   ·have hW:w i=true:=hW
    have Fx:jB w cV i=i:=by unfold jB;rw[hB,hW];rfl
    rw[Fx]at hr;conv=>whnf
    refine ao (((i+1:Nat):Int)) (by(try dsimp only);omega) (wrap_i64 (by(try dsimp only);omega)) ?_;conv=>whnf
    exact⟨(i+1,(i:Int)),by simp only;omega,⟨by simp only;omega,by simp only;omega,by simp only;omega,by simp only;rw[gu];exact hr⟩,(Wk.sub (by repeat' first|constructor|simp[PX.get]) trivial)⟩
   ·have hW:w i=false:=hW
    have Fx:jB w cV i=cV:=by unfold jB;rw[hB,hW];rfl
    rw[Fx]at hr;conv=>whnf
    refine ao (((i+1:Nat):Int)) (by(try dsimp only);omega) (wrap_i64 (by(try dsimp only);omega)) ?_;conv=>whnf
    exact⟨(i+1,cV),by simp only;omega,⟨by simp only;omega,by simp only;omega,hb,by simp only;rw[gu];exact hr⟩,(Wk.sub (by repeat' first|constructor|simp[PX.get]) trivial)⟩
  have IK:decide (wm i<wm cV)=false:=IK;conv=>whnf
  refine af (fun hC=>?_) (fun hC=>?_)
  ·have hC:decide (wm i=wm cV)=true:=hC
   conv=>whnf
   refine arith.mk ?_;conv=>whnf
   refine ai (ds:=[.int .u64 (IntKind.u64.wrap i)]) (Qr _) rfl rfl ?_;conv=>whnf
   refine arith.mk ?_;conv=>whnf
   refine ai (ds:=[.int .u64 (IntKind.u64.wrap cV)]) (Qr _) rfl rfl ?_;conv=>whnf
   refine af (fun hD=>?_) (fun hD=>?_)
   ·have hD:decide (JC cV<JC i)=true:=hD
    have hB:jk i cV=true:=by unfold jk;rw[hA,IK,hC,hD];rfl
    conv=>whnf
    refine ai (ds:=i64 i::bS) (hw i) rfl rfl ?_;conv=>whnf
    refine af (fun hW=>?_) (fun hW=>?_)
    ·have hW:w i=true:=hW
     have Fx:jB w cV i=i:=by unfold jB;rw[hB,hW];rfl
     rw[Fx]at hr;conv=>whnf
     refine ao (((i+1:Nat):Int)) (by(try dsimp only);omega) (wrap_i64 (by(try dsimp only);omega)) ?_;conv=>whnf
     exact⟨(i+1,(i:Int)),by simp only;omega,⟨by simp only;omega,by simp only;omega,by simp only;omega,by simp only;rw[gu];exact hr⟩,(Wk.sub (by repeat' first|constructor|simp[PX.get]) trivial)⟩
    ·have hW:w i=false:=hW
     have Fx:jB w cV i=cV:=by unfold jB;rw[hB,hW];rfl
     rw[Fx]at hr;conv=>whnf
     refine ao (((i+1:Nat):Int)) (by(try dsimp only);omega) (wrap_i64 (by(try dsimp only);omega)) ?_;conv=>whnf
     exact⟨(i+1,cV),by simp only;omega,⟨by simp only;omega,by simp only;omega,hb,by simp only;rw[gu];exact hr⟩,(Wk.sub (by repeat' first|constructor|simp[PX.get]) trivial)⟩
   ·have hD:decide (JC cV<JC i)=false:=hD
    have hB:jk i cV=false:=by unfold jk;rw[hA,IK,hC,hD];rfl
    conv=>whnf
    refine ao (((i+1:Nat):Int)) (by(try dsimp only);omega) (wrap_i64 (by(try dsimp only);omega)) ?_;conv=>whnf
    have Fx:jB w cV i=cV:=by unfold jB;rw[hB];rfl
    rw[Fx]at hr;exact⟨(i+1,cV),by simp only;omega,⟨by simp only;omega,by simp only;omega,hb,by simp only;rw[gu];exact hr⟩,(Wk.sub (by repeat' first|constructor|simp[PX.get]) trivial)⟩
  ·have hC:decide (wm i=wm cV)=false:=hC
   have hB:jk i cV=false:=by unfold jk;rw[hA,IK,hC];rfl
   conv=>whnf
   refine ao (((i+1:Nat):Int)) (by(try dsimp only);omega) (wrap_i64 (by(try dsimp only);omega)) ?_;conv=>whnf
   have Fx:jB w cV i=cV:=by unfold jB;rw[hB];rfl
   rw[Fx]at hr;exact⟨(i+1,cV),by simp only;omega,⟨by simp only;omega,by simp only;omega,hb,by simp only;rw[gu];exact hr⟩,(Wk.sub (by repeat' first|constructor|simp[PX.get]) trivial)⟩
 ·have dN:¬ i<2^many:=by have:=of_decide_eq_false dN;simp at this;omega
  rw[show 2^many-i=0 by omega]at hr;have hr:cV=res:=hr;subst hr;conv=>whnf
  generalize hM:HR cV many=M
  refine bx (T:=tys) ak (by exact an mixed ak (by decide +kernel)) (List.range many) (fun j (acc:List Int)=>⟨[(4,match acc with
    | []=>.d .nils
    | x::r=>.sl 67 1 0 (x::r).length),(5,.d (i64 cV)),(51,.d (i64 many)),(52,.d (i64 j))],match acc with
    | []=>[]
    | x::r=>[(67,.arr 1 (.dd (ba (x::r))))],st⟩)
   (fun j r acc=>acc.length<=j/\M=acc++(r.filter fun(i:Nat)=>decide (cV≥0)&&jb cV i).map fun(i:Nat)=>(i:Int)) [] (Wk.sub (by repeat' first|constructor|simp[PX.get]) trivial) ⟨by simp,hM.symm⟩ ?_ ?_
  ·intro j x r acc hx hj wK hi
   obtain⟨pf,he⟩:=hi;have P8:j=x:=by
    rw[List.getElem?_range (by simpa using hj)]at hx;exact Option.some.inj hx
   subst P8;have Nl:j<many:=by simpa using hj
   have Uy:=NC cV j;have v8:∀ b:Bool,(decide (cV≥0)&&jb cV j)=b->((j::r).filter fun(i:Nat)=>decide (cV≥0)&&jb cV i)=(if b then [j] else [])++r.filter fun(i:Nat)=>decide (cV≥0)&&jb cV i:=by
    intro b hb;rw[List.filter_cons,hb];cases b<;>rfl
   cases acc with
   | nil=>
    conv=>whnf
    refine af (fun _=>?_) (fun h=>absurd Nl (by have:=of_decide_eq_false h;omega));conv=>whnf
    refine af (fun h0=>?_) (fun h0=>?_)
    ·have h0:decide (cV≥0)=true:=h0
     conv=>whnf
     refine af (fun h3=>?_) (fun h3=>?_)
     ·have h3:gF .and .i64 (cV.fdiv (2^min (j:Int).toNat IntKind.i64.bits)) 1=1:=of_decide_eq_true h3
      have h4:jb cV j=true:=by
       show(!decide (gF .and .i64 (cV.fdiv (2^min (j:Int).toNat IntKind.i64.bits)) 1=0))=true;rw[h3];rfl
      rw[v8 true (by rw[h0,h4];rfl)]at he;conv=>whnf
      refine ag rfl ?_;conv=>whnf
      refine ae (wrap_i64 (by(try dsimp only);omega)) ?_;conv=>whnf
      refine⟨[(j:Int)],⟨by simp,by simpa using he⟩,(Wk.sub (by repeat' first|constructor|simp[PX.get]) ⟨(by first|rfl|simp[PX.get]),trivial⟩)⟩
     ·have h3:¬ gF .and .i64 (cV.fdiv (2^min (j:Int).toNat IntKind.i64.bits)) 1=1:=of_decide_eq_false h3
      have h4:jb cV j=false:=by
       show(!decide (gF .and .i64 (cV.fdiv (2^min (j:Int).toNat IntKind.i64.bits)) 1=0))=false;rcases Uy with iN|iN
       ·rw[iN];rfl
       ·exact absurd iN h3
      rw[v8 false (by rw[h4,Bool.and_false])]at he;conv=>whnf
      refine ae (wrap_i64 (by(try dsimp only);omega)) ?_;conv=>whnf
      refine⟨[],⟨by simp,by simpa using he⟩,(Wk.sub (by repeat' first|constructor|simp[PX.get]) trivial)⟩
    ·have h0:decide (cV≥0)=false:=h0
     rw[v8 false (by rw[h0];rfl)]at he;conv=>whnf
     refine ae (wrap_i64 (by(try dsimp only);omega)) ?_;conv=>whnf
     refine⟨[],⟨by simp,by simpa using he⟩,(Wk.sub (by repeat' first|constructor|simp[PX.get]) trivial)⟩
   | cons a l=>
    conv=>whnf
    refine af (fun _=>?_) (fun h=>absurd Nl (by have:=of_decide_eq_false h;omega));conv=>whnf
    refine af (fun h0=>?_) (fun h0=>?_)
    ·have h0:decide (cV≥0)=true:=h0
     conv=>whnf
     refine af (fun h3=>?_) (fun h3=>?_)
     ·have h3:gF .and .i64 (cV.fdiv (2^min (j:Int).toNat IntKind.i64.bits)) 1=1:=of_decide_eq_true h3
      have h4:jb cV j=true:=by
       show(!decide (gF .and .i64 (cV.fdiv (2^min (j:Int).toNat IntKind.i64.bits)) 1=0))=true;rw[h3];rfl
      rw[v8 true (by rw[h0,h4];rfl)]at he;conv=>whnf
      refine ag rfl ?_;conv=>whnf
      refine ag (by simp[aK.len,ba]) ?_;conv=>whnf
      refine aQ (decide_eq_true (by
       show((ba (a::l)).length+1)*8<=140737488355328;simp[ba]at pf ⊢;omega)) ?_
      conv=>whnf
      refine ae (wrap_i64 (by(try dsimp only);omega)) ?_;conv=>whnf
      refine⟨a::l ++ [(j:Int)],⟨by simp at pf ⊢;omega,by simpa using he⟩,Wk.sub ⟨?_,rfl,rfl,rfl,trivial⟩ ⟨?_,trivial⟩⟩
      ·show some (V.sl 67 1 0 ((ba (a::l)).length+1))=some (V.sl 67 1 0 (a::(l ++ [(j:Int)])).length)
       simp[ba]
      ·show some (Obj.arr 1 (aK.dd (ba (a::l) ++ [[i64 (j:Int)]])))=some (Obj.arr 1 (aK.dd (ba (a::(l ++ [(j:Int)])))))
       simp[ba]
     ·have h3:¬ gF .and .i64 (cV.fdiv (2^min (j:Int).toNat IntKind.i64.bits)) 1=1:=of_decide_eq_false h3
      have h4:jb cV j=false:=by
       show(!decide (gF .and .i64 (cV.fdiv (2^min (j:Int).toNat IntKind.i64.bits)) 1=0))=false;rcases Uy with iN|iN
       ·rw[iN];rfl
       ·exact absurd iN h3
      rw[v8 false (by rw[h4,Bool.and_false])]at he;conv=>whnf
      refine ae (wrap_i64 (by(try dsimp only);omega)) ?_;conv=>whnf
      refine⟨a::l,⟨by simp at pf ⊢;omega,by simpa using he⟩,(Wk.sub (by repeat' first|constructor|simp[PX.get]) ⟨(by first|rfl|simp[PX.get]),trivial⟩)⟩
    ·have h0:decide (cV≥0)=false:=h0
     rw[v8 false (by rw[h0];rfl)]at he;conv=>whnf
     refine ae (wrap_i64 (by(try dsimp only);omega)) ?_;conv=>whnf
     refine⟨a::l,⟨by simp at pf ⊢;omega,by simpa using he⟩,(Wk.sub (by repeat' first|constructor|simp[PX.get]) ⟨(by first|rfl|simp[PX.get]),trivial⟩)⟩
  ·rintro acc ⟨_,he⟩
   have he:M=acc:=by simpa using he
   rw[he]
   cases acc with
   | nil=>
    conv=>whnf
    refine af (fun h=>absurd h (by simp)) (fun _=>?_);conv=>whnf
    exact ab 0 rfl ⟨⟨rfl,rfl⟩,rfl⟩
   | cons a l=>
    conv=>whnf
    refine af (fun h=>absurd h (by simp)) (fun _=>?_);conv=>whnf
    refine ab 1 (ds:=[ax (a::l)]) ?_ ⟨⟨rfl,rfl⟩,rfl⟩;exact az (bH (es:=ba (a::l)) rfl (by simp[ba])) rfl
def KR(c:aA):List Int:=HR (BM (fun set=>fT c set .zero) c.bQ.length) c.bQ.length
theorem aaU(c:aA):bq Tryz.prog 34 [c.d] (.tup [if cB c []=0 then HM (KR c) else .nils,i64 (if cB c []=0 then (if KR c = [] then 9 else 0) else cB c [])]):=by
 refine aI mixed ak Tryz.func34 rfl (ft:=Ya) 1 (by decide +kernel) (by rfl) fun {σ} Y st=>?_;conv=>whnf
 refine nV ?_;refine ai (ds:=[c.d,bt []]) (ET c []) rfl rfl ?_;conv=>whnf
 by_cases h0:cB c []=0
 ·obtain⟨hR,hl,_⟩:=kz h0
  have hm:=hR.bQ;rw[h0];simp only[if_true];conv=>whnf
  refine gp (ds:=[i64 c.bQ.length,.clo 103 [.ref c.cells]]) (aa3 c.bQ.length hm.2 103 [.ref c.cells] (fun set=>fT c set .zero) fun set=>aa4 c hR set) 2 [1] ?_ rfl ?_
  ·show some [D.int .i64 ((List.map sD.cells c.bQ).length:Int),.clo 103 [.ref c.cells]]=_
   rw[List.length_map]
  have hf:HR (BM (fun set=>fT c set av.zero) c.bQ.length) c.bQ.length=KR c:=rfl;rw[hf]
  cases hL:KR c with
  | nil=>
   conv=>whnf
   refine⟨fun b hb=>?_⟩;cases hb trivial
   conv=>whnf
   exact ab 0 rfl ⟨⟨rfl,rfl⟩,rfl⟩
  | cons a l=>
   conv=>whnf
   refine⟨fun b hb=>?_⟩;cases hb (by simp)
   conv=>whnf
   exact ab 0 rfl ⟨⟨rfl,rfl⟩,rfl⟩
 ·simp only[h0,if_false]
  conv=>whnf
  exact ab 0 rfl ⟨⟨rfl,rfl⟩,rfl⟩
def eK(c:aA)(m:Int):Int:=gF .andNot .i64 (aN c) (2^m.toNat)
def Mc(c:aA):List Int:=((List.range c.bQ.length).filter fun(i:Nat)=>!fT c (eK c i) .zero).map fun(i:Nat)=>(i:Int)
theorem aaV(c:aA):bq Tryz.prog 35 [c.d] (.tup [if cB c []=0/\fT c (aN c) .zero=true then HM (Mc c) else .nils,i64 (if cB c []=0 then (if fT c (aN c) .zero=true then 0 else 9) else cB c [])]):=by
 refine aI mixed ak Tryz.func35 rfl (ft:=(Yb.more 9 [102240,102241,102242])) 1 (by decide +kernel) (by rfl) fun {σ} Y st=>?_;conv=>whnf
 refine nV ?_;refine ai (ds:=[c.d,bt []]) (ET c []) rfl rfl ?_;conv=>whnf
 by_cases h0:cB c []=0
 ·obtain⟨hR,hl,_⟩:=kz h0
  have hm:=hR.bQ;rw[h0];simp only[if_true,true_and];conv=>whnf
  refine aY (Pg c (aN c)) [] rfl rfl rfl ?_;conv=>whnf
  obtain⟨Vr,eI,hE⟩:=jX hR (set:=aN c) .nil [] (jz.zero hR);refine aY hE [100962,100960,100961] rfl ?lent rfl ?_;case lent=>exact⟨_,_,rfl,bK rfl ⟨rfl,rfl,rfl,trivial⟩,_,_,rfl,rfl,_,_,rfl,rfl,rfl⟩
  cases hb:fT c (aN c) .zero with
  | false=>
   conv=>whnf
   exact ab 0 rfl ⟨⟨rfl,rfl⟩,rfl⟩
  | true=>
   simp only[if_true];conv=>whnf
   generalize hM:Mc c=M;rw[List.length_map]
   refine bx (T:=tys) ak (by exact an mixed ak (by decide +kernel)) (List.range c.bQ.length) (fun j (acc:List Int)=>⟨[(1,.ptr 1 0),(2,match acc with
     | []=>.d .nils
     | x::r=>.sl 42 1 0 (x::r).length),(4,.d (bC c (aN c))),(21,.d (i64 c.bQ.length)),(22,.d (i64 j))],match acc with
     | []=>[(1,.box (.dd c.cells))]
     | x::r=>[(1,.box (.dd c.cells)),(42,.arr 1 (.dd (ba (x::r))))],st⟩)
    (fun j r acc=>acc.length<=j/\M=acc++(r.filter fun(i:Nat)=>!fT c (eK c i) .zero).map fun(i:Nat)=>(i:Int)) [] (Wk.sub (by repeat' first|constructor|simp[PX.get]) ⟨(by first|rfl|simp[PX.get]),trivial⟩) ⟨by simp,hM.symm⟩ ?_ ?_
   ·intro j x r acc hx hj wK hi
    obtain⟨pf,he⟩:=hi;have P8:j=x:=by
     rw[List.getElem?_range (by simpa using hj)]at hx;exact Option.some.inj hx
    subst P8;have Nl:j<c.bQ.length:=by simpa using hj
    have uG:(1:Int)*2^min (j:Int).toNat IntKind.i64.bits=2^((j:Int).toNat):=by
     rw[show min (j:Int).toNat IntKind.i64.bits=j by show min j 64=j;omega,Int.one_mul];rfl
    have hpb:(2:Int)^((j:Int).toNat)<=32/\0<=(2:Int)^((j:Int).toNat):=by
     have:j=0\/j=1\/j=2\/j=3\/j=4:=by omega
     rcases this with rfl|rfl|rfl|rfl|rfl<;>decide
    have v8:∀ b:Bool,fT c (eK c j) .zero=b->((j::r).filter fun(i:Nat)=>!fT c (eK c i) .zero)=(if b then [] else [j])++r.filter fun(i:Nat)=>!fT c (eK c i) .zero:=by
     intro b hb;rw[List.filter_cons,hb];cases b<;>rfl
    cases acc with
    | nil=>
     conv=>whnf
     refine af (fun _=>?_) (fun h=>absurd Nl (by have:=of_decide_eq_false h;omega));conv=>whnf
     refine ao (2^((j:Int).toNat)) uG (wrap_i64 (by omega)) ?_;conv=>whnf
     refine cE (M7 c (eK c j)) [34] rfl ⟨_,_,rfl,rfl,rfl⟩ rfl ?_;conv=>whnf
     obtain⟨kn2,gu,lI⟩:=jX hR (set:=eK c j) .nil [] (jz.zero hR);refine cE lI [102242,102240,102241] rfl ?lent rfl ?_;case lent=>exact⟨_,_,rfl,bK rfl ⟨rfl,rfl,rfl,trivial⟩,_,_,rfl,rfl,_,_,rfl,rfl,rfl⟩
     cases Q7:fT c (eK c j) .zero with
     | true=>
      rw[v8 true Q7]at he;conv=>whnf
      refine ae (wrap_i64 (by(try dsimp only);omega)) ?_;conv=>whnf
      refine⟨[],⟨by simp,by simpa using he⟩,(Wk.sub (by repeat' first|constructor|simp[PX.get]) ⟨(by first|rfl|simp[PX.get]),trivial⟩)⟩
     | false=>
      rw[v8 false Q7]at he;conv=>whnf
      refine ag rfl ?_;conv=>whnf
      refine ae (wrap_i64 (by(try dsimp only);omega)) ?_;conv=>whnf
      refine⟨[(j:Int)],⟨by simp,by simpa using he⟩,(Wk.sub (by repeat' first|constructor|simp[PX.get]) (by repeat' first|constructor|simp[PX.get]))⟩
    | cons a l=>
     conv=>whnf
     refine af (fun _=>?_) (fun h=>absurd Nl (by have:=of_decide_eq_false h;omega));conv=>whnf
     refine ao (2^((j:Int).toNat)) uG (wrap_i64 (by omega)) ?_;conv=>whnf
     refine cE (M7 c (eK c j)) [34] rfl ⟨_,_,rfl,rfl,rfl⟩ rfl ?_;conv=>whnf
     obtain⟨kn2,gu,lI⟩:=jX hR (set:=eK c j) .nil [] (jz.zero hR);refine cE lI [102242,102240,102241] rfl ?lent rfl ?_;case lent=>exact⟨_,_,rfl,bK rfl ⟨rfl,rfl,rfl,trivial⟩,_,_,rfl,rfl,_,_,rfl,rfl,rfl⟩
     cases Q7:fT c (eK c j) .zero with
     | true=>
      rw[v8 true Q7]at he;conv=>whnf
      refine ae (wrap_i64 (by(try dsimp only);omega)) ?_;conv=>whnf
      refine⟨a::l,⟨by simp at pf ⊢;omega,by simpa using he⟩,(Wk.sub (by repeat' first|constructor|simp[PX.get]) (by repeat' first|constructor|simp[PX.get]))⟩
     | false=>
      rw[v8 false Q7]at he;conv=>whnf
      refine ag rfl ?_;conv=>whnf
      refine ag (by simp[aK.len,ba]) ?_;conv=>whnf
      refine aQ (decide_eq_true (by
       show((ba (a::l)).length+1)*8<=140737488355328;simp[ba]at pf ⊢;omega)) ?_
      conv=>whnf
      refine ae (wrap_i64 (by(try dsimp only);omega)) ?_;conv=>whnf
      refine⟨a::l ++ [(j:Int)],⟨by simp at pf ⊢;omega,by simpa using he⟩,Wk.sub ⟨rfl,?_,rfl,rfl,rfl,trivial⟩ ⟨rfl,?_,trivial⟩⟩
      ·show some (V.sl 42 1 0 ((ba (a::l)).length+1))=some (V.sl 42 1 0 (a::(l ++ [(j:Int)])).length)
       simp[ba]
      ·show some (Obj.arr 1 (aK.dd (ba (a::l) ++ [[i64 (j:Int)]])))=some (Obj.arr 1 (aK.dd (ba (a::(l ++ [(j:Int)])))))
       simp[ba]
   ·rintro acc ⟨_,he⟩
    have he:M=acc:=by simpa using he
    rw[he]
    cases acc with
    | nil=>
     conv=>whnf
     refine af (fun h=>absurd h (by simp)) (fun _=>?_);conv=>whnf
     exact ab 0 rfl ⟨⟨rfl,rfl⟩,rfl⟩
    | cons a l=>
     conv=>whnf
     refine af (fun h=>absurd h (by simp)) (fun _=>?_);conv=>whnf
     refine ab 1 (ds:=[ax (a::l),i64 0]) ?_ ⟨⟨rfl,rfl⟩,rfl⟩;exact az (bH (es:=ba (a::l)) rfl (by simp[ba])) rfl
 ·simp only[h0,false_and,if_false]
  conv=>whnf
  exact ab 0 rfl ⟨⟨rfl,rfl⟩,rfl⟩
structure qZ where
 row:Int
 t:av
 deriving DecidableEq
def qZ.cells(g:qZ):List D:=i64 g.row::g.t.cells
def qZ.d(g:qZ):D:=.agg g.cells
abbrev Kg:=List (qZ×Int)
def lR(kn:Kg):List (D×D):=kn.map fun p=>(p.1.d,i64 p.2)
def mM:Kg->qZ->Option Int
 | [],_=>none
 | (u,x)::r,t=>if t=u then some x else mM r t
def tM:Kg->qZ->Int->Kg
 | [],t,v=>[(t,v)]
 | (u,x)::r,t,v=>if t=u then (t,v)::r else (u,x)::tM r t v
theorem qm(t u:qZ):fR t.d u.d=some (decide (t=u)):=by
 have h1:=oM t.t u.t;have h1:cQ t.t.cells u.t.cells=some (decide (t.t=u.t)):=h1
 show(match nK (i64 t.row) (i64 u.row),cQ t.t.cells u.t.cells with
  | some p,some q=>some (p&&q)
  | _,_=>none)=_
 rw[h1];show some (decide (t.row=u.row)&&decide (t.t=u.t))=_
 congr 1
 cases t;cases u
 simp
theorem s3{kn:Kg}{t:qZ}(h:mM kn t=none):∀ n,findD t.d (lR kn) n=some none:=by
 induction kn with
 | nil=>intro n;rfl
 | cons p r ih=>
  obtain⟨u,x⟩:=p;intro n;rw[mM]at h;split at h
  ·cases h
  ·rename_i hu
   show(match fR t.d u.d with
    | some true=>some (some (n,i64 x))
    | some false=>findD t.d (lR r) (n+1)
    | none=>none)=_
   rw[qm,decide_eq_false hu];exact ih h (n+1)
theorem BK{kn:Kg}{t:qZ}{v:Int}(h:mM kn t=some v):∀ n,∃ i,findD t.d (lR kn) n=some (some (n+i,i64 v)) /\ ∀ y,(lR kn).set i (t.d,i64 y)=lR (tM kn t y):=by
 induction kn with
 | nil=>cases h
 | cons p r ih=>
  obtain⟨u,x⟩:=p;intro n;rw[mM]at h;split at h
  ·rename_i hu
   cases h;refine⟨0,?_,fun y=>?_⟩
   ·show(match fR t.d u.d with
     | some true=>some (some (n,i64 v))
     | some false=>findD t.d (lR r) (n+1)
     | none=>none)=_
    rw[qm,decide_eq_true hu];rfl
   ·rw[tM,if_pos hu];rfl
  ·rename_i hu
   obtain⟨i,h1,h2⟩:=ih h (n+1);refine⟨i+1,?_,fun y=>?_⟩
   ·show(match fR t.d u.d with
     | some true=>some (some (n,i64 x))
     | some false=>findD t.d (lR r) (n+1)
     | none=>none)=_
    rw[qm,decide_eq_false hu];show findD t.d (lR r) (n+1)=_;rw[h1,show n+1+i=n+(i+1) by omega]
   ·rw[tM,if_neg hu]
    show(u.d,i64 x)::(lR r).set i (t.d,i64 y)=(u.d,i64 x)::lR (tM r t y);rw[h2 y]
theorem Ep{kn:Kg}{t:qZ}(h:mM kn t=none)(y:Int):lR kn ++ [(t.d,i64 y)]=lR (tM kn t y):=by
 induction kn with
 | nil=>rfl
 | cons p r ih=>
  obtain⟨u,x⟩:=p;rw[mM]at h;split at h
  ·cases h
  ·rename_i hu
   rw[tM,if_neg hu];show(u.d,i64 x)::(lR r ++ [(t.d,i64 y)])=_;rw[ih h];rfl
theorem xZ(kn:Kg)(t u:qZ)(y:Int):mM (tM kn t y) u=if u=t then some y else mM kn u:=by
 induction kn with
 | nil=>rfl
 | cons p r ih=>
  obtain⟨w,x⟩:=p;rw[tM];split
  ·rename_i h
   subst h;simp only[mM];split<;>rfl
  ·rename_i h
   simp only[mM];split
   ·rename_i h2
    subst h2;rw[if_neg (fun e=>h e.symm)]
   ·exact ih
def xP(R g:List Int):Bool:=decide (R.length=0)||decide (R=g)
def tV(R:List Int)(f:Kg->av->Option (List (List Int))×Kg):Kg->List (List Int×av)->Option (List (List Int))×Kg
 | kg,[]=>(none,kg)
 | kg,p::r=>if xP R p.1 then
   match (f kg p.2).1 with
   | some l=>(some (p.1::l),(f kg p.2).2)
   | none=>tV R f (f kg p.2).2 r
  else tV R f kg r
def dZ(c:aA)(set:Int):List (List Int)->Int->av->Kg->Option (List (List Int))×Kg
 | [],_,_,kg=>(some [],kg)
 | R::rest,row,t,kg=>if (mM kg ⟨row,t⟩).isSome then (none,kg) else
  match (tV R (fun kg u=>dZ c set rest (row+1) u kg) kg (cW c set t)).1 with
  | some l=>(some l,(tV R (fun kg u=>dZ c set rest (row+1) u kg) kg (cW c set t)).2)
  | none=>(none,tM (tV R (fun kg u=>dZ c set rest (row+1) u kg) kg (cW c set t)).2 ⟨row,t⟩ 1)
def CQ(kg:Kg):Prop:=∀ g v,mM kg g=some v->v=1
def Below(row:Int)(a b:Kg):Prop:=∀ g:qZ,g.row<row->mM b g=mM a g
theorem Cs{R:List Int}{f:Kg->av->Option (List (List Int))×Kg}{row:Int}(hf:∀ kg u,CQ kg->CQ (f kg u).2/\Below row kg (f kg u).2):∀ (l:List (List Int×av)) (kg:Kg),CQ kg->CQ (tV R f kg l).2/\Below row kg (tV R f kg l).2
 | [],kg,h=>⟨h,fun _ _=>rfl⟩
 | p::r,kg,h=>by
  obtain⟨h1,h2⟩:=hf kg p.2 h;rw[tV];split
  ·split
   ·exact⟨h1,h2⟩
   ·obtain⟨h3,h4⟩:=Cs hf r (f kg p.2).2 h1
    exact⟨h3,fun g hg=>(h4 g hg).trans (h2 g hg)⟩
  ·exact Cs hf r kg h
theorem Dg{c:aA}{set:Int}:∀ (rows:List (List Int)) (row:Int) (t:av) (kg:Kg),CQ kg->CQ (dZ c set rows row t kg).2/\Below row kg (dZ c set rows row t kg).2
 | [],row,t,kg,h=>⟨h,fun _ _=>rfl⟩
 | R::rest,row,t,kg,h=>by
  obtain⟨h1,h2⟩:=Cs (R:=R) (f:=fun kg u=>dZ c set rest (row+1) u kg) (row:=row+1) (fun kg u hk=>Dg rest (row+1) u kg hk) (cW c set t) kg h;rw[dZ];split
  ·exact⟨h,fun _ _=>rfl⟩
  split
  ·exact⟨h1,fun g hg=>h2 g (by omega)⟩
  ·refine⟨fun g v hv=>?_,fun g hg=>?_⟩
   ·simp only at hv
    rw[xZ]at hv;split at hv
    ·cases hv;rfl
    ·exact h1 g v hv
   ·show mM (tM _ _ _) g=_
    rw[xZ,if_neg (by rintro rfl;simp at hg)];exact h2 g (by omega)
def Df(n:Nat)(r:Option (List (List Int))×Kg):V:=match r.1 with
 | some _=>.tup [.sl 2000000 1 0 n,.d (.bool true)]
 | none=>.d (.tup [.nils,.bool false])
def uo(row:Nat)(r:Option (List (List Int))×Kg):Heap:=match r.1 with
 | some l=>[(1000000,.map (lR r.2)),(2000000,.arr 1 (.dd (List.replicate row [.nils]++l.map fun r=>[ax r])))]
 | none=>[(1000000,.map (lR r.2))]
theorem Ws(a b:List Int)(ha:a.length<4000000000000000000)(hb:b.length<4000000000000000000):bq Tryz.prog 163 [ax a,ax b] (.bool (decide (a=b))):=by
 refine aI mixed ak Tryz.func163 rfl (ft:=TP) 2 (by decide +kernel) (by rfl) fun {σ} Y st=>?_;conv=>whnf
 refine af (fun h0=>?_) (fun h0=>?_)
 ·have h0:¬ a.length=b.length:=by
   have:¬ ((a.length:Int)=b.length):=by simpa using h0
   omega
  conv=>whnf
  rw[decide_eq_false (fun e=>h0 (by rw[e]))];exact ab 0 rfl ⟨⟨rfl,rfl⟩,rfl⟩
 have h0:a.length=b.length:=by
  have:((a.length:Int)=b.length):=by simpa using h0
  omega
 conv=>whnf
 refine bx (T:=tys) ak (by exact an mixed ak (by decide +kernel)) a (fun i (_:Unit)=>⟨[(0,.d (ax a)),(1,.d (ax b)),(4,.d (.bool false)),(12,.d (i64 a.length)),(13,.d (i64 i))],[],st⟩)
  (fun i r _=>(decide (a=b))=decide (r=b.drop i)) () (Wk.sub (by repeat' first|constructor|simp[PX.get]) trivial) rfl ?_ ?_
 ·intro i x r _ hx hi hr he
  have UQ:i<b.length:=by omega
  have Zh:b.drop i=b[i]::b.drop (i+1):=by rw[List.drop_eq_getElem_cons UQ]
  rw[Zh]at he;have Zv:b[i]?=some b[i]:=List.getElem?_eq_getElem UQ;conv=>whnf
  refine af (fun _=>?_) (fun h=>absurd hi (by have:=of_decide_eq_false h;omega));conv=>whnf
  refine aw hx ?_;conv=>whnf
  refine aw Zv ?_;conv=>whnf
  refine af (fun h1=>?_) (fun h1=>?_)
  ·have h1:¬ x=b[i]:=by simpa using h1
   conv=>whnf
   rw[he,decide_eq_false (fun e=>h1 (List.cons.inj e).1)];exact ab 0 rfl ⟨⟨rfl,rfl⟩,rfl⟩
  ·have h1:x=b[i]:=by simpa using h1
   conv=>whnf
   refine ae (wrap_i64 (by(try dsimp only);omega)) ?_;conv=>whnf
   refine⟨(),?_,(Wk.sub (by repeat' first|constructor|simp[PX.get]) trivial)⟩;rw[he];exact decide_eq_decide.2 ⟨fun e=>(List.cons.inj e).2,fun e=>by rw[h1,e]⟩
 ·intro _ he
  conv=>whnf
  refine af (fun h=>absurd h (by simp)) (fun _=>?_);conv=>whnf
  have hd:b.drop a.length = []:=by rw[h0];simp
  rw[he,hd];exact ab 0 rfl ⟨⟨rfl,rfl⟩,rfl⟩
theorem EO{g:Nat->Option DO}(B:List (List D)):gn g (aG B)=some B:=by
 have:=dK (g:=g) (vs:=[]) (ds:=[]) rfl B;simpa using this
theorem vT{g:Nat->Option DO}{v:List V}{d:List D}(h:cI g v=some d)(A B:List (List D)):gn g (aG A++v::aG B)=some (A++d::B):=by
 refine dK ?_ A
 show(match cI g v,gn g (aG B) with
  | some a,some l=>some (a::l)
  | _,_=>none)=_
 rw[h,EO B]
theorem rn(A B:List (List D))(v:List V):bJ (aG A++v::aG B).flatten=bJ v:=by
 rw[dq,List.flatten_cons,oD,dt,oE,List.append_nil]
theorem uH(B:List (List D))(x:List D)(y:List V):∀ A:List (List D),(aG (A++x::B)).set A.length y=aG A++y::aG B
 | []=>rfl
 | a::A=>by
  show inj a::(aG (A++x::B)).set A.length y=inj a::(aG A++y::aG B);rw[uH B x y A]
def Br(c:aA)(set:Int)(rota:List (List Int))(rows:List (List Int)):Prop:=
 ∀ (row:Nat) (t:av) (kg:Kg),jz c t->CQ kg->rota.drop row=rows->row+rows.length=rota.length->o9 Tryz.prog 104 [.d (bC c set),.d (qZ.d ⟨row,t⟩),.d (bt rota),.mp 1000000] [(1000000,.map (lR kg))] fun v h'=>
  v=Df rota.length (dZ c set rows row t kg)/\h'=uo row (dZ c set rows row t kg)
theorem KT{c:aA}{set:Int}{rota:List (List Int)}(hl:rota.length<=100):Br c set rota []:=by
 intro row t kg ht hk hd hlen σ Y s;refine dQ mixed ak Tryz.func104 rfl (ft:=Hk) (args:=[.d (bC c set),.d (qZ.d ⟨row,t⟩),.d (bt rota),.mp 1000000]) (show nS Hk Tryz.f104 4=true from by decide +kernel) ?_;conv=>whnf
 have LG:row=rota.length:=by simpa using hlen
 refine af (fun h0=>?_) (fun h0=>absurd h0 (by simp[LG]));conv=>whnf
 refine aQ (by simp;rfl) ?_;conv=>whnf
 refine aQ (decide_eq_true (by dsimp only;simp;omega)) ?_;conv=>whnf
 have hn:((rota.map fun r=>[ax r]).length:Int).toNat=rota.length:=by simp
 rw[hn];refine aC [22] [.sl 2000000 1 0 rota.length,.d (.bool true)] [(1000000,.map (lR kg)),(2000000,.arr 1 (.dd (List.replicate rota.length [.nils])))] rfl ⟨rfl,rfl,trivial⟩ rfl ⟨⟨rfl,?_⟩,rfl⟩;rw[dZ,<- LG];simp[uo]
theorem jV(row:Nat)(l:List (List D)):List.replicate (row+1) [D.nils]++l=List.replicate row [.nils] ++ [.nils]::l:=by
 rw[List.replicate_succ'];simp
theorem BJ{kg:Kg}{g:qZ}(h:mM kg g=none):findD g.d (lR kg ++ [(g.d,i64 0)]) 0=some (some ((lR kg).length,i64 0)):=by
 have key:∀ (kg:Kg) (n:Nat),mM kg g=none->findD g.d (lR kg ++ [(g.d,i64 0)]) n=some (some (n+(lR kg).length,i64 0)):=by
  intro kg
  induction kg with
  | nil=>
   intro n _
   show(match fR g.d g.d with
    | some true=>some (some (n,i64 0))
    | some false=>findD g.d [] (n+1)
    | none=>none)=_
   rw[qm,decide_eq_true rfl];rfl
  | cons p r ih=>
   obtain⟨u,v⟩:=p;intro n h;rw[mM]at h;split at h
   ·cases h
   ·rename_i hu
    show(match fR g.d u.d with
     | some true=>some (some (n,i64 v))
     | some false=>findD g.d (lR r ++ [(g.d,i64 0)]) (n+1)
     | none=>none)=_
    rw[qm,decide_eq_false hu];show findD g.d (lR r ++ [(g.d,i64 0)]) (n+1)=_;rw[ih (n+1) h];simp[lR];omega
 have:=key kg 0 h
 rwa [Nat.zero_add]at this
theorem vP(k:D)(v w:D):∀ l:List (D×D),l7 (l ++ [(k,v)]) l.length w=l ++ [(k,w)]
 | []=>rfl
 | (a,b)::r=>by
  show(a,b)::l7 (r ++ [(k,v)]) r.length w=_;rw[vP k v w r];rfl
set_option maxHeartbeats 4000000 in
theorem IB{c:aA}(hR:WR c){set:Int}{rota:List (List Int)}(hl:rota.length<=100)(HB:∀ r∈rota,r.length<1000){R:List Int}{rest:List (List Int)}(ih:Br c set rota rest):Br c set rota (R::rest):=by
 intro row t kg ht hk hd hlen σ Y s;refine dQ mixed ak Tryz.func104 rfl (ft:=(Hk.more 12 [104096]).less 14) (args:=[.d (bC c set),.d (qZ.d ⟨row,t⟩),.d (bt rota),.mp 1000000]) (show nS ((Hk.more 12 [104096]).less 14) Tryz.f104 4=true from by decide +kernel) ?_;conv=>whnf
 have LG:row<rota.length:=by simp at hlen;omega
 have Uu:rota[row]?=some R:=by
  have:=List.getElem?_drop (xs:=rota) (i:=row) (j:=0);rw[hd]at this;simpa using this.symm
 have hRm:R.length<1000:=HB R (List.mem_of_getElem? Uu);have SF:rota.drop (row+1)=rest:=by
  rw[<- List.drop_drop,hd];rfl
 have Lt:row+1+rest.length=rota.length:=by simp at hlen;omega
 refine af (fun h0=>absurd h0 (by simp;omega)) (fun _=>?_);conv=>whnf
 have P1:((row:Int)+1)=((row+1:Nat):Int):=by omega
 cases hg:mM kg ⟨row,t⟩ with
 | some v=>
  cases hk _ v hg
  obtain⟨ix,mf,ub⟩:=BK hg 0;refine⟨_,mf,?_⟩;conv=>whnf
  have hF:dZ c set (R::rest) row t kg=(none,kg):=by rw[dZ,hg];rfl
  rw[hF];exact aC [] [.d .nils,.d (.bool false)] [(1000000,.map (lR kg))] rfl ⟨rfl,trivial⟩ rfl ⟨⟨rfl,rfl⟩,rfl⟩
 | none=>
  refine⟨none,s3 hg 0,?_⟩;conv=>whnf
  refine ai (GO c set t) rfl rfl ?_;conv=>whnf
  obtain⟨pV,CM⟩:=ht.tok hR;generalize hT:tV R (fun kg u=>dZ c set rest (row+1) u kg) kg (cW c set t)=T
  have hF:dZ c set (R::rest) row t kg=(match T.1 with
   | some l=>(some l,T.2)
   | none=>(none,tM T.2 ⟨row,t⟩ 1)):=by
   rw[dZ,hg];simp only[Option.isSome_none,Bool.false_eq_true,if_false];rw[hT];all_goals (obtain⟨a,b⟩:=T;cases a<;>rfl)
  rw[hF];refine iK.wk (st':=⟨[(4,.ptr 4 0),(5,.ptr 5 0),(6,.ptr 6 0),(7,.ptr 7 0),(8,.ptr 8 0),(9,.ptr 9 0),(30,.d (.clo 127 [.ref [bC c set],.ref t.cells]))],[(1000000,.map (lR kg)),(4,.box (.dd [bC c set])),(5,.box (.dd (qZ.cells ⟨row,t⟩))),(6,.box (.dd [bt rota])),(7,.box (.vv [.mp 1000000])),(8,.box (.dd [.nils])),(9,.box (.dd [.bool false]))],s⟩) (Wk.sub (by repeat' first|constructor|simp[PX.get]) (by repeat' first|constructor|simp[PX.get])) ?_;refine fV ak (by exact an mixed ak (by decide +kernel)) (by exact an mixed ak (by decide +kernel)) rfl 1500000 1600000 [4,5,6,7,8,9] (by exact mb c hR set t pV CM)
   (fun(x:Kg)=>([(1000000,.map (lR x)),(1500000,.box (.dd [bC c set])),(1500001,.box (.dd (qZ.cells ⟨row,t⟩))),(1500002,.box (.dd [bt rota])),(1500003,.box (.vv [.mp 1000000])),(1500004,.box (.dd [.nils])),(1500005,.box (.dd [.bool false]))],s))
   (fun(l:List (List Int×av)) x=>tV R (fun kg u=>dZ c set rest (row+1) u kg) x l=T/\CQ x/\mM x ⟨row,t⟩=none /\ ∀ p∈l,p.1.length<=2/\jz c p.2) kg rfl rfl rfl ⟨hT,hk,hg,fun p hp=>⟨lH hR hp,gf hR ht hp⟩⟩ ?_ ?_
  ·rintro ⟨g,u⟩ l x ⟨he,DD,Lm,Hu⟩ Q yd hQ
   clear hF;obtain⟨gC,hu⟩:=Hu (g,u) (by simp);have wG:g.length<=1000:=by simp only at gC;omega
   have FH:∀ p∈l,p.1.length<=2/\jz c p.2:=fun p hp=>Hu p (by simp[hp]);refine⟨⟨rfl,lO _⟩,?_⟩;rw[tV]at he;conv=>whnf
   refine aw Uu ?_;conv=>whnf
   have PS:=Dg (c:=c) (set:=set) rest ((row+1:Nat):Int) u x DD;rw[<- P1]at PS;have hI:o9 Tryz.prog 104 [.d (bC c set),.d (qZ.d ⟨(row+1:Nat),u⟩),.d (bt rota),.mp 1000000] [(1000000,.map (lR x))] (fun v h'=>v=Df rota.length (dZ c set rest ((row:Int)+1) u x)/\h'=uo (row+1) (dZ c set rest ((row:Int)+1) u x)):=by
    rw[P1];exact fun {σ}=>ih (row+1) u x hu DD SF Lt
   simp only at he;refine af (fun h1=>?_) (fun h1=>?_)
   ·have h1:0<R.length:=by simpa using h1
    conv=>whnf
    refine aB (ds:=[ax R,ax g]) (Ws R g (by omega) (by omega)) rfl 1 (az rfl (az (bH rfl (by simp[ba])) rfl)) ?_;conv=>whnf
    refine af (fun h2=>?_) (fun h2=>?_)
    ·have h2:¬ R=g:=by simpa using h2
     have Li:xP R g=false:=by unfold xP;rw[decide_eq_false (by omega),decide_eq_false h2];rfl
     rw[Li]at he;conv=>whnf
     exact⟨x,(Wk.sub trivial (by repeat' first|constructor|simp[PX.get])),rfl,yd x ⟨he,DD,Lm,FH⟩⟩
    ·have h2:R=g:=by simpa using h2
     have Li:xP R g=true:=by unfold xP;rw[decide_eq_true h2,Bool.or_true]
     rw[Li]at he;simp only[if_true]at he;generalize hF2:dZ c set rest ((row:Int)+1) u x=r2 at he hI PS;obtain⟨o,HN⟩:=r2;obtain⟨gu,mn⟩:=PS
     cases o with
     | none=>
      conv=>whnf
      refine ao (((row+1:Nat):Int)) (by(try dsimp only);omega) (wrap_i64 (by(try dsimp only);omega)) ?_;conv=>whnf
      refine aY hI [1000000] rfl ⟨_,_,rfl,rfl,rfl⟩ rfl ?_;conv=>whnf
      exact⟨HN,(Wk.sub trivial (by repeat' first|constructor|simp[PX.get])),rfl,yd HN ⟨he,gu,(mn ⟨row,t⟩ (by simp only;omega)).trans Lm,FH⟩⟩
     | some l2=>
      simp only at he;subst he;conv=>whnf
      refine ao (((row+1:Nat):Int)) (by(try dsimp only);omega) (wrap_i64 (by(try dsimp only);omega)) ?_;conv=>whnf
      refine aY hI [1000000] rfl ⟨_,_,rfl,rfl,rfl⟩ rfl ?_;conv=>whnf
      refine cE (zm g wG) [1600000] rfl ⟨_,_,rfl,rfl,rfl⟩ rfl ?_;conv=>whnf
      refine aQ (by simp;omega) ?_;conv=>whnf
      have Va:0+((row:Int)).toNat=row:=by simp
      have CH:(List.replicate (row+1) [D.nils]++l2.map fun r=>[ax r])[0+((row:Int)).toNat]?=some [.nils]:=by
       rw[Va,jV,List.getElem?_append_right (by simp)];simp
      have iQ:∀ y:List V,(aG (List.replicate (row+1) [D.nils]++l2.map fun r=>[ax r])).set (0+((row:Int)).toNat) y=aG (List.replicate row [D.nils])++y::aG (l2.map fun r=>[ax r]):=by
       intro y;have h1:=uH (l2.map fun r=>[ax r]) [D.nils] y (List.replicate row [D.nils]);rw[List.length_replicate]at h1;rw[Va,jV];exact h1
      refine cD [.nils] CH ?_;conv=>whnf
      refine fN [104096] (by
       show bJ (((aG (List.replicate (row+1) [D.nils]++l2.map fun r=>[ax r])).set (0+((row:Int)).toNat) [V.sl 104096 1 0 g.length]).flatten) ++ []=_;rw[iQ,rn];rfl) ?_
      conv=>whnf
      refine⟨[(1000000,.map (lR HN)),(1500000,.box (.dd [bC c set])),(1500001,.box (.dd (qZ.cells ⟨row,t⟩))),(1500002,.box (.dd [bt rota])),(1500003,.box (.vv [.mp 1000000])),(1500004,.box (.vv [.sl 103584 1 0 rota.length])),(1500005,.box (.dd [.bool true])),(103584,.arr 1 (.dd (List.replicate row [D.nils] ++ [ax g]::l2.map fun r=>[ax r])))],s,(Wk.iB 1 [104096] 103584 (sz:=1) (vs:=aG (List.replicate row [D.nils]) ++ [.sl 104096 1 0 g.length]::aG (l2.map fun r=>[ax r])) (ds:=List.replicate row [D.nils] ++ [ax g]::l2.map fun r=>[ax r]) ?_ (vT (az (bH rfl (by simp[ba])) rfl) _ _)).trans ?_,rfl,hQ _ _ _ ?_⟩
      ·show some (Obj.arr 1 (aK.vv ((aG (List.replicate (row+1) [D.nils]++l2.map fun r=>[ax r])).set (0+((row:Int)).toNat) [V.sl 104096 1 0 g.length])))=_
       rw[iQ]
      ·exact(Wk.sub trivial (by repeat' first|constructor|simp[PX.get]))
      ·clear hQ yd
       conv=>whnf
       refine nY (l':=[.sl 103584 1 0 rota.length,.d (.bool true)]) (h':=[(1000000,.map (lR HN)),(103584,.arr 1 (.dd (List.replicate row [D.nils] ++ [ax g]::l2.map fun r=>[ax r])))]) (Wk.sub ⟨rfl,rfl,trivial⟩ ⟨rfl,rfl,trivial⟩) rfl rfl ?_;refine aC [103584] [.sl 2000000 1 0 rota.length,.d (.bool true)] [(1000000,.map (lR HN)),(2000000,.arr 1 (.dd (List.replicate row [.nils]++(g::l2).map fun r=>[ax r])))] rfl ⟨rfl,rfl,trivial⟩ rfl ⟨⟨rfl,rfl⟩,rfl⟩
   ·have h1:R.length=0:=by
     have:¬ 0<R.length:=by simpa using h1
     omega
    have Li:xP R g=true:=by unfold xP;rw[decide_eq_true h1];rfl
    rw[Li]at he;simp only[if_true]at he;generalize hF2:dZ c set rest ((row:Int)+1) u x=r2 at he hI PS;obtain⟨o,HN⟩:=r2;obtain⟨gu,mn⟩:=PS
    cases o with
    | none=>
     conv=>whnf
     refine ao (((row+1:Nat):Int)) (by(try dsimp only);omega) (wrap_i64 (by(try dsimp only);omega)) ?_;conv=>whnf
     refine aY hI [1000000] rfl ⟨_,_,rfl,rfl,rfl⟩ rfl ?_;conv=>whnf
     exact⟨HN,(Wk.sub trivial (by repeat' first|constructor|simp[PX.get])),rfl,yd HN ⟨he,gu,(mn ⟨row,t⟩ (by simp only;omega)).trans Lm,FH⟩⟩
    | some l2=>
     simp only at he;subst he;conv=>whnf
     refine ao (((row+1:Nat):Int)) (by(try dsimp only);omega) (wrap_i64 (by(try dsimp only);omega)) ?_;conv=>whnf
     refine aY hI [1000000] rfl ⟨_,_,rfl,rfl,rfl⟩ rfl ?_;conv=>whnf
     refine cE (zm g wG) [1600000] rfl ⟨_,_,rfl,rfl,rfl⟩ rfl ?_;conv=>whnf
     refine aQ (by simp;omega) ?_;conv=>whnf
     have Va:0+((row:Int)).toNat=row:=by simp
     have CH:(List.replicate (row+1) [D.nils]++l2.map fun r=>[ax r])[0+((row:Int)).toNat]?=some [.nils]:=by
      rw[Va,jV,List.getElem?_append_right (by simp)];simp
     have iQ:∀ y:List V,(aG (List.replicate (row+1) [D.nils]++l2.map fun r=>[ax r])).set (0+((row:Int)).toNat) y=aG (List.replicate row [D.nils])++y::aG (l2.map fun r=>[ax r]):=by
      intro y;have h1:=uH (l2.map fun r=>[ax r]) [D.nils] y (List.replicate row [D.nils]);rw[List.length_replicate]at h1;rw[Va,jV];exact h1
     refine cD [.nils] CH ?_;conv=>whnf
     refine fN [104096] (by
      show bJ (((aG (List.replicate (row+1) [D.nils]++l2.map fun r=>[ax r])).set (0+((row:Int)).toNat) [V.sl 104096 1 0 g.length]).flatten) ++ []=_;rw[iQ,rn];rfl) ?_
     conv=>whnf
     refine⟨[(1000000,.map (lR HN)),(1500000,.box (.dd [bC c set])),(1500001,.box (.dd (qZ.cells ⟨row,t⟩))),(1500002,.box (.dd [bt rota])),(1500003,.box (.vv [.mp 1000000])),(1500004,.box (.vv [.sl 103584 1 0 rota.length])),(1500005,.box (.dd [.bool true])),(103584,.arr 1 (.dd (List.replicate row [D.nils] ++ [ax g]::l2.map fun r=>[ax r])))],s,(Wk.iB 1 [104096] 103584 (sz:=1) (vs:=aG (List.replicate row [D.nils]) ++ [.sl 104096 1 0 g.length]::aG (l2.map fun r=>[ax r])) (ds:=List.replicate row [D.nils] ++ [ax g]::l2.map fun r=>[ax r]) ?_ (vT (az (bH rfl (by simp[ba])) rfl) _ _)).trans ?_,rfl,hQ _ _ _ ?_⟩
     ·show some (Obj.arr 1 (aK.vv ((aG (List.replicate (row+1) [D.nils]++l2.map fun r=>[ax r])).set (0+((row:Int)).toNat) [V.sl 104096 1 0 g.length])))=_
      rw[iQ]
     ·exact(Wk.sub trivial (by repeat' first|constructor|simp[PX.get]))
     ·clear hQ yd
      conv=>whnf
      refine nY (l':=[.sl 103584 1 0 rota.length,.d (.bool true)]) (h':=[(1000000,.map (lR HN)),(103584,.arr 1 (.dd (List.replicate row [D.nils] ++ [ax g]::l2.map fun r=>[ax r])))]) (Wk.sub ⟨rfl,rfl,trivial⟩ ⟨rfl,rfl,trivial⟩) rfl rfl ?_;refine aC [103584] [.sl 2000000 1 0 rota.length,.d (.bool true)] [(1000000,.map (lR HN)),(2000000,.arr 1 (.dd (List.replicate row [.nils]++(g::l2).map fun r=>[ax r])))] rfl ⟨rfl,rfl,trivial⟩ rfl ⟨⟨rfl,rfl⟩,rfl⟩
  ·rintro x ⟨he,DD,Lm,_⟩
   have he:(none,x)=T:=he;subst he;have hN:findD (qZ.d ⟨row,t⟩) (lR x) 0=some none:=s3 Lm 0;have hS:findD (qZ.d ⟨row,t⟩) (lR x ++ [(qZ.d ⟨row,t⟩,i64 0)]) 0=some (some ((lR x).length,i64 0)):=BJ Lm;have hV:l7 (lR x ++ [(qZ.d ⟨row,t⟩,i64 0)]) (lR x).length (i64 1)=lR (tM x ⟨row,t⟩ 1):=by
    rw[<- Ep Lm];exact vP ..
   have hB:(decide ((0:Int)<=(lR x).length)&&decide (((lR x).length:Int)<(lR x ++ [(qZ.d ⟨row,t⟩,i64 0)]).length))=true:=by
    simp;omega
   conv=>whnf
   refine u5 mixed ak [[],[],[0,1],[2],[0,1],[4],[0,5,3]] (by decide +kernel) ?_;conv=>whnf
   repeat' (first
    | trivial
    | (refine And.intro ?_ ?_<;>conv=>whnf)
    | (refine Aq.mk none hN ?_;conv=>whnf)
    | (refine Aq.mk _ hS ?_;conv=>whnf)
    | (refine ae (by decide) ?_;conv=>whnf)
    | (refine aQ hB ?_;conv=>whnf))
   all_goals exact aC [] [.d .nils,.d (.bool false)] [(1000000,.map (lR (tM x ⟨row,t⟩ 1)))] rfl ⟨(by rw[<- hV];rfl),trivial⟩ rfl ⟨⟨rfl,rfl⟩,rfl⟩
theorem BH{c:aA}(hR:WR c){set:Int}{rota:List (List Int)}(hl:rota.length<=100)(HB:∀ r∈rota,r.length<1000):∀ rows:List (List Int),Br c set rota rows
 | []=>KT hl
 | _::rest=>IB hR hl HB (BH hR hl HB rest)
def pI(rota:List (List Int)):Nat:=(rota.filter fun r=>decide (r.length=0)).length
theorem vh(x:List Int)(r:List (List Int)):pI (x::r)=(if x.length=0 then 1 else 0)+pI r:=by
 unfold pI;rw[List.filter_cons];by_cases h:x.length=0
 ·rw[if_pos (by simp[h]),if_pos h];simp;omega
 ·rw[if_neg (by simpa using h),if_neg h];omega
theorem zj{R:List Int}{f:Kg->av->Option (List (List Int))×Kg}{n:Nat}(hf:∀ kg u l,(f kg u).1=some l->l.length=n):∀ (gs:List (List Int×av)) (kg:Kg) (l:List (List Int)),(tV R f kg gs).1=some l->l.length=n+1
 | [],kg,l,h=>by simp[tV]at h
 | p::r,kg,l,h=>by
  rw[tV]at h;split at h
  ·split at h
   ·rename_i l2 N9
    cases h;simp[hf _ _ _ N9]
   ·exact zj hf r _ l h
  ·exact zj hf r kg l h
theorem Ao{c:aA}{set:Int}:∀ (rows:List (List Int)) (row:Int) (t:av) (kg:Kg) (l:List (List Int)),(dZ c set rows row t kg).1=some l->l.length=rows.length
 | [],row,t,kg,l,h=>by cases h;rfl
 | R::rest,row,t,kg,l,h=>by
  rw[dZ]at h;split at h
  ·cases h
  split at h
  ·rename_i l2 N9
   cases h;exact zj (fun kg u l hl=>Ao rest _ _ _ l hl) _ _ _ N9
  ·cases h
def De(c:aA)(rota:List (List Int)):Option (List (List Int)):=(dZ c (aN c) rota 0 .zero []).1
def sZ(c:aA)(rota:List (List Int)):Int:=if cB c rota=0 then (if (pI rota:Int)>12 then 7 else if (De c rota).isSome then 0 else 9) else cB c rota
def KS(c:aA)(rota:List (List Int)):List (List Int):=(De c rota).getD []
theorem zb{c:aA}{rota:List (List Int)}(h:cB c rota=0):∀ r∈rota,r.length<1000:=fun r hr=>by
 obtain⟨hR,hl,cn⟩:=kz h;have hm:=hR.bQ;rcases pz (cn r hr) with h1|h1
 ·rw[h1];simp
 ·omega
theorem aaW(c:aA)(rota:List (List Int)):bq Tryz.prog 36 [c.d,bt rota] (.tup [if sZ c rota=0 then bt (KS c rota) else .nils,i64 (sZ c rota)]):=by
 refine aI mixed ak Tryz.func36 rfl (ft:=Yc) 2 (by decide +kernel) (by rfl) fun {σ} Y st=>?_;conv=>whnf
 refine ai (ET c rota) rfl rfl ?_;conv=>whnf
 by_cases h0:cB c rota=0
 ·obtain⟨hR,hl,_⟩:=kz h0
  have zy:=zb h0;rw[h0];simp only[if_true];conv=>whnf
  rw[List.length_map];refine bx (T:=tys) ak (by exact an mixed ak (by decide +kernel)) rota (fun i (n:Nat)=>⟨[(1,.d (bt rota)),(4,.d .nils),(5,.d (i64 0)),(6,.d (bC c (aN c))),(8,.d (i64 n)),(22,.d (bt rota)),(23,.d (i64 rota.length)),(24,.d (i64 i))],[],st⟩)
   (fun i r n=>n<=i/\pI rota=n+pI r) 0 (Wk.sub (by repeat' first|constructor|simp[PX.get]) trivial) ⟨by simp,by simp⟩ ?_ ?_
  ·rintro i x r n hx hi wK ⟨hn,he⟩
   conv=>whnf
   refine af (fun _=>?_) (fun h=>absurd hi (by have:=of_decide_eq_false h;omega));conv=>whnf
   refine aw hx ?_;conv=>whnf
   refine af (fun h1=>?_) (fun h1=>?_)
   ·have h1:x.length=0:=by
     have:((x.map fun n=>[i64 n]).length:Int)=0:=of_decide_eq_true h1;simpa using this
    conv=>whnf
    refine ao (((n+1:Nat):Int)) (by(try dsimp only);omega) (wrap_i64 (by(try dsimp only);omega)) ?_;conv=>whnf
    refine ae (wrap_i64 (by(try dsimp only);omega)) ?_;conv=>whnf
    refine⟨n+1,⟨by omega,?_⟩,(Wk.sub (by repeat' first|constructor|simp[PX.get]) trivial)⟩;rw[he,vh,if_pos h1];omega
   ·have h1:¬ x.length=0:=by
     have:¬ ((x.map fun n=>[i64 n]).length:Int)=0:=of_decide_eq_false h1;simpa using this
    conv=>whnf
    refine ae (wrap_i64 (by(try dsimp only);omega)) ?_;conv=>whnf
    refine⟨n,⟨by omega,?_⟩,(Wk.sub (by repeat' first|constructor|simp[PX.get]) trivial)⟩;rw[he,vh,if_neg h1];omega
  ·rintro n ⟨hn,he⟩
   have he:pI rota=n:=by simpa[pI]using he
   conv=>whnf
   refine af (fun h=>absurd h (by simp)) (fun _=>?_);conv=>whnf
   refine af (fun h1=>?_) (fun h1=>?_)
   ·have h1:(n:Int)>12:=of_decide_eq_true h1
    have hE:sZ c rota=7:=by rw[sZ,if_pos h0,if_pos (by rw[he];exact h1)]
    rw[hE];conv=>whnf
    exact ab 0 rfl ⟨⟨rfl,rfl⟩,rfl⟩
   have h1:¬ (n:Int)>12:=of_decide_eq_false h1;have hE:sZ c rota=if (De c rota).isSome then 0 else 9:=by rw[sZ,if_pos h0,if_neg (by rw[he];exact h1)]
   have hI:o9 Tryz.prog 104 [.d (bC c (aN c)),.d (qZ.d ⟨(0:Nat),.zero⟩),.d (bt rota),.mp 1000000] [(1000000,.map (lR []))] (fun v h'=>v=Df rota.length (dZ c (aN c) rota 0 .zero [])/\h'=uo 0 (dZ c (aN c) rota 0 .zero [])):=
    fun {σ}=>BH hR (by omega) zy rota 0 .zero [] (jz.zero hR) (fun g v h=>by cases h) rfl (by simp)
   have hL:De c rota=(dZ c (aN c) rota 0 .zero []).1:=rfl;unfold KS;rw[hE];generalize dZ c (aN c) rota 0 .zero []=r2 at hI hL;obtain⟨o,HN⟩:=r2;have hL:De c rota=o:=hL;rw[hL]
   cases o with
   | none=>
    conv=>whnf
    refine aY hI [40] rfl ⟨_,_,rfl,rfl,rfl⟩ rfl ?_;conv=>whnf
    exact ab 0 rfl ⟨⟨rfl,rfl⟩,rfl⟩
   | some l=>
    conv=>whnf
    refine aY hI [40] rfl ⟨_,_,rfl,rfl,rfl⟩ rfl ?_;conv=>whnf
    have Lu:l.length=rota.length:=Ao rota 0 .zero [] l hL;refine ab 1 (ds:=[bt l,i64 0]) ?_ ⟨⟨rfl,rfl⟩,rfl⟩;exact az (bH (es:=l.map fun r=>[ax r]) rfl (by simp[Lu])) rfl
 ·have hE:sZ c rota=cB c rota:=by rw[sZ,if_neg h0]
  rw[hE];simp only[h0,if_false];conv=>whnf
  exact ab 0 rfl ⟨⟨rfl,rfl⟩,rfl⟩
theorem EU{c:aA}{set:Int}:∀ {l1 l2:List (List Int)} {t:av} {i:Int},0<=i->(bO c set t (l1++l2) i).1.1 = -1->(bO c set t l1 i).1.1 = -1
 | [],l2,t,i,_,_=>rfl
 | r::l1,l2,t,i,hi,h=>by
  rw[List.cons_append,bO]at h;rw[bO];split
  ·rename_i h1
   rw[if_pos h1]at h;exact EU (by omega) h
  ·rename_i h1
   rw[if_neg h1]at h;exact h
def D8(c:aA)(rota:List (List Int))(from_:Int):av:=(bO c (aN c) .zero (rota.take from_.toNat) 0).2
def nC(c:aA)(rota:List (List Int))(from_:Int):Int:=
 if cB c rota=0 then (if ¬ (0<=from_/\from_<=rota.length)\/(rota.length:Int)-from_>12 then 7 else if (bO c (aN c) .zero rota 0).1.1≥0 then 9 else 0) else cB c rota
def vf(c:aA)(t:av)(n:Nat)(m:Int):Bool:=(dZ c (eK c m) (List.replicate n []) 0 t []).1.isSome
def FZ(c:aA)(rota:List (List Int))(from_:Int):List Int:=((List.range c.bQ.length).filter fun(i:Nat)=>vf c (D8 c rota from_) (rota.length-from_.toNat) i).map fun(i:Nat)=>(i:Int)
theorem sd:∀ k:Nat,oJ (List.replicate k [D.nils])=(List.replicate k ([]:List Int)).map fun r=>[ax r]
 | 0=>rfl
 | k+1=>by
  rw[List.replicate_succ,List.replicate_succ,oJ,sd k];rfl
theorem aaX(c:aA)(rota:List (List Int))(from_:Int):bq Tryz.prog 37 [c.d,bt rota,i64 from_] (.tup [if nC c rota from_=0 then HM (FZ c rota from_) else .nils,i64 (nC c rota from_)]):=by
 refine aI mixed ak Tryz.func37 rfl (ft:=(Yd.more 14 [105888])) 3 (by decide +kernel) (by rfl) fun {σ} Y st=>?_;conv=>whnf
 refine ai (ET c rota) rfl rfl ?_;conv=>whnf
 by_cases h0:cB c rota=0
 ·obtain⟨hR,hl,_⟩:=kz h0
  have zy:=zb h0;have hm:=hR.bQ;rw[h0];simp only[if_true];conv=>whnf
  rw[List.length_map];refine aB (ds:=[i64 0,i64 rota.length,.vs [[i64 from_]]]) (oQ 0 rota.length from_) rfl 1 rfl ?_;conv=>whnf
  refine af (fun h1=>?_) (fun h1=>?_)
  ·have h1:¬ (0<=from_/\from_<=rota.length):=by
    intro h2;have:fX from_ 0 rota.length=true:=gv.2 h2;rw[this]at h1;cases h1
   have hE:nC c rota from_=7:=by rw[nC,if_pos h0,if_pos (.inl h1)]
   rw[hE];conv=>whnf
   exact ab 0 rfl ⟨⟨rfl,rfl⟩,rfl⟩
  have h1:0<=from_/\from_<=rota.length:=by
   have:fX from_ 0 rota.length=true:=by simpa using h1
   exact gv.1 this
  have Xd:((rota.map fun r=>[ax r]).length:Int)=rota.length:=by simp
  conv=>whnf
  refine ao ((rota.length:Int)-from_) (by rw[Xd]) (wrap_i64 (by omega)) ?_;conv=>whnf
  refine af (fun h2=>?_) (fun h2=>?_)
  ·have h2:(rota.length:Int)-from_>12:=of_decide_eq_true h2
   have hE:nC c rota from_=7:=by rw[nC,if_pos h0,if_pos (.inr h2)]
   rw[hE];conv=>whnf
   exact ab 0 rfl ⟨⟨rfl,rfl⟩,rfl⟩
  have h2:¬ (rota.length:Int)-from_>12:=of_decide_eq_false h2;have hz:=TG.zero hR;have hrk:=wS h0;conv=>whnf
  refine ai (ds:=[bC c (aN c),av.zero.d,bt rota]) (Pf c hR (aN c) .zero hz.slot hz.bd rota hrk hl) rfl rfl ?_;conv=>whnf
  refine af (fun h3=>?_) (fun h3=>?_)
  ·have h3:(bO c (aN c) .zero rota 0).1.1≥0:=of_decide_eq_true h3
   have hE:nC c rota from_=9:=by rw[nC,if_pos h0,if_neg (by omega),if_pos h3]
   rw[hE];conv=>whnf
   exact ab 0 rfl ⟨⟨rfl,rfl⟩,rfl⟩
  have h3:¬ (bO c (aN c) .zero rota 0).1.1≥0:=of_decide_eq_false h3;have hE:nC c rota from_=0:=by rw[nC,if_pos h0,if_neg (by omega),if_neg h3]
  rw[hE];have AG:(bO c (aN c) .zero rota 0).1.1 = -1:=by
   rcases Cv (c:=c) (set:=aN c) (rota:=rota) (t:=.zero) (i:=0) with h|h
   ·exact h
   ·omega
  have SG:(bO c (aN c) .zero (rota.take from_.toNat) 0).1.1 = -1:=EU (l2:=rota.drop from_.toNat) (Int.le_refl 0) (by rw[List.take_append_drop];exact AG);have hU:jz c (D8 c rota from_):=zn hR (Int.le_refl 0) (jz.zero hR) SG;conv=>whnf
  refine aQ (by rw[Xd];simp;omega) ?_;conv=>whnf
  refine aQ (by cases rota<;>rfl) ?_;conv=>whnf
  have wg:(((rota.map fun r=>[ax r]).take from_.toNat).drop 0)=(rota.take from_.toNat).map fun r=>[ax r]:=by simp[List.map_take]
  rw[wg];refine ai (ds:=[bC c (aN c),av.zero.d,bt (rota.take from_.toNat)]) (Pf c hR (aN c) .zero hz.slot hz.bd (rota.take from_.toNat) (fun r hr=>hrk r (List.mem_of_mem_take hr)) (by rw[List.length_take];omega)) rfl rfl ?_;conv=>whnf
  generalize hM:FZ c rota from_=M;have hTd:(bO c (aN c) .zero (rota.take from_.toNat) 0).2=D8 c rota from_:=rfl;have hMd:M=((List.range c.bQ.length).filter fun(i:Nat)=>vf c (D8 c rota from_) (rota.length-from_.toNat) i).map fun(i:Nat)=>(i:Int):=hM.symm;clear hM;generalize D8 c rota from_=t at hU hTd hMd;rw[hTd,List.length_map]
  refine bx (T:=tys) ak (by exact an mixed ak (by decide +kernel)) (List.range c.bQ.length) (fun j (acc:List Int)=>⟨[(1,.d (bt rota)),(2,.d (i64 from_)),(3,.ptr 3 0),(6,match acc with
    | []=>.d .nils
    | x::r=>.sl 99 1 0 (x::r).length),(8,.d (bC c (aN c))),(16,.ptr 16 0),(68,.d (i64 c.bQ.length)),(69,.d (i64 j))],match acc with
    | []=>[(3,.box (.dd c.cells)),(16,.box (.dd t.cells))]
    | x::r=>[(3,.box (.dd c.cells)),(16,.box (.dd t.cells)),(99,.arr 1 (.dd (ba (x::r))))],st⟩)
   (fun j r acc=>acc.length<=j/\M=acc++(r.filter fun(i:Nat)=>vf c t (rota.length-from_.toNat) i).map fun(i:Nat)=>(i:Int)) [] (Wk.sub (by repeat' first|constructor|simp[PX.get]) (by repeat' first|constructor|simp[PX.get])) ⟨by simp,hMd⟩ ?_ ?_
  ·intro j x r acc hx hj wK hi
   obtain⟨pf,he⟩:=hi;have P8:j=x:=by
    rw[List.getElem?_range (by simpa using hj)]at hx;exact Option.some.inj hx
   subst P8;have Nl:j<c.bQ.length:=by simpa using hj
   have uG:(1:Int)*2^min (j:Int).toNat IntKind.i64.bits=2^((j:Int).toNat):=by
    rw[show min (j:Int).toNat IntKind.i64.bits=j by show min j 64=j;omega,Int.one_mul];rfl
   have hpb:(2:Int)^((j:Int).toNat)<=32/\0<=(2:Int)^((j:Int).toNat):=by
    have:j=0\/j=1\/j=2\/j=3\/j=4:=by omega
    rcases this with rfl|rfl|rfl|rfl|rfl<;>decide
   have v8:∀ b:Bool,vf c t (rota.length-from_.toNat) j=b->((j::r).filter fun(i:Nat)=>vf c t (rota.length-from_.toNat) i)=(if b then [j] else [])++r.filter fun(i:Nat)=>vf c t (rota.length-from_.toNat) i:=by
    intro b hb;rw[List.filter_cons,hb];cases b<;>rfl
   have hk:((rota.length:Int)-from_).toNat=rota.length-from_.toNat:=by omega
   cases acc with
   | nil=>
    conv=>whnf
    refine af (fun _=>?_) (fun h=>absurd Nl (by have:=of_decide_eq_false h;omega));conv=>whnf
    refine ao (2^((j:Int).toNat)) uG (wrap_i64 (by omega)) ?_;conv=>whnf
    refine ao ((rota.length:Int)-from_) (by rw[Xd]) (wrap_i64 (by omega)) ?_;conv=>whnf
    refine aQ (by rw[Bool.and_eq_true];exact⟨rfl,by simp;omega⟩) ?_;conv=>whnf
    refine aQ (decide_eq_true (by dsimp only;omega)) ?_;conv=>whnf
    have hI:o9 Tryz.prog 104 [.d (bC c (eK c j)),.d (qZ.d ⟨(0:Nat),t⟩),.d (bt (List.replicate (rota.length-from_.toNat) [])),.mp 1000000] [(1000000,.map (lR []))] (fun v h'=>v=Df (List.replicate (rota.length-from_.toNat) ([]:List Int)).length (dZ c (eK c j) (List.replicate (rota.length-from_.toNat) []) 0 t [])/\h'=uo 0 (dZ c (eK c j) (List.replicate (rota.length-from_.toNat) []) 0 t [])):=
     fun {σ}=>BH hR (by rw[List.length_replicate];omega) (fun r hr=>by rw[List.eq_of_mem_replicate hr];simp) (List.replicate (rota.length-from_.toNat) []) 0 t [] hU (fun g v h=>by cases h) rfl (by simp)
    have Q0:vf c t (rota.length-from_.toNat) j=(dZ c (eK c j) (List.replicate (rota.length-from_.toNat) []) 0 t []).1.isSome:=rfl;refine qY 2 [81,90] ?_;refine sC (args':=[.d (bC c (eK c j)),.d (qZ.d ⟨(0:Nat),t⟩),.d (bt (List.replicate (rota.length-from_.toNat) [])),.mp 91]) (fun yv L F w l h=>by
     obtain⟨x1,l1,rfl,h1,x2,l2,rfl,h2,x3,l3,rfl,h3,h4⟩:=h;refine⟨x1,_,rfl,h1,x2,_,rfl,h2,x3,_,rfl,?_,h4⟩;have h5:=bM.cO _ _ (GZ (d:=.vs (List.replicate (rota.length-from_.toNat) [D.nils])) h3 (dW rfl (by rw[hk]) (by rw[hk];simp)));have h6:cO (.vs (List.replicate (rota.length-from_.toNat) [D.nils]))=bt (List.replicate (rota.length-from_.toNat) []):=by
      show D.vs (oJ _)=_;rw[sd];rfl
     rw[h6]at h5;exact h5) ?_
    generalize dZ c (eK c j) (List.replicate (rota.length-from_.toNat) []) 0 t []=r2 at hI Q0;obtain⟨o,HN⟩:=r2
    cases o with
    | none=>
     rw[v8 false (by rw[Q0];rfl)]at he;conv=>whnf
     refine cE hI [91] rfl ⟨_,_,rfl,rfl,rfl⟩ rfl ?_;conv=>whnf
     refine ae (wrap_i64 (by(try dsimp only);omega)) ?_;conv=>whnf
     refine⟨[],⟨by simp,by simpa using he⟩,(Wk.sub (by repeat' first|constructor|simp[PX.get]) (by repeat' first|constructor|simp[PX.get]))⟩
    | some l2=>
     rw[v8 true (by rw[Q0];rfl)]at he;conv=>whnf
     refine cE hI [91] rfl ⟨_,_,rfl,rfl,rfl⟩ rfl ?_;conv=>whnf
     refine ag rfl ?_;conv=>whnf
     refine ae (wrap_i64 (by(try dsimp only);omega)) ?_;conv=>whnf
     refine⟨[(j:Int)],⟨by simp,by simpa using he⟩,(Wk.sub (by repeat' first|constructor|simp[PX.get]) (by repeat' first|constructor|simp[PX.get]))⟩
   | cons a l=>
    conv=>whnf
    refine af (fun _=>?_) (fun h=>absurd Nl (by have:=of_decide_eq_false h;omega));conv=>whnf
    refine ao (2^((j:Int).toNat)) uG (wrap_i64 (by omega)) ?_;conv=>whnf
    refine ao ((rota.length:Int)-from_) (by rw[Xd]) (wrap_i64 (by omega)) ?_;conv=>whnf
    refine aQ (by rw[Bool.and_eq_true];exact⟨rfl,by simp;omega⟩) ?_;conv=>whnf
    refine aQ (decide_eq_true (by dsimp only;omega)) ?_;conv=>whnf
    have hI:o9 Tryz.prog 104 [.d (bC c (eK c j)),.d (qZ.d ⟨(0:Nat),t⟩),.d (bt (List.replicate (rota.length-from_.toNat) [])),.mp 1000000] [(1000000,.map (lR []))] (fun v h'=>v=Df (List.replicate (rota.length-from_.toNat) ([]:List Int)).length (dZ c (eK c j) (List.replicate (rota.length-from_.toNat) []) 0 t [])/\h'=uo 0 (dZ c (eK c j) (List.replicate (rota.length-from_.toNat) []) 0 t [])):=
     fun {σ}=>BH hR (by rw[List.length_replicate];omega) (fun r hr=>by rw[List.eq_of_mem_replicate hr];simp) (List.replicate (rota.length-from_.toNat) []) 0 t [] hU (fun g v h=>by cases h) rfl (by simp)
    have Q0:vf c t (rota.length-from_.toNat) j=(dZ c (eK c j) (List.replicate (rota.length-from_.toNat) []) 0 t []).1.isSome:=rfl;refine qY 2 [81,90] ?_;refine sC (args':=[.d (bC c (eK c j)),.d (qZ.d ⟨(0:Nat),t⟩),.d (bt (List.replicate (rota.length-from_.toNat) [])),.mp 91]) (fun yv L F w l h=>by
     obtain⟨x1,l1,rfl,h1,x2,l2,rfl,h2,x3,l3,rfl,h3,h4⟩:=h;refine⟨x1,_,rfl,h1,x2,_,rfl,h2,x3,_,rfl,?_,h4⟩;have h5:=bM.cO _ _ (GZ (d:=.vs (List.replicate (rota.length-from_.toNat) [D.nils])) h3 (dW rfl (by rw[hk]) (by rw[hk];simp)));have h6:cO (.vs (List.replicate (rota.length-from_.toNat) [D.nils]))=bt (List.replicate (rota.length-from_.toNat) []):=by
      show D.vs (oJ _)=_;rw[sd];rfl
     rw[h6]at h5;exact h5) ?_
    generalize dZ c (eK c j) (List.replicate (rota.length-from_.toNat) []) 0 t []=r2 at hI Q0;obtain⟨o,HN⟩:=r2
    cases o with
    | none=>
     rw[v8 false (by rw[Q0];rfl)]at he;conv=>whnf
     refine cE hI [91] rfl ⟨_,_,rfl,rfl,rfl⟩ rfl ?_;conv=>whnf
     refine ae (wrap_i64 (by(try dsimp only);omega)) ?_;conv=>whnf
     refine⟨a::l,⟨by simp at pf ⊢;omega,by simpa using he⟩,(Wk.sub (by repeat' first|constructor|simp[PX.get]) (by repeat' first|constructor|simp[PX.get]))⟩
    | some l2=>
     rw[v8 true (by rw[Q0];rfl)]at he;conv=>whnf
     refine cE hI [91] rfl ⟨_,_,rfl,rfl,rfl⟩ rfl ?_;conv=>whnf
     refine ag rfl ?_;conv=>whnf
     refine ag (by simp[aK.len,ba]) ?_;conv=>whnf
     refine aQ (decide_eq_true (by
      show((ba (a::l)).length+1)*8<=140737488355328;simp[ba]at pf ⊢;omega)) ?_
     conv=>whnf
     refine ae (wrap_i64 (by(try dsimp only);omega)) ?_;conv=>whnf
     refine⟨a::l ++ [(j:Int)],⟨by simp at pf ⊢;omega,by simpa using he⟩,Wk.sub ⟨rfl,rfl,rfl,?_,rfl,rfl,rfl,rfl,trivial⟩ ⟨rfl,rfl,?_,trivial⟩⟩
     ·show some (V.sl 99 1 0 ((ba (a::l)).length+1))=some (V.sl 99 1 0 (a::(l ++ [(j:Int)])).length)
      simp[ba]
     ·show some (Obj.arr 1 (aK.dd (ba (a::l) ++ [[i64 (j:Int)]])))=some (Obj.arr 1 (aK.dd (ba (a::(l ++ [(j:Int)])))))
      simp[ba]
  ·rintro acc ⟨_,he⟩
   have he:M=acc:=by simpa using he
   rw[he]
   cases acc with
   | nil=>
    conv=>whnf
    refine af (fun h=>absurd h (by simp)) (fun _=>?_);conv=>whnf
    exact ab 0 rfl ⟨⟨rfl,rfl⟩,rfl⟩
   | cons a l=>
    conv=>whnf
    refine af (fun h=>absurd h (by simp)) (fun _=>?_);conv=>whnf
    refine ab 1 (ds:=[ax (a::l),i64 0]) ?_ ⟨⟨rfl,rfl⟩,rfl⟩;exact az (bH (es:=ba (a::l)) rfl (by simp[ba])) rfl
 ·have hE:nC c rota from_=cB c rota:=by rw[nC,if_neg h0]
  rw[hE];simp only[h0,if_false];conv=>whnf
  exact ab 0 rfl ⟨⟨rfl,rfl⟩,rfl⟩
def S7:sD:=⟨⟨#[97,100,97]⟩,2,[]⟩
def XL:sD:=⟨⟨#[98,101,110]⟩,1,[]⟩
def Te:sD:=⟨⟨#[99,105,100]⟩,0,[2]⟩
def XP:sD:=⟨⟨#[100,97,110]⟩,1,[]⟩
def dv(rest:Int)(Ps:Bool):aA:=⟨[S7,XL,Te]++(if Ps then [XP] else []),[⟨1,1⟩,⟨1,0⟩,⟨1,0⟩],1,rest⟩
theorem Sq(rest:Int)(Ps:Bool):bq Tryz.prog 27 [i64 rest,.bool Ps] (dv rest Ps).d:=by
 refine bq.cO (r:=.agg ((.vs ([[.str ⟨#[97,100,97]⟩,i64 2,.nils],[.str ⟨#[98,101,110]⟩,i64 1,.nils],[.str ⟨#[99,105,100]⟩,i64 0,ax [2]]]++(if Ps then [[.str ⟨#[100,97,110]⟩,i64 1,.nils]] else [])))::(dv rest Ps).cells.tail)) ?_ (by cases Ps<;>rfl)
 cases Ps with
 | false=>
  refine aI mixed ak Tryz.func27 rfl (ft:=Ue) 2 (by decide +kernel) (by rfl) fun {σ} Y st=>?_;conv=>whnf
  exact ab 3 rfl ⟨⟨rfl,rfl⟩,rfl⟩
 | true=>
  refine aI mixed ak Tryz.func27 rfl (ft:=Ue) 2 (by decide +kernel) (by rfl) fun {σ} Y st=>?_;conv=>whnf
  refine ag rfl ?_;conv=>whnf
  refine ag rfl ?_;conv=>whnf
  exact ab 3 rfl ⟨⟨rfl,rfl⟩,rfl⟩
theorem Pe(a b:List (List Int))(ha:a.length<1000000)(hr:∀ r∈a,r.length<1000000):bq Tryz.prog 39 [bt a,bt b] (.bool (decide (a=b))):=by
 refine aI mixed ak Tryz.func39 rfl (ft:=Yf) 2 (by decide +kernel) (by rfl) fun {σ} Y st=>?_;conv=>whnf
 refine af (fun h0=>?_) (fun h0=>?_)
 ·have h0:¬ a.length=b.length:=by
   have:¬ ((a.length:Int)=b.length):=by simpa using h0
   omega
  conv=>whnf
  rw[decide_eq_false (fun e=>h0 (by rw[e]))];exact ab 0 rfl ⟨⟨rfl,rfl⟩,rfl⟩
 have h0:a.length=b.length:=by
  have:((a.length:Int)=b.length):=by simpa using h0
  omega
 conv=>whnf
 refine bx (T:=tys) ak (by exact an mixed ak (by decide +kernel)) a (fun i (_:Unit)=>⟨[(0,.d (bt a)),(1,.d (bt b)),(4,.d (.bool false)),(5,.d (i64 i))],[],st⟩)
  (fun i r _=>(decide (a=b))=decide (r=b.drop i)) () (Wk.sub (by repeat' first|constructor|simp[PX.get]) trivial) rfl ?_ ?_
 ·intro i x r _ hx hi FG he
  have UQ:i<b.length:=by omega
  have Zh:b.drop i=b[i]::b.drop (i+1):=by rw[List.drop_eq_getElem_cons UQ]
  rw[Zh]at he;have Zv:b[i]?=some b[i]:=List.getElem?_eq_getElem UQ;have hxr:=hr x (List.mem_of_getElem? hx);conv=>whnf
  refine af (fun _=>?_) (fun h=>absurd hi (by have:=of_decide_eq_false h;simp at this;omega));conv=>whnf
  refine aw hx ?_;conv=>whnf
  refine aw Zv ?_;conv=>whnf
  refine aH (ds:=[ax x,ax b[i]]) (ID x b[i] hxr) rfl rfl ?_;conv=>whnf
  refine af (fun h1=>?_) (fun h1=>?_)
  ·have h1:¬ x=b[i]:=by simpa using h1
   conv=>whnf
   rw[he,decide_eq_false (fun e=>h1 (List.cons.inj e).1)];exact ab 0 rfl ⟨⟨rfl,rfl⟩,rfl⟩
  ·have h1:x=b[i]:=by simpa using h1
   conv=>whnf
   refine ae (wrap_i64 (by(try dsimp only);omega)) ?_;conv=>whnf
   refine⟨(),?_,(Wk.sub (by repeat' first|constructor|simp[PX.get]) trivial)⟩;rw[he];exact decide_eq_decide.2 ⟨fun e=>(List.cons.inj e).2,fun e=>by rw[h1,e]⟩
 ·intro _ he
  conv=>whnf
  refine af (fun h=>absurd h (by simp)) (fun _=>?_);conv=>whnf
  have hd:b.drop a.length = []:=by rw[h0];simp
  rw[he,hd];exact ab 0 rfl ⟨⟨rfl,rfl⟩,rfl⟩
def cz(bQ:List Int):List (List Int):=bQ.map fun m=>[m]
theorem aaY(bQ:List Int)(hl:bQ.length<=1000):bq Tryz.prog 29 [ax bQ] (y7 (cz bQ)):=by
 refine aI mixed ak Tryz.func29 rfl (ft:=X5) 1 (by decide +kernel) (by rfl) fun {σ} Y st=>?_;conv=>whnf
 generalize hM:cz bQ=M
 refine bx (T:=tys) ak (by exact an mixed ak (by decide +kernel)) bQ (fun j (acc:List (List Int))=>⟨[(0,.d (ax bQ)),(3,match acc with
   | []=>.d .nils
   | x::r=>.sl 18 1 0 (x::r).length),(4,.d (i64 j))],match acc with
   | []=>[]
   | x::r=>[(18,.arr 1 (.dd ((x::r).map fun r=>[ax r])))],st⟩)
  (fun j r acc=>acc.length=j/\M=acc++cz r) [] (Wk.sub (by repeat' first|constructor|simp[PX.get]) trivial) ⟨rfl,hM.symm⟩ ?_ ?_
 ·rintro j x r acc hx hj wK ⟨pf,he⟩
  have he:M=(acc ++ [[x]])++cz r:=by rw[he];simp[cz]
  cases acc with
  | nil=>
   conv=>whnf
   refine af (fun _=>?_) (fun h=>absurd hj (by have:=of_decide_eq_false h;simp at this;omega));conv=>whnf
   refine aw hx ?_;conv=>whnf
   refine ag rfl ?_;conv=>whnf
   refine ae (wrap_i64 (by(try dsimp only);omega)) ?_;conv=>whnf
   refine⟨[[x]],⟨by simp at pf ⊢;omega,he⟩,(Wk.iB 1 [16] 18 (vs:=[[.sl 16 1 0 1]]) (ds:=[[ax [x]]]) rfl (dL (az (bH (es:=[[i64 x]]) rfl rfl) rfl))).trans (Wk.sub (by repeat' first|constructor|simp[PX.get]) ⟨(by first|rfl|simp[PX.get]),trivial⟩)⟩
  | cons a l=>
   conv=>whnf
   refine af (fun _=>?_) (fun h=>absurd hj (by have:=of_decide_eq_false h;simp at this;omega));conv=>whnf
   refine aw hx ?_;conv=>whnf
   refine ag rfl ?_;conv=>whnf
   refine ag (by simp[aK.len]) ?_;conv=>whnf
   have eV:(true && !dF 18 ((aG ((a::l).map fun r=>[ax r]) ++ [[V.sl 16 1 0 1]]).flatten))=true:=by
    rw[eh];rfl
   refine aQ eV ?_;conv=>whnf
   refine aQ (decide_eq_true (by
    show(((a::l).map fun r=>[ax r]).length+1)*24<=140737488355328;rw[List.length_map];omega)) ?_
   conv=>whnf
   refine ae (wrap_i64 (by(try dsimp only);omega)) ?_;conv=>whnf
   refine⟨a::l ++ [[x]],⟨by simp at pf ⊢;omega,he⟩,(Wk.iB 1 [16] 18 (sz:=1) (vs:=aG ((a::l).map fun r=>[ax r]) ++ [[.sl 16 1 0 1]]) (ds:=((a::l).map fun r=>[ax r]) ++ [[ax [x]]]) ?_ (dK (dL (az (bH (es:=[[i64 x]]) rfl rfl) rfl)) _)).trans ?_⟩
   ·rfl
   ·refine Wk.sub ⟨rfl,?_,rfl,trivial⟩ ⟨?_,trivial⟩
    ·show some (V.sl 18 1 0 (((a::l).map fun r=>[ax r]).length+1))=some (V.sl 18 1 0 (a::(l ++ [[x]])).length)
     simp
    ·show some (Obj.arr 1 (aK.dd (((a::l).map fun r=>[ax r]) ++ [[ax [x]]])))=some (Obj.arr 1 (aK.dd ((a::(l ++ [[x]])).map fun r=>[ax r])))
     simp
 ·rintro acc ⟨_,he⟩
  have he:M=acc:=by simpa[cz]using he
  rw[he]
  cases acc with
  | nil=>
   conv=>whnf
   refine af (fun h=>absurd h (by simp)) (fun _=>?_);conv=>whnf
   exact ab 0 rfl ⟨⟨rfl,rfl⟩,rfl⟩
  | cons a l=>
   conv=>whnf
   refine af (fun h=>absurd h (by simp)) (fun _=>?_);conv=>whnf
   refine ab 1 (ds:=[bt (a::l)]) ?_ ⟨⟨rfl,rfl⟩,rfl⟩;exact az (bH (es:=(a::l).map fun r=>[ax r]) rfl (by simp)) rfl
theorem ES(n lo hi:Int):bq Tryz.prog 25 [i64 n,i64 lo,i64 hi] (.bool (fX n lo hi)):=by
 refine aI mixed ak Tryz.func25 rfl (ft:=X2) 3 (by decide +kernel) (by rfl) fun {σ} Y st=>?_;conv=>whnf
 refine af (fun hb=>?_) (fun hb=>?_)
 ·conv=>whnf
  refine ab 0 rfl ⟨⟨?_,rfl⟩,rfl⟩;simp[js,fX]at hb ⊢;simp[hb]
 ·conv=>whnf
  refine ab 0 rfl ⟨⟨?_,rfl⟩,rfl⟩;simp[js,fX]at hb ⊢;omega
theorem WD(l:List Int)(n:Int)(hl:l.length<4000000000000000000):bq Tryz.prog 14 [ax l,i64 n] (.bool (decide (n∈l))):=by
 refine aI mixed ak Tryz.func14 rfl (ft:=XX) 2 (by decide +kernel) (by rfl) fun {σ} Y st=>?_;conv=>whnf
 refine bx (T:=tys) ak (by exact an mixed ak (by decide +kernel)) l (fun i (_:Unit)=>⟨[(0,.d (ax l)),(1,.d (i64 n)),(4,.d (.bool false)),(5,.d (i64 i))],[],st⟩) (fun i r _=>decide (n∈l)=decide (n∈r)) () (Wk.sub (by repeat' first|constructor|simp[PX.get]) trivial) rfl ?_ ?_
 ·intro i x r _ hx hi hr he
  conv=>whnf
  refine af (fun _=>?_) (fun h=>absurd hi (by have:=of_decide_eq_false h;simp at this;omega));conv=>whnf
  refine aw hx ?_;conv=>whnf
  refine af (fun h1=>?_) (fun h1=>?_)
  ·have h1:x=n:=of_decide_eq_true h1
   conv=>whnf
   rw[he,decide_eq_true (by rw[h1];simp)];exact ab 0 rfl ⟨⟨rfl,rfl⟩,rfl⟩
  ·have h1:¬ x=n:=of_decide_eq_false h1
   conv=>whnf
   refine ae (wrap_i64 (by(try dsimp only);omega)) ?_;conv=>whnf
   refine⟨(),?_,(Wk.sub (by repeat' first|constructor|simp[PX.get]) trivial)⟩;rw[he];exact decide_eq_decide.2 ⟨fun h=>(List.mem_cons.1 h).elim (fun e=>absurd e.symm h1) id,fun h=>List.mem_cons_of_mem _ h⟩
 ·intro _ he
  conv=>whnf
  refine af (fun h=>absurd h (by simp)) (fun _=>?_);conv=>whnf
  rw[he];exact ab 0 rfl ⟨⟨rfl,rfl⟩,rfl⟩
theorem aa2(l:List Int)(many:Int)(hm : -1000000<=many/\many<=1000000):bq Tryz.prog 26 [ax l,i64 many] (i64 (kx many (-1) l)):=by
 refine aI mixed ak Tryz.func26 rfl (ft:=X3) 2 (by decide +kernel) (by rfl) fun {σ} Y st=>?_;conv=>whnf
 refine bx (T:=tys) ak (by exact an mixed ak (by decide +kernel)) l (fun i (last:Int)=>⟨[(0,.d (ax l)),(1,.d (i64 many)),(4,.d (i64 0)),(5,.d (i64 i))],[],st⟩)
  (fun i r last=>kx many (-1) l=kx many last r/\((i=0/\last = -1)\/(0<i/\l[i-1]?=some last/\(i:Int)-1<=last/\last<=many-1))) (-1) (Wk.sub (by repeat' first|constructor|simp[PX.get]) trivial) ⟨rfl,.inl ⟨rfl,rfl⟩⟩ ?_ ?_
 ·rintro i x r last hx hi hr ⟨he,Hx⟩
  rw[kx]at he;conv=>whnf
  refine af (fun _=>?_) (fun h=>absurd hi (by have:=of_decide_eq_false h;simp at this;omega));conv=>whnf
  refine aw hx ?_;conv=>whnf
  refine ae (wrap_i64 (by(try dsimp only);omega)) ?_;conv=>whnf
  refine ai (ds:=[i64 x,i64 0,i64 (many-1)]) (ES x 0 (many-1)) rfl rfl ?_
  cases hb:fX x 0 (many-1) with
  | false=>
   rw[hb]at he;conv=>whnf
   rw[he];exact ab 0 rfl ⟨⟨rfl,rfl⟩,rfl⟩
  | true=>
   rw[hb]at he;have eE:=gv.1 hb;simp only[if_true]at he;conv=>whnf
   refine af (fun h2=>?_) (fun h2=>?_)
   ·have h2:0<i:=by have:=of_decide_eq_true h2;simp at this;omega
    obtain⟨_,wJ,N9,hl3⟩:=Hx.resolve_left (fun h=>by omega);conv=>whnf
    refine aw hx ?_;conv=>whnf
    refine ao (((i-1:Nat):Int)) (by(try dsimp only);omega) (wrap_i64 (by(try dsimp only);omega)) ?_;conv=>whnf
    refine aw wJ ?_;conv=>whnf
    refine af (fun h3=>?_) (fun h3=>?_)
    ·have h3:x<=last:=of_decide_eq_true h3
     rw[if_pos h3]at he;conv=>whnf
     rw[he];exact ab 0 rfl ⟨⟨rfl,rfl⟩,rfl⟩
    ·have h3:¬ x<=last:=of_decide_eq_false h3
     rw[if_neg h3]at he;conv=>whnf
     refine ae (wrap_i64 (by(try dsimp only);omega)) ?_;conv=>whnf
     exact⟨x,⟨he,.inr ⟨by omega,by simpa using hx,by omega,by omega⟩⟩,(Wk.sub (by repeat' first|constructor|simp[PX.get]) trivial)⟩
   ·have h2:¬ 0<i:=by have:=of_decide_eq_false h2;simp at this;omega
    have wJ:last = -1:=by
     rcases Hx with h|h
     ·exact h.2
     ·omega
    rw[if_neg (by omega)]at he;conv=>whnf
    refine ae (wrap_i64 (by(try dsimp only);omega)) ?_;conv=>whnf
    exact⟨x,⟨he,.inr ⟨by omega,by simpa using hx,by omega,by omega⟩⟩,(Wk.sub (by repeat' first|constructor|simp[PX.get]) trivial)⟩
 ·rintro last ⟨he,_⟩
  conv=>whnf
  refine af (fun h=>absurd h (by simp)) (fun _=>?_);conv=>whnf
  rw[he,kx];exact ab 0 rfl ⟨⟨rfl,rfl⟩,rfl⟩
end Go.PX
