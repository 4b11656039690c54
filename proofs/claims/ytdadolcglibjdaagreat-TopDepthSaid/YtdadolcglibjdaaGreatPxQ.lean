import Derived.Test.YtdadolcglibjdaaGreatPxP
import Derived.Test.YtdadolcglibjdaaGreatPxL
import Derived.Test.YtdadolcglibjdaaGreatPxK
import Derived.Test.YtdadolcglibjdaaGreatPxN
set_option linter.all false
set_option maxRecDepth 10000
namespace Go.PX
open Go.Proofs
def Es(f:Fix)(l:List aC)(ps:List Pt)(z:(Int×Int×Bool)×bM)(m:Nat):(Int×Int×Bool)×bM:=
 if Nr f m then (if z.1.2.2=false\/A6 f l m ps<z.1.2.1 then (((m:Int),A6 f l m ps,true),n7 f l m ps z.2) else (z.1,n7 f l m ps z.2)) else z
def Er(f:Fix)(l:List aC)(ps:List Pt):(Int×Int×Bool)×bM:=(List.range f.aP.marks.length).foldl (Es f l ps) ((0,0,false),vS f l [])
theorem IJ{f:Fix}{l:List aC}{ps:List Pt}{z:(Int×Int×Bool)×bM}{m:Nat}(h:bN f z.2):bN f (Es f l ps z m).2:=by
 unfold Es;split
 ·split
  ·exact vt h
  ·exact vt h
 ·exact h
theorem QI(f:Fix)(l:List aC)(m:Int){n b k:Nat}{e:Env}{h:aq}{d:Option Nat}(hb:get h b=some (.fz (bh f l n b k))):fx Tryz.prog e h d 73 [.ptr b 0,.d (i64 m)] (aO d (.d (.bool (Nr f m)))):=by
 refine jT (QH (n:=n) f l m) rfl 1 ?_;have:=mQ 0 hb;simp only[bZ,cA,this];rfl
set_option maxHeartbeats 8000000 in
theorem Vc(f:Fix)(l:List aC)(hg:e8 f l)(ME:l.length≠8)(p:Pt)(r:List Pt)(hp:gn f l=p::r)(VJ:cQ f 0=false)(hc:∀ k,1<=k->k<f.insts.length->cQ f k=true)(uf:(Er f l (p::r)).1.2.2=true) :
  aX Tryz.prog 32 [f.d,bn l] (.tup [i64 (Er f l (p::r)).1.1,i64 0,i64 (Er f l (p::r)).1.2.1,i64 0]):=by
 refine aB Tryz.func32 rfl (ft:=Ue) 2 fun {σ} Y st=>?_;conv=>whnf
 have KW:=(fj hg.r.aP).marks;have XF:=hg.r.n9;have sq:=hg.r.many1;have QL:(gn f l).length<=289:=Nat.le_trans (List.length_filter_le _ _) (oT hg.r);rw[hp]at QL;refine dH (gX (rs:=[i64 0]) (GO f l hg) 19 101216 101217 rfl rfl rfl rfl) ?_;conv=>whnf
 refine ag (fun h=>absurd (of_decide_eq_true h) (by rw[List.length_map];omega)) (fun _=>?_);conv=>whnf
 refine fL 101216 101217 (Mc (n:=f.insts.length) f l hg rfl (lZ f)) (by first|rfl|(simp only[ab,Nat.reduceBEq,eq_self];rfl)) rfl rfl rfl rfl ?_;rw[hp];have YM:bN f (vS f l []):=v9 (lZ f);conv=>whnf
 generalize hA:Er f l (p::r)=A at uf;unfold Er at hA;refine ba (T:=tys) ao (by exact ai mixed ao (by decide +kernel)) (List.range f.aP.marks.length) (fun i (z:(Int×Int×Bool)×bM)=>⟨[(2,.ptr 2 0),(4,.d (i64 z.1.1)),(5,.d (i64 0)),(6,.d (i64 z.1.2.1)),(8,.ptr 101216 0),(9,.d (Fu (p::r))),(10,.d (.bool z.1.2.2)),(38,.d (i64 (f.aP.marks.map Mark.cells).length)),(39,.d (i64 i))],[(2,.box (.dd f.cells)),(101216,.fz (bh f l f.insts.length 101216 101217)),(101217,cn z.2)],st⟩)
  (fun i q z=>bN f z.2/\A=q.foldl (Es f l (p::r)) z) ((0,0,false),vS f l []) (Wk.sub ⟨(by first|rfl|(simp only[List.length_map];rfl)|(simp only[ab,Nat.reduceBEq,eq_self];rfl)|simp[PX.get]),(by first|rfl|(simp only[List.length_map];rfl)|(simp only[ab,Nat.reduceBEq,eq_self];rfl)|simp[PX.get]),(by first|rfl|(simp only[List.length_map];rfl)|(simp only[ab,Nat.reduceBEq,eq_self];rfl)|simp[PX.get]),(by first|rfl|(simp only[List.length_map];rfl)|(simp only[ab,Nat.reduceBEq,eq_self];rfl)|simp[PX.get]),(by first|rfl|(simp only[List.length_map];rfl)|(simp only[ab,Nat.reduceBEq,eq_self];rfl)|simp[PX.get]),(by first|rfl|(simp only[List.length_map];rfl)|(simp only[ab,Nat.reduceBEq,eq_self];rfl)|simp[PX.get]),(by first|rfl|(simp only[List.length_map];rfl)|(simp only[ab,Nat.reduceBEq,eq_self];rfl)|simp[PX.get]),(by first|rfl|(simp only[List.length_map];rfl)|(simp only[ab,Nat.reduceBEq,eq_self];rfl)|simp[PX.get]),(by first|rfl|(simp only[List.length_map];rfl)|(simp only[ab,Nat.reduceBEq,eq_self];rfl)|simp[PX.get]),trivial⟩ ⟨(by first|rfl|(simp only[List.length_map];rfl)|(simp only[ab,Nat.reduceBEq,eq_self];rfl)|simp[PX.get]),(by first|rfl|(simp only[List.length_map];rfl)|(simp only[ab,Nat.reduceBEq,eq_self];rfl)|simp[PX.get]),(by first|rfl|(simp only[List.length_map];rfl)|(simp only[ab,Nat.reduceBEq,eq_self];rfl)|simp[PX.get]),trivial⟩) ⟨YM,hA.symm⟩ ?_ ?_
 ·rintro i x q ⟨⟨mk,lf,fo⟩,M1⟩ jD hi hr ⟨wB,he⟩
  have hx:x=i:=by
   rw[List.getElem?_range (by simpa using hi)]at jD;exact(Option.some.inj jD).symm
  subst hx;have hi:x<f.aP.marks.length:=by simpa using hi
  rw[List.foldl_cons]at he;have tc:=IJ (l:=l) (ps:=p::r) (m:=x) (z:=((mk,lf,fo),M1)) wB;generalize hZ:Es f l (p::r) ((mk,lf,fo),M1) x=Z at he tc;conv=>whnf
  refine ag (fun _=>?_) (fun h=>absurd (of_decide_eq_false h) (by rw[List.length_map];omega));conv=>whnf
  refine ba (T:=tys) ao (by exact ai mixed ao (by decide +kernel)) f.insts (fun j (z:(Int×Int×Bool)×bM)=>⟨[(2,.ptr 2 0),(4,.d (i64 z.1.1)),(5,.d (i64 0)),(6,.d (i64 z.1.2.1)),(8,.ptr 101216 0),(9,.d (Fu (p::r))),(10,.d (.bool z.1.2.2)),(11,.d (i64 x)),(38,.d (i64 (f.aP.marks.map Mark.cells).length)),(39,.d (i64 x)),(44,.d (i64 (f.insts.map dr.cells).length)),(45,.d (i64 j))],[(2,.box (.dd f.cells)),(101216,.fz (bh f l f.insts.length 101216 101217)),(101217,cn z.2)],st⟩)
   (fun j _ z=>z=if j=0 then ((mk,lf,fo),M1) else Z) ((mk,lf,fo),M1) (Wk.sub ⟨(by first|rfl|(simp only[List.length_map];rfl)|(simp only[ab,Nat.reduceBEq,eq_self];rfl)|simp[PX.get]),(by first|rfl|(simp only[List.length_map];rfl)|(simp only[ab,Nat.reduceBEq,eq_self];rfl)|simp[PX.get]),(by first|rfl|(simp only[List.length_map];rfl)|(simp only[ab,Nat.reduceBEq,eq_self];rfl)|simp[PX.get]),(by first|rfl|(simp only[List.length_map];rfl)|(simp only[ab,Nat.reduceBEq,eq_self];rfl)|simp[PX.get]),(by first|rfl|(simp only[List.length_map];rfl)|(simp only[ab,Nat.reduceBEq,eq_self];rfl)|simp[PX.get]),(by first|rfl|(simp only[List.length_map];rfl)|(simp only[ab,Nat.reduceBEq,eq_self];rfl)|simp[PX.get]),(by first|rfl|(simp only[List.length_map];rfl)|(simp only[ab,Nat.reduceBEq,eq_self];rfl)|simp[PX.get]),(by first|rfl|(simp only[List.length_map];rfl)|(simp only[ab,Nat.reduceBEq,eq_self];rfl)|simp[PX.get]),(by first|rfl|(simp only[List.length_map];rfl)|(simp only[ab,Nat.reduceBEq,eq_self];rfl)|simp[PX.get]),(by first|rfl|(simp only[List.length_map];rfl)|(simp only[ab,Nat.reduceBEq,eq_self];rfl)|simp[PX.get]),(by first|rfl|(simp only[List.length_map];rfl)|(simp only[ab,Nat.reduceBEq,eq_self];rfl)|simp[PX.get]),(by first|rfl|(simp only[List.length_map];rfl)|(simp only[ab,Nat.reduceBEq,eq_self];rfl)|simp[PX.get]),trivial⟩ ⟨(by first|rfl|(simp only[List.length_map];rfl)|(simp only[ab,Nat.reduceBEq,eq_self];rfl)|simp[PX.get]),(by first|rfl|(simp only[List.length_map];rfl)|(simp only[ab,Nat.reduceBEq,eq_self];rfl)|simp[PX.get]),(by first|rfl|(simp only[List.length_map];rfl)|(simp only[ab,Nat.reduceBEq,eq_self];rfl)|simp[PX.get]),trivial⟩) rfl ?_ ?_
  ·rintro j y q2 ⟨⟨ZZ,ZW,Yp⟩,M2⟩ WN hj MP hz
   have EL:j=0\/j=1\/j=2\/j=3:=by omega
   have hK:=DW (f:=f) (b:=101216) hj;have hB:bh f l f.insts.length 101216 101217=inj (f.cells ++ [bn l]) ++ [eD f f.insts.length 101216 0,eD f f.insts.length 101216 1,eD f f.insts.length 101216 2,eD f f.insts.length 101216 3,.mp 101217]:=rfl;by_cases V4:j=0
   ·subst V4
    rw[if_pos rfl]at hz;cases hz;rw[VJ,if_neg (by simp)]at hK;rw[hK]at hB;rw[hB];conv=>whnf
    refine ag (fun _=>?_) (fun h=>absurd (of_decide_eq_false h) (by rw[List.length_map];omega));conv=>whnf
    refine dH (QI (n:=f.insts.length) (k:=101217) f l x (by rw[hB];simp only[ab,Nat.reduceBEq,eq_self];rfl)) ?_;unfold Es at hZ
    cases pz:Nr f x with
    | false=>
     rw[pz,if_neg (by simp)]at hZ;conv=>whnf
     refine af ?_;conv=>whnf
     exact⟨((mk,lf,fo),M1),hZ,(Wk.sub ⟨(by first|rfl|(simp only[List.length_map];rfl)|(simp only[ab,Nat.reduceBEq,eq_self];rfl)|simp[PX.get]),(by first|rfl|(simp only[List.length_map];rfl)|(simp only[ab,Nat.reduceBEq,eq_self];rfl)|simp[PX.get]),(by first|rfl|(simp only[List.length_map];rfl)|(simp only[ab,Nat.reduceBEq,eq_self];rfl)|simp[PX.get]),(by first|rfl|(simp only[List.length_map];rfl)|(simp only[ab,Nat.reduceBEq,eq_self];rfl)|simp[PX.get]),(by first|rfl|(simp only[List.length_map];rfl)|(simp only[ab,Nat.reduceBEq,eq_self];rfl)|simp[PX.get]),(by first|rfl|(simp only[List.length_map];rfl)|(simp only[ab,Nat.reduceBEq,eq_self];rfl)|simp[PX.get]),(by first|rfl|(simp only[List.length_map];rfl)|(simp only[ab,Nat.reduceBEq,eq_self];rfl)|simp[PX.get]),(by first|rfl|(simp only[List.length_map];rfl)|(simp only[ab,Nat.reduceBEq,eq_self];rfl)|simp[PX.get]),(by first|rfl|(simp only[List.length_map];rfl)|(simp only[ab,Nat.reduceBEq,eq_self];rfl)|simp[PX.get]),(by first|rfl|(simp only[List.length_map];rfl)|(simp only[ab,Nat.reduceBEq,eq_self];rfl)|simp[PX.get]),(by first|rfl|(simp only[List.length_map];rfl)|(simp only[ab,Nat.reduceBEq,eq_self];rfl)|simp[PX.get]),(by first|rfl|(simp only[List.length_map];rfl)|(simp only[ab,Nat.reduceBEq,eq_self];rfl)|simp[PX.get]),trivial⟩ ⟨(by first|rfl|(simp only[List.length_map];rfl)|(simp only[ab,Nat.reduceBEq,eq_self];rfl)|simp[PX.get]),(by first|rfl|(simp only[List.length_map];rfl)|(simp only[ab,Nat.reduceBEq,eq_self];rfl)|simp[PX.get]),(by first|rfl|(simp only[List.length_map];rfl)|(simp only[ab,Nat.reduceBEq,eq_self];rfl)|simp[PX.get]),trivial⟩)⟩
    | true=>
     rw[pz,if_pos rfl]at hZ;conv=>whnf
     refine fL 101216 101217 (Vk (n:=f.insts.length) f l (p::r) x hg rfl QL wB) (by rw[hB];simp only[ab,Nat.reduceBEq,eq_self];rfl) rfl rfl rfl rfl ?_;generalize A6 f l x (p::r)=v at hZ ⊢;generalize n7 f l x (p::r) M1=M3 at hZ ⊢
     cases fo with
     | false=>
      rw[if_pos (.inl rfl)]at hZ;conv=>whnf
      refine af ?_;conv=>whnf
      exact⟨((x,v,true),M3),hZ,(Wk.sub ⟨(by first|rfl|(simp only[List.length_map];rfl)|(simp only[ab,Nat.reduceBEq,eq_self];rfl)|simp[PX.get]),(by first|rfl|(simp only[List.length_map];rfl)|(simp only[ab,Nat.reduceBEq,eq_self];rfl)|simp[PX.get]),(by first|rfl|(simp only[List.length_map];rfl)|(simp only[ab,Nat.reduceBEq,eq_self];rfl)|simp[PX.get]),(by first|rfl|(simp only[List.length_map];rfl)|(simp only[ab,Nat.reduceBEq,eq_self];rfl)|simp[PX.get]),(by first|rfl|(simp only[List.length_map];rfl)|(simp only[ab,Nat.reduceBEq,eq_self];rfl)|simp[PX.get]),(by first|rfl|(simp only[List.length_map];rfl)|(simp only[ab,Nat.reduceBEq,eq_self];rfl)|simp[PX.get]),(by first|rfl|(simp only[List.length_map];rfl)|(simp only[ab,Nat.reduceBEq,eq_self];rfl)|simp[PX.get]),(by first|rfl|(simp only[List.length_map];rfl)|(simp only[ab,Nat.reduceBEq,eq_self];rfl)|simp[PX.get]),(by first|rfl|(simp only[List.length_map];rfl)|(simp only[ab,Nat.reduceBEq,eq_self];rfl)|simp[PX.get]),(by first|rfl|(simp only[List.length_map];rfl)|(simp only[ab,Nat.reduceBEq,eq_self];rfl)|simp[PX.get]),(by first|rfl|(simp only[List.length_map];rfl)|(simp only[ab,Nat.reduceBEq,eq_self];rfl)|simp[PX.get]),(by first|rfl|(simp only[List.length_map];rfl)|(simp only[ab,Nat.reduceBEq,eq_self];rfl)|simp[PX.get]),trivial⟩ ⟨(by first|rfl|(simp only[List.length_map];rfl)|(simp only[ab,Nat.reduceBEq,eq_self];rfl)|simp[PX.get]),(by first|rfl|(simp only[List.length_map];rfl)|(simp only[ab,Nat.reduceBEq,eq_self];rfl)|simp[PX.get]),(by first|rfl|(simp only[List.length_map];rfl)|(simp only[ab,Nat.reduceBEq,eq_self];rfl)|simp[PX.get]),trivial⟩)⟩
     | true=>
      conv=>whnf
      by_cases dI:v<lf
      ·refine ag (fun _=>?_) (fun h=>absurd (show decide (v<lf)=false from h) (by simp[dI]))
       rw[if_pos (.inr dI)]at hZ;conv=>whnf
       refine af ?_;conv=>whnf
       exact⟨((x,v,true),M3),hZ,(Wk.sub ⟨(by first|rfl|(simp only[List.length_map];rfl)|(simp only[ab,Nat.reduceBEq,eq_self];rfl)|simp[PX.get]),(by first|rfl|(simp only[List.length_map];rfl)|(simp only[ab,Nat.reduceBEq,eq_self];rfl)|simp[PX.get]),(by first|rfl|(simp only[List.length_map];rfl)|(simp only[ab,Nat.reduceBEq,eq_self];rfl)|simp[PX.get]),(by first|rfl|(simp only[List.length_map];rfl)|(simp only[ab,Nat.reduceBEq,eq_self];rfl)|simp[PX.get]),(by first|rfl|(simp only[List.length_map];rfl)|(simp only[ab,Nat.reduceBEq,eq_self];rfl)|simp[PX.get]),(by first|rfl|(simp only[List.length_map];rfl)|(simp only[ab,Nat.reduceBEq,eq_self];rfl)|simp[PX.get]),(by first|rfl|(simp only[List.length_map];rfl)|(simp only[ab,Nat.reduceBEq,eq_self];rfl)|simp[PX.get]),(by first|rfl|(simp only[List.length_map];rfl)|(simp only[ab,Nat.reduceBEq,eq_self];rfl)|simp[PX.get]),(by first|rfl|(simp only[List.length_map];rfl)|(simp only[ab,Nat.reduceBEq,eq_self];rfl)|simp[PX.get]),(by first|rfl|(simp only[List.length_map];rfl)|(simp only[ab,Nat.reduceBEq,eq_self];rfl)|simp[PX.get]),(by first|rfl|(simp only[List.length_map];rfl)|(simp only[ab,Nat.reduceBEq,eq_self];rfl)|simp[PX.get]),(by first|rfl|(simp only[List.length_map];rfl)|(simp only[ab,Nat.reduceBEq,eq_self];rfl)|simp[PX.get]),trivial⟩ ⟨(by first|rfl|(simp only[List.length_map];rfl)|(simp only[ab,Nat.reduceBEq,eq_self];rfl)|simp[PX.get]),(by first|rfl|(simp only[List.length_map];rfl)|(simp only[ab,Nat.reduceBEq,eq_self];rfl)|simp[PX.get]),(by first|rfl|(simp only[List.length_map];rfl)|(simp only[ab,Nat.reduceBEq,eq_self];rfl)|simp[PX.get]),trivial⟩)⟩
      ·refine ag (fun h=>absurd (show decide (v<lf)=true from h) (by simp;omega)) (fun _=>?_)
       rw[if_neg (by simp only[Bool.true_eq_false,false_or];exact dI)]at hZ;conv=>whnf
       refine af ?_;conv=>whnf
       exact⟨((mk,lf,true),M3),hZ,(Wk.sub ⟨(by first|rfl|(simp only[List.length_map];rfl)|(simp only[ab,Nat.reduceBEq,eq_self];rfl)|simp[PX.get]),(by first|rfl|(simp only[List.length_map];rfl)|(simp only[ab,Nat.reduceBEq,eq_self];rfl)|simp[PX.get]),(by first|rfl|(simp only[List.length_map];rfl)|(simp only[ab,Nat.reduceBEq,eq_self];rfl)|simp[PX.get]),(by first|rfl|(simp only[List.length_map];rfl)|(simp only[ab,Nat.reduceBEq,eq_self];rfl)|simp[PX.get]),(by first|rfl|(simp only[List.length_map];rfl)|(simp only[ab,Nat.reduceBEq,eq_self];rfl)|simp[PX.get]),(by first|rfl|(simp only[List.length_map];rfl)|(simp only[ab,Nat.reduceBEq,eq_self];rfl)|simp[PX.get]),(by first|rfl|(simp only[List.length_map];rfl)|(simp only[ab,Nat.reduceBEq,eq_self];rfl)|simp[PX.get]),(by first|rfl|(simp only[List.length_map];rfl)|(simp only[ab,Nat.reduceBEq,eq_self];rfl)|simp[PX.get]),(by first|rfl|(simp only[List.length_map];rfl)|(simp only[ab,Nat.reduceBEq,eq_self];rfl)|simp[PX.get]),(by first|rfl|(simp only[List.length_map];rfl)|(simp only[ab,Nat.reduceBEq,eq_self];rfl)|simp[PX.get]),(by first|rfl|(simp only[List.length_map];rfl)|(simp only[ab,Nat.reduceBEq,eq_self];rfl)|simp[PX.get]),(by first|rfl|(simp only[List.length_map];rfl)|(simp only[ab,Nat.reduceBEq,eq_self];rfl)|simp[PX.get]),trivial⟩ ⟨(by first|rfl|(simp only[List.length_map];rfl)|(simp only[ab,Nat.reduceBEq,eq_self];rfl)|simp[PX.get]),(by first|rfl|(simp only[List.length_map];rfl)|(simp only[ab,Nat.reduceBEq,eq_self];rfl)|simp[PX.get]),(by first|rfl|(simp only[List.length_map];rfl)|(simp only[ab,Nat.reduceBEq,eq_self];rfl)|simp[PX.get]),trivial⟩)⟩
   ·rw[if_neg V4]at hz
    rw[hc j (by omega) hj,if_pos rfl]at hK;rcases EL with rfl|rfl|rfl|rfl
    ·exact absurd rfl V4
    all_goals
     rw[hK]at hB;rw[hB];conv=>whnf
     refine ag (fun _=>?_) (fun h=>absurd (of_decide_eq_false h) (by rw[List.length_map];omega));conv=>whnf
     refine af ?_;conv=>whnf
     exact⟨((ZZ,ZW,Yp),M2),hz,(Wk.sub ⟨(by first|rfl|(simp only[List.length_map];rfl)|(simp only[ab,Nat.reduceBEq,eq_self];rfl)|simp[PX.get]),(by first|rfl|(simp only[List.length_map];rfl)|(simp only[ab,Nat.reduceBEq,eq_self];rfl)|simp[PX.get]),(by first|rfl|(simp only[List.length_map];rfl)|(simp only[ab,Nat.reduceBEq,eq_self];rfl)|simp[PX.get]),(by first|rfl|(simp only[List.length_map];rfl)|(simp only[ab,Nat.reduceBEq,eq_self];rfl)|simp[PX.get]),(by first|rfl|(simp only[List.length_map];rfl)|(simp only[ab,Nat.reduceBEq,eq_self];rfl)|simp[PX.get]),(by first|rfl|(simp only[List.length_map];rfl)|(simp only[ab,Nat.reduceBEq,eq_self];rfl)|simp[PX.get]),(by first|rfl|(simp only[List.length_map];rfl)|(simp only[ab,Nat.reduceBEq,eq_self];rfl)|simp[PX.get]),(by first|rfl|(simp only[List.length_map];rfl)|(simp only[ab,Nat.reduceBEq,eq_self];rfl)|simp[PX.get]),(by first|rfl|(simp only[List.length_map];rfl)|(simp only[ab,Nat.reduceBEq,eq_self];rfl)|simp[PX.get]),(by first|rfl|(simp only[List.length_map];rfl)|(simp only[ab,Nat.reduceBEq,eq_self];rfl)|simp[PX.get]),(by first|rfl|(simp only[List.length_map];rfl)|(simp only[ab,Nat.reduceBEq,eq_self];rfl)|simp[PX.get]),(by first|rfl|(simp only[List.length_map];rfl)|(simp only[ab,Nat.reduceBEq,eq_self];rfl)|simp[PX.get]),trivial⟩ ⟨(by first|rfl|(simp only[List.length_map];rfl)|(simp only[ab,Nat.reduceBEq,eq_self];rfl)|simp[PX.get]),(by first|rfl|(simp only[List.length_map];rfl)|(simp only[ab,Nat.reduceBEq,eq_self];rfl)|simp[PX.get]),(by first|rfl|(simp only[List.length_map];rfl)|(simp only[ab,Nat.reduceBEq,eq_self];rfl)|simp[PX.get]),trivial⟩)⟩
  ·rintro z hz
   rw[if_neg (by omega)]at hz;subst hz;conv=>whnf
   refine ag (fun h=>absurd (of_decide_eq_true h) (by rw[List.length_map];omega)) (fun _=>?_);conv=>whnf
   refine af ?_;conv=>whnf
   exact⟨z,⟨tc,he⟩,(Wk.sub ⟨(by first|rfl|(simp only[List.length_map];rfl)|(simp only[ab,Nat.reduceBEq,eq_self];rfl)|simp[PX.get]),(by first|rfl|(simp only[List.length_map];rfl)|(simp only[ab,Nat.reduceBEq,eq_self];rfl)|simp[PX.get]),(by first|rfl|(simp only[List.length_map];rfl)|(simp only[ab,Nat.reduceBEq,eq_self];rfl)|simp[PX.get]),(by first|rfl|(simp only[List.length_map];rfl)|(simp only[ab,Nat.reduceBEq,eq_self];rfl)|simp[PX.get]),(by first|rfl|(simp only[List.length_map];rfl)|(simp only[ab,Nat.reduceBEq,eq_self];rfl)|simp[PX.get]),(by first|rfl|(simp only[List.length_map];rfl)|(simp only[ab,Nat.reduceBEq,eq_self];rfl)|simp[PX.get]),(by first|rfl|(simp only[List.length_map];rfl)|(simp only[ab,Nat.reduceBEq,eq_self];rfl)|simp[PX.get]),(by first|rfl|(simp only[List.length_map];rfl)|(simp only[ab,Nat.reduceBEq,eq_self];rfl)|simp[PX.get]),(by first|rfl|(simp only[List.length_map];rfl)|(simp only[ab,Nat.reduceBEq,eq_self];rfl)|simp[PX.get]),trivial⟩ ⟨(by first|rfl|(simp only[List.length_map];rfl)|(simp only[ab,Nat.reduceBEq,eq_self];rfl)|simp[PX.get]),(by first|rfl|(simp only[List.length_map];rfl)|(simp only[ab,Nat.reduceBEq,eq_self];rfl)|simp[PX.get]),(by first|rfl|(simp only[List.length_map];rfl)|(simp only[ab,Nat.reduceBEq,eq_self];rfl)|simp[PX.get]),trivial⟩)⟩
 ·rintro ⟨⟨mk,lf,fo⟩,M1⟩ ⟨wB,he⟩
  rw[List.foldl_nil]at he;subst he;have uf:fo=true:=uf;subst uf;rw[List.length_range];conv=>whnf
  refine ag (fun h=>absurd (of_decide_eq_true h) (by rw[List.length_map];omega)) (fun _=>?_);conv=>whnf
  exact ae
deriving instance DecidableEq for Pt
theorem Vd(a b:List Pt)(ha:a.length<1000000):aX Tryz.prog 33 [g9 a,g9 b] (.bool (decide (a=b))):=by
 refine aB Tryz.func33 rfl (ft:=Uf) 2 fun {σ} Y st=>?_;conv=>whnf
 refine ag (fun h0=>?_) (fun h0=>?_)
 ·have h0:a.length≠b.length:=by
   intro e;simp[e]at h0
  conv=>whnf
  rw[decide_eq_false (by rintro rfl;exact h0 rfl)];exact ae
 ·have h0:a.length=b.length:=by
   have:=h0;simp at this;omega
  conv=>whnf
  refine bP (T:=tys) ao (by exact ai mixed ao (by decide +kernel)) (α:=Nat) (fun i=>⟨[(0,.d (g9 a)),(1,.d (g9 b)),(5,.d (i64 i))],[],st⟩) (fun i=>i<=a.length/\a.take i=b.take i) (fun i=>a.length-i) 0
   aI (by simp) ?_
  rintro i ⟨hi,he⟩;conv=>whnf
  refine ag (fun hc=>?_) (fun hc=>?_)
  ·have hc:i<a.length:=by simpa using hc
   have sj:i<b.length:=by omega
   conv=>whnf
   refine bY a[i].cells (by simp[hc]) ?_;conv=>whnf
   refine bY b[i].cells (by simp[sj]) ?_;conv=>whnf
   refine ag (fun h1=>?_) (fun h1=>?_)
   ·conv=>whnf
    have h1:a[i]≠b[i]:=by
     intro e;rw[e]at h1;simp at h1
    rw[decide_eq_false (by rintro rfl;exact h1 rfl)];exact ae
   ·have h1:a[i]=b[i]:=by
     cases hx:a[i]with
     | mk x y=>
      cases hy:b[i]with
      | mk u v=>
       rw[hx,hy]at h1;simpa using h1
    refine af ?_;conv=>whnf
    exact⟨i+1,by omega,⟨hc,by rw[List.take_succ_eq_append_getElem hc,List.take_succ_eq_append_getElem sj,he,h1]⟩,Wk.sub ⟨rfl,rfl,rfl,trivial⟩ trivial⟩
  ·have hc:¬ i<a.length:=by simpa using hc
   conv=>whnf
   rw[List.take_of_length_le (by omega),List.take_of_length_le (by omega)]at he;rw[decide_eq_true he];exact ae
theorem AD(x y:Int):aX Tryz.prog 29 [i64 x,i64 y] (Pt.d ⟨x,y⟩):=by
 refine aB Tryz.func29 rfl (ft:=Ub) 2 fun {σ} Y st=>?_;conv=>whnf
 exact ae
def eA:Fix:=⟨⟨[⟨⟨#[99,104,117,114,99,104]⟩,⟨1000,0⟩,[⟨0,1⟩]⟩,⟨⟨#[109,105,108,108]⟩,⟨0,1000⟩,[⟨0,1⟩]⟩],[]⟩,5,[⟨⟨#[99,97,114,100]⟩,false,⟨0,1⟩⟩,⟨⟨#[108,105,110,101]⟩,true,⟨-2,2⟩⟩],[⟨⟨-500,0⟩,⟨-500,500⟩,⟨100,110⟩,1⟩,⟨⟨-500,500⟩,⟨-500,500⟩,⟨80,95⟩,2⟩],500,1⟩
def sA:aC:=⟨0,0,8,0⟩
def sB:aC:=⟨0,1,0,0⟩
def sD:aC:=⟨1,0,96,0⟩
def sM:aC:=⟨0,1,8,0⟩
theorem I5:aX Tryz.prog 25 [] sA.d:=by
 refine aB Tryz.func25 rfl (ft:=T7) 0 fun {σ} Y st=>?_;conv=>whnf
 exact ae
theorem I7:aX Tryz.prog 28 [] sB.d:=by
 refine aB Tryz.func28 rfl (ft:=Ua) 0 fun {σ} Y st=>?_;conv=>whnf
 exact ae
theorem I6:aX Tryz.prog 26 [] sD.d:=by
 refine aB Tryz.func26 rfl (ft:=T8) 0 fun {σ} Y st=>?_;conv=>whnf
 exact ae
theorem I4:aX Tryz.prog 24 [] eA.d:=by
 refine aB Tryz.func24 rfl (ft:=T6) 0 fun {σ} Y st=>?_;conv=>whnf
 repeat' (first
  | (refine ah (AD _ _) rfl rfl ?_;conv=>whnf)
  | (refine ak (AD _ _) rfl 1 rfl ?_;conv=>whnf)
  | (refine al (AD _ _) rfl rfl ?_;conv=>whnf)
  | (refine aw (AD _ _) rfl 1 rfl ?_;conv=>whnf)
  | (refine ah (s7 _ _) rfl rfl ?_;conv=>whnf)
  | (refine ak (s7 _ _) rfl 1 rfl ?_;conv=>whnf)
  | (refine al (s7 _ _) rfl rfl ?_;conv=>whnf)
  | (refine aw (s7 _ _) rfl 1 rfl ?_;conv=>whnf)
  | (refine af ?_;conv=>whnf)
  | (refine au (by assumption) ?_;conv=>whnf)
  | (refine aK (by first|rfl|assumption|(simp[a7.len];done)|(simp[a7.len];omega)) ?_;conv=>whnf)
  | (refine bc (by first|(exact decide_eq_true (by(try simp only[List.length_map]);omega))|(simp[a7.len,a7.cons,V.cells,a7.bo,cU];done)|(simp[a7.len,a7.cons,V.cells,a7.bo,cU];omega)) ?_;conv=>whnf)
  | fail)
 exact mj 3 rfl rfl ⟨⟨rfl,rfl⟩,rfl⟩
theorem x0:cI eA=(0,0,0):=by decide +kernel
theorem x1:eI eA sA=0/\eI eA sB=0/\eI eA sD=0/\eI eA sM=0:=by decide +kernel
theorem g1:e8 eA [sA]:=⟨x0,by decide,fun x hx=>by simp at hx;subst hx;exact x1.1⟩
theorem g2:e8 eA [sA,sD]:=⟨x0,by decide,fun x hx=>by simp at hx;rcases hx with rfl|rfl<;>first|exact x1.1|exact x1.2.1|exact x1.2.2.1|exact x1.2.2.2⟩
theorem g3:e8 eA [sA,sB]:=⟨x0,by decide,fun x hx=>by simp at hx;rcases hx with rfl|rfl<;>first|exact x1.1|exact x1.2.1|exact x1.2.2.1|exact x1.2.2.2⟩
theorem g4:e8 eA [sA,sM,sD]:=⟨x0,by decide,fun x hx=>by simp at hx;rcases hx with rfl|rfl|rfl<;>first|exact x1.1|exact x1.2.1|exact x1.2.2.1|exact x1.2.2.2⟩
theorem x2:gn eA [sA] = [⟨-500,0⟩,⟨0,0⟩,⟨500,0⟩]:=by decide +kernel
theorem x3:gn eA [sA,sD] = [⟨500,0⟩]:=by decide +kernel
theorem x4:(uI eA [sA,sB] ⟨0,0⟩ 0 0).2=true/\rz eA (uI eA [sA,sB] ⟨0,0⟩ 0 0).1 = [⟨0,0⟩,⟨-2,2⟩]:=by decide +kernel
theorem x5:(uI eA [sA] ⟨-500,500⟩ 0 0).2=false:=by decide +kernel
theorem x6:(IM ⟨-500,0⟩ [⟨-500,0⟩,⟨0,0⟩,⟨500,0⟩]).x=⟨-500,500⟩/\(IM ⟨-500,0⟩ [⟨-500,0⟩,⟨0,0⟩,⟨500,0⟩]).y=⟨0,0⟩:=by decide +kernel
theorem x7:m5 eA [sA,sM,sD]=15:=by decide +kernel
theorem x8:(oJ eA [sA,sM,sD] 15 3 0 []).map Prod.fst=some 2:=by decide +kernel
theorem x9:wy eA 2=([1],[]):=by decide +kernel
theorem XV:(Er eA [sA] [⟨-500,0⟩,⟨0,0⟩,⟨500,0⟩]).1=(1,1,true):=by decide +kernel
theorem XW:cQ eA 0=false/\cQ eA 1=true:=by decide +kernel
theorem b1:aX Tryz.prog 10 [eA.d,bn [sA]] (.tup [g9 [⟨-500,0⟩,⟨0,0⟩,⟨500,0⟩],i64 0]):=aX.cast (L8 eA [sA] g1) (by rw[x2];rfl)
theorem b2:aX Tryz.prog 10 [eA.d,bn [sA,sD]] (.tup [g9 [⟨500,0⟩],i64 0]):=aX.cast (L8 eA [sA,sD] g2) (by rw[x3];rfl)
theorem b3:aX Tryz.prog 27 [eA.d,bn [sA,sB],Pt.d ⟨0,0⟩] (.tup [cw [⟨0,0⟩,⟨-2,2⟩],i64 0]):=aX.cast (QF eA [sA,sB] ⟨0,0⟩ g3 (by decide)) (by unfold Bj;rw[if_pos x4.1,x4.2])
theorem b4:aX Tryz.prog 30 [eA.d,bn [sA]] (.tup [.agg [i64 (-500),i64 500,i64 0,i64 0],i64 0]):=aX.cast (Va eA [sA] g1 _ _ x2) (by unfold zZ.d zZ.cells;rw[x6.1,x6.2])
theorem X7(M':bM)(h:oJ eA [sA,sM,sD] 15 3 0 []=some (2,M')):aX Tryz.prog 31 [eA.d,bn [sA,sM,sD]] (.tup [bS [1],bS [],i64 0]):=
 aX.cast (Vb eA [sA,sM,sD] g4 3 2 M' (by decide) (by rw[x7];decide) (by rw[x7];exact h)) (by rw[x9])
theorem x8a:∃ M',oJ eA [sA,sM,sD] 15 3 0 []=some (2,M'):=by
 have hw:=x8
 cases h:oJ eA [sA,sM,sD] 15 3 0 []with
 | none=>rw[h]at hw;cases hw
 | some z=>
  obtain⟨set,M'⟩:=z;rw[h]at hw;have hs:set=2:=by simpa using hw
  subst hs;exact⟨M',rfl⟩
theorem b5:aX Tryz.prog 31 [eA.d,bn [sA,sM,sD]] (.tup [bS [1],bS [],i64 0]):=Exists.elim x8a fun M' h=>X7 M' h
theorem b6:aX Tryz.prog 32 [eA.d,bn [sA]] (.tup [i64 1,i64 0,i64 1,i64 0]):=aX.cast (Vc eA [sA] g1 (by decide) _ _ x2 XW.1 (fun k h1 h2=>by
  have:k=1:=by
   have h3:eA.insts.length=2:=rfl;omega
  subst this;exact XW.2) (by rw[XV])) (by rw[XV])
theorem b7:aX Tryz.prog 27 [eA.d,bn [sA],Pt.d ⟨-500,500⟩] (.tup [.nils,i64 9]):=aX.cast (QF eA [sA] ⟨-500,500⟩ g1 (by decide)) (by unfold Bj;rw[x5];rfl)
theorem b8(l:List Int)(hl:l.length<1000000):aX Tryz.prog 36 [bS l,bS l] (.bool true):=aX.cast (LP l l hl) (by simp)
theorem b9(l:List Pt)(hl:l.length<1000000):aX Tryz.prog 33 [g9 l,g9 l] (.bool true):=aX.cast (Vd l l hl) (by simp)
theorem Sh(l:List Span)(hl:l.length<1000000):aX Tryz.prog 34 [cw l,cw l] (.bool true):=aX.cast (OJ l l hl) (by simp)
set_option maxHeartbeats 8000000 in
theorem Yy:aX Tryz.prog 6 [] (.bool true):=by
 refine aB Tryz.func6 rfl (ft:=Yt) 0 fun {σ} Y st=>?_;conv=>whnf
 repeat' (first
  | (refine ah (I4) rfl rfl ?_;conv=>whnf)
  | (refine ak (I4) rfl 1 rfl ?_;conv=>whnf)
  | (refine al (I4) rfl rfl ?_;conv=>whnf)
  | (refine aw (I4) rfl 1 rfl ?_;conv=>whnf)
  | (refine ah (I5) rfl rfl ?_;conv=>whnf)
  | (refine ak (I5) rfl 1 rfl ?_;conv=>whnf)
  | (refine al (I5) rfl rfl ?_;conv=>whnf)
  | (refine aw (I5) rfl 1 rfl ?_;conv=>whnf)
  | (refine ah (I6) rfl rfl ?_;conv=>whnf)
  | (refine ak (I6) rfl 1 rfl ?_;conv=>whnf)
  | (refine al (I6) rfl rfl ?_;conv=>whnf)
  | (refine aw (I6) rfl 1 rfl ?_;conv=>whnf)
  | (refine ah (I7) rfl rfl ?_;conv=>whnf)
  | (refine ak (I7) rfl 1 rfl ?_;conv=>whnf)
  | (refine al (I7) rfl rfl ?_;conv=>whnf)
  | (refine aw (I7) rfl 1 rfl ?_;conv=>whnf)
  | (refine ah (AD _ _) rfl rfl ?_;conv=>whnf)
  | (refine ak (AD _ _) rfl 1 rfl ?_;conv=>whnf)
  | (refine al (AD _ _) rfl rfl ?_;conv=>whnf)
  | (refine aw (AD _ _) rfl 1 rfl ?_;conv=>whnf)
  | (refine ah (s7 _ _) rfl rfl ?_;conv=>whnf)
  | (refine ak (s7 _ _) rfl 1 rfl ?_;conv=>whnf)
  | (refine al (s7 _ _) rfl rfl ?_;conv=>whnf)
  | (refine aw (s7 _ _) rfl 1 rfl ?_;conv=>whnf)
  | (refine jg b1 1 [21] rfl rfl ?_;conv=>whnf)
  | (refine jg b2 1 [29] rfl rfl ?_;conv=>whnf)
  | (refine jg b3 1 [37] rfl rfl ?_;conv=>whnf)
  | (refine jg b4 1 [45] rfl rfl ?_;conv=>whnf)
  | (refine jg b5 1 [54] rfl rfl ?_;conv=>whnf)
  | (refine jg b6 1 [62] rfl rfl ?_;conv=>whnf)
  | (refine jg b7 1 [71] rfl rfl ?_;conv=>whnf)
  | (refine ah (b8 [1] (by decide)) rfl rfl ?_;conv=>whnf)
  | (refine ak (b8 [1] (by decide)) rfl 1 rfl ?_;conv=>whnf)
  | (refine al (b8 [1] (by decide)) rfl rfl ?_;conv=>whnf)
  | (refine aw (b8 [1] (by decide)) rfl 1 rfl ?_;conv=>whnf)
  | (refine ah (b9 [⟨-500,0⟩,⟨0,0⟩,⟨500,0⟩] (by decide)) rfl rfl ?_;conv=>whnf)
  | (refine ak (b9 [⟨-500,0⟩,⟨0,0⟩,⟨500,0⟩] (by decide)) rfl 1 rfl ?_;conv=>whnf)
  | (refine al (b9 [⟨-500,0⟩,⟨0,0⟩,⟨500,0⟩] (by decide)) rfl rfl ?_;conv=>whnf)
  | (refine aw (b9 [⟨-500,0⟩,⟨0,0⟩,⟨500,0⟩] (by decide)) rfl 1 rfl ?_;conv=>whnf)
  | (refine ah (b9 [⟨500,0⟩] (by decide)) rfl rfl ?_;conv=>whnf)
  | (refine ak (b9 [⟨500,0⟩] (by decide)) rfl 1 rfl ?_;conv=>whnf)
  | (refine al (b9 [⟨500,0⟩] (by decide)) rfl rfl ?_;conv=>whnf)
  | (refine aw (b9 [⟨500,0⟩] (by decide)) rfl 1 rfl ?_;conv=>whnf)
  | (refine ah (Sh [⟨0,0⟩,⟨-2,2⟩] (by decide)) rfl rfl ?_;conv=>whnf)
  | (refine ak (Sh [⟨0,0⟩,⟨-2,2⟩] (by decide)) rfl 1 rfl ?_;conv=>whnf)
  | (refine al (Sh [⟨0,0⟩,⟨-2,2⟩] (by decide)) rfl rfl ?_;conv=>whnf)
  | (refine aw (Sh [⟨0,0⟩,⟨-2,2⟩] (by decide)) rfl 1 rfl ?_;conv=>whnf)
  | (refine af ?_;conv=>whnf)
  | (refine au (by assumption) ?_;conv=>whnf)
  | (refine aK (by first|rfl|assumption|(simp[a7.len];done)|(simp[a7.len];omega)) ?_;conv=>whnf)
  | (refine bc (by first|(exact decide_eq_true (by(try simp only[List.length_map]);omega))|(simp[a7.len,a7.cons,V.cells,a7.bo,cU];done)|(simp[a7.len,a7.cons,V.cells,a7.bo,cU];omega)) ?_;conv=>whnf)
  | fail)
 exact ae
theorem QA(x:dr):aX Tryz.prog 19 [x.d] (i64 (jo x)):=by
 refine aB Tryz.func19 rfl (ft:=T1) 1 fun {σ} Y st=>?_;conv=>whnf
 unfold jo
 cases h:x.lead with
 | true=>
  conv=>whnf
  exact ae
 | false=>
  conv=>whnf
  exact ae
theorem C5(lo hi:Int)(s t:Span):spread lo hi [s,t] 0=if (a6 s.lo lo hi&&a6 s.hi lo hi)&&(a6 t.lo lo hi&&a6 t.hi lo hi) then (if s.hi<s.lo then 2 else if t.hi<t.lo then 2 else 0) else 7:=by
 simp only[spread];cases h1:a6 s.lo lo hi&&a6 s.hi lo hi<;>cases h2:a6 t.lo lo hi&&a6 t.hi lo hi<;>simp only[Bool.and_true,Bool.and_false,Bool.true_and,Bool.false_and,if_true,if_false,Bool.false_eq_true]
 by_cases h3:s.hi<s.lo<;>by_cases h4:t.hi<t.lo<;>simp[h3,h4]
theorem Ep(a:jf):lN a=if spread (-30000) 30000 [a.x,a.y] 0=7 then 7 else if spread 0 1000 [a.depth] 0=7 then 7 else if a6 a.ground 1 4 then (if spread (-30000) 30000 [a.x,a.y] 0=0 then spread 0 1000 [a.depth] 0 else spread (-30000) 30000 [a.x,a.y] 0) else 7:=by
 rw[C5,iY];unfold lN
 cases h1:(a6 a.x.lo (-30000) 30000&&a6 a.x.hi (-30000) 30000)&&(a6 a.y.lo (-30000) 30000&&a6 a.y.hi (-30000) 30000) with
 | false=>rfl
 | true=>
  cases h2:a6 a.depth.lo 0 1000&&a6 a.depth.hi 0 1000 with
  | false=>
   simp only[if_true,if_false,Bool.false_eq_true];repeat' (first|rfl|split)
  | true=>
   cases h3:a6 a.ground 1 4 with
   | false=>
    simp only[if_true,if_false,Bool.false_eq_true];repeat' (first|rfl|split)
   | true=>
    simp only[if_true];by_cases h4:a.x.hi<a.x.lo
    ·simp[h4]
     split<;>simp
    ·by_cases h5:a.y.hi<a.y.lo
     ·simp[h4,h5]
      split<;>simp
     ·by_cases h6:a.depth.hi<a.depth.lo<;>simp[h4,h5,h6]
theorem U9(a:jf):aX Tryz.prog 20 [a.d] (i64 (lN a)):=by
 refine aB Tryz.func20 rfl (ft:=T2) 1 fun {σ} Y st=>?_;conv=>whnf
 refine ak (ds:=[cw [a.x,a.y],i64 (-30000),i64 30000]) (GA [a.x,a.y] (-30000) 30000 (by simp)) rfl 1 rfl ?_;conv=>whnf
 refine ah (ds:=[a.depth.d,i64 0,i64 1000]) (tK a.depth 0 1000) rfl rfl ?_;rw[Ep];generalize spread (-30000) 30000 [a.x,a.y] 0=u;generalize spread 0 1000 [a.depth] 0=v;by_cases h1:u=7
 ·subst h1
  rw[if_pos rfl];conv=>whnf
  exact ae
 rw[if_neg h1];conv=>whnf
 rw[decide_eq_false h1];conv=>whnf
 by_cases h2:v=7
 ·subst h2
  rw[if_pos rfl];conv=>whnf
  exact ae
 rw[if_neg h2,decide_eq_false h2];conv=>whnf
 refine ah (ds:=[i64 a.ground,i64 1,i64 4]) (nf a.ground 1 4) rfl rfl ?_
 cases h3:a6 a.ground 1 4 with
 | false=>
  conv=>whnf
  exact ae
 | true=>
  rw[if_pos rfl];conv=>whnf
  by_cases h4:u=0
  ·rw[if_pos h4,decide_eq_true h4]
   conv=>whnf
   exact ae
  ·rw[if_neg h4,decide_eq_false h4]
   conv=>whnf
   exact ae
theorem E1(l:List dr)(x:dr):n5 l x=if dM x.name (l.map dr.name)=0 then spread (-jo x) (jo x) [x.off] 0 else dM x.name (l.map dr.name):=by
 unfold n5 dM;rw[iY,List.any_map]
 cases h1:eP x.name with
 | false=>rfl
 | true=>
  have:((fun y=>decide (y=x.name))∘dr.name)=fun(y:dr)=>decide (y.name=x.name):=rfl;rw[this]
  cases h2:l.any fun y=>decide (y.name=x.name) with
  | true=>rfl
  | false=>rfl
set_option maxHeartbeats 4000000 in
theorem Xh(f:Fix):aX Tryz.prog 4 [f.d] (.tup [i64 (cI f).1,i64 (cI f).2.1,i64 (cI f).2.2]):=by
 refine aB Tryz.func4 rfl (ft:=Yr) 1 fun {σ} Y st=>?_;conv=>whnf
 refine ah (ds:=[f.aP.d]) (Kz f.aP) rfl rfl ?_;conv=>whnf
 unfold cI;by_cases h0:(cD f.aP).2.2=0;case neg=>
  rw[if_neg h0];refine ag (fun _=>?_) (fun h1=>absurd h1 (by simp[h0]));conv=>whnf
  exact ae
 rw[if_pos h0];refine ag (fun h1=>absurd h1 (by simp[h0])) (fun _=>?_);conv=>whnf
 refine ah (ds:=[i64 f.day,i64 0,i64 40000]) (nf f.day 0 40000) rfl rfl ?_
 cases h1:a6 f.day 0 40000 with
 | false=>
  conv=>whnf
  exact ae
 | true=>
 conv=>whnf
 refine ah (ds:=[i64 f.step,i64 1,i64 500]) (nf f.step 1 500) rfl rfl ?_
 cases h2:a6 f.step 1 500 with
 | false=>
  conv=>whnf
  exact ae
 | true=>
 conv=>whnf
 refine ah (ds:=[i64 f.half,i64 0,i64 8]) (nf f.half 0 8) rfl rfl ?_
 cases h3:a6 f.half 0 8 with
 | false=>
  conv=>whnf
  exact ae
 | true=>
 conv=>whnf
 refine ah (ds:=[i64 (f.insts.map dr.cells).length,i64 1,i64 4]) (nf (f.insts.map dr.cells).length 1 4) rfl rfl ?_;rw[List.length_map]
 cases h4:a6 f.insts.length 1 4 with
 | false=>
  conv=>whnf
  exact ae
 | true=>
 have hi:=bq.1 h4;simp only[if_true];conv=>whnf
 generalize hR:(if (mL f.insts).2=0 then (if 6<f.cH.length then ((4:Int),(0:Int),(3:Int)) else if (ml f.cH).2=0 then (0,0,0) else (4,(ml f.cH).1,(ml f.cH).2)) else (3,(mL f.insts).1,(mL f.insts).2))=R;refine ba (T:=tys) ao (by exact ai mixed ao (by decide +kernel)) f.insts (fun i (e:Int)=>⟨[(1,.ptr 1 0),(7,.d (i64 e)),(8,.sl 63 1 0 i),(9,.d (i64 i))],[(1,.box (.dd f.cells)),(63,.arr 1 (.dd (fU ((f.insts.take i).map dr.name))))],st⟩) (fun i r _=>mL f.insts=eX (fun i x=>n5 (f.insts.take i) x) i r) 0 ?wk rfl ?_ ?_;case wk=>exact(Wk.born 8 63 1 rfl rfl rfl).trans (Wk.sub ⟨rfl,congrArg (fun z=>some (V.d (i64 z))) h0,rfl,rfl,trivial⟩ ⟨rfl,rfl,trivial⟩)
 ·rintro i x r e jD Jh hr he
  have vh:f.insts.take (i+1)=f.insts.take i ++ [x]:=by rw[List.take_succ,jD];rfl
  rw[eX]at he;conv=>whnf
  refine ag (fun _=>?_) (fun h=>absurd (of_decide_eq_false h) (by rw[List.length_map];omega));conv=>whnf
  refine au jD ?_;conv=>whnf
  have Cm:((f.insts.take i).map dr.name).length=i:=by rw[List.length_map,List.length_take];omega
  have g8:=E1 (f.insts.take i) x;have Wd:=od x;have Co:fU ((f.insts.take (i+1)).map dr.name)=fU ((f.insts.take i).map dr.name) ++ [[.str x.name]]:=by rw[vh];simp[fU]
  generalize hNS:(f.insts.take i).map dr.name=ns at Cm g8 Co ⊢;refine ak (I1 x.name ns (by omega)) rfl 1 (aG rfl (aG (cB rfl (by simp[fU,Cm])) rfl)) ?_;conv=>whnf
  refine aK rfl ?_;conv=>whnf
  refine aK (by simp[a7.len,fU,Cm]) ?_;conv=>whnf
  refine bc (decide_eq_true (by show((fU ns).length+1)*16<=_;simp only[fU,List.length_map];omega)) ?_;conv=>whnf
  by_cases hf:dM x.name ns=0;case neg=>
   rw[if_neg hf]at g8;rw[g8,if_neg hf]at he;rw[decide_eq_false hf];conv=>whnf
   refine ag (fun _=>?_) (fun h=>absurd h (by simp[hf]));rw[he,if_neg hf]at hR;subst hR;conv=>whnf
   exact ae
  rw[if_pos hf]at g8;rw[decide_eq_true hf];conv=>whnf
  refine al (ds:=[x.d]) (QA x) rfl rfl ?_;conv=>whnf
  refine aA (-jo x) (by omega) (wrap_i64 (by omega)) ?_;conv=>whnf
  refine al (ds:=[x.d]) (QA x) rfl rfl ?_;conv=>whnf
  refine al (ds:=[x.off.d,i64 (-jo x),i64 (jo x)]) (tK x.off (-jo x) (jo x)) rfl rfl ?_;generalize spread (-jo x) (jo x) [x.off] 0=v at g8 ⊢;rw[g8]at he;conv=>whnf
  by_cases hv:v=0
  ·rw[if_pos hv]at he
   refine ag (fun h=>absurd h (by simp[hv])) (fun _=>?_);conv=>whnf
   refine af ?_;conv=>whnf
   refine⟨v,he,Wk.sub ⟨rfl,rfl,congrArg (fun z:Nat=>some (V.sl 63 1 0 z)) ?_,rfl,trivial⟩ ⟨rfl,congrArg (fun z=>some (Obj.arr 1 (.dd z))) Co.symm,trivial⟩⟩;simp[fU,a7.len,Cm]
  ·rw[if_neg hv]at he
   refine ag (fun _=>?_) (fun h=>absurd h (by simp[hv]));rw[he,if_neg hv]at hR;subst hR;conv=>whnf
   exact ae
 ·rintro e he
  rw[eX]at he;rw[he]at hR;simp only[if_true]at hR;conv=>whnf
  refine ag (fun h=>absurd (of_decide_eq_true h) (by rw[List.length_map];omega)) (fun _=>?_);conv=>whnf
  refine ag (fun h5=>?_) (fun h5=>?_)
  ·have h5:6<f.cH.length:=by have:=of_decide_eq_true h5;simp at this;omega
   rw[if_pos h5]at hR;subst hR;conv=>whnf
   exact ae
  have h5:¬ 6<f.cH.length:=by have:=of_decide_eq_false h5;simp at this;omega
  rw[if_neg h5]at hR;conv=>whnf
  refine ba (T:=tys) ao (by exact ai mixed ao (by decide +kernel)) f.cH (fun i (e:Int)=>⟨[(1,.ptr 1 0),(7,.d (i64 e)),(11,.d (i64 i))],[(1,.box (.dd f.cells))],st⟩) (fun i r _=>ml f.cH=eX (fun _ x=>lN x) i r) e (Wk.sub ⟨(by first|rfl|(simp only[List.length_map];rfl)|(simp only[ab,Nat.reduceBEq,eq_self];rfl)|simp[PX.get]),(by first|rfl|(simp only[List.length_map];rfl)|(simp only[ab,Nat.reduceBEq,eq_self];rfl)|simp[PX.get]),(by first|rfl|(simp only[List.length_map];rfl)|(simp only[ab,Nat.reduceBEq,eq_self];rfl)|simp[PX.get]),trivial⟩ ⟨(by first|rfl|(simp only[List.length_map];rfl)|(simp only[ab,Nat.reduceBEq,eq_self];rfl)|simp[PX.get]),trivial⟩) rfl ?_ ?_
  ·rintro i x r e jD Jh hr he
   rw[eX]at he;conv=>whnf
   refine ag (fun _=>?_) (fun h=>absurd (of_decide_eq_false h) (by rw[List.length_map];omega));conv=>whnf
   refine au jD ?_;conv=>whnf
   refine ah (ds:=[x.d]) (U9 x) rfl rfl ?_;generalize lN x=v at he ⊢;conv=>whnf
   by_cases hv:v=0
   ·rw[if_pos hv]at he
    refine ag (fun h=>absurd h (by simp[hv])) (fun _=>?_);conv=>whnf
    refine af ?_;conv=>whnf
    exact⟨v,he,(Wk.sub ⟨(by first|rfl|(simp only[List.length_map];rfl)|(simp only[ab,Nat.reduceBEq,eq_self];rfl)|simp[PX.get]),(by first|rfl|(simp only[List.length_map];rfl)|(simp only[ab,Nat.reduceBEq,eq_self];rfl)|simp[PX.get]),(by first|rfl|(simp only[List.length_map];rfl)|(simp only[ab,Nat.reduceBEq,eq_self];rfl)|simp[PX.get]),trivial⟩ ⟨(by first|rfl|(simp only[List.length_map];rfl)|(simp only[ab,Nat.reduceBEq,eq_self];rfl)|simp[PX.get]),trivial⟩)⟩
   ·rw[if_neg hv]at he
    refine ag (fun _=>?_) (fun h=>absurd h (by simp[hv]));rw[he,if_neg hv]at hR;subst hR;conv=>whnf
    exact ae
  ·rintro e he
   rw[eX]at he;rw[he]at hR;simp only[if_true]at hR;subst hR;conv=>whnf
   refine ag (fun h=>absurd (of_decide_eq_true h) (by rw[List.length_map];omega)) (fun _=>?_);conv=>whnf
   exact ae
theorem Qo(f:Fix)(x:aC)(hf:jh f):aX Tryz.prog 132 [f.d,x.d] (i64 (eI f x)):=by
 refine aB Tryz.func132 rfl (ft:=Pq) 2 fun {σ} Y st=>?_;conv=>whnf
 have KW:=(fj hf.aP).marks;have sq:=hf.many1;have ER:=hf.n9;unfold eI;refine aA ((f.insts.length:Int)-1) (by simp) (wrap_i64 (by omega)) ?_;conv=>whnf
 refine ah (ds:=[i64 x.inst,i64 0,i64 ((f.insts.length:Int)-1)]) (nf x.inst 0 ((f.insts.length:Int)-1)) rfl rfl ?_
 cases h1:a6 x.inst 0 ((f.insts.length:Int)-1) with
 | false=>
  conv=>whnf
  exact ae
 | true=>
 rw[if_pos rfl];have hi:=bq.1 h1;obtain⟨j,hj⟩:∃ j:Nat,x.inst=j:=⟨x.inst.toNat,by omega⟩;have FQ:j<f.insts.length:=by omega
 obtain⟨y,hy⟩:∃ y,f.insts[j]?=some y:=⟨f.insts[j],by simp⟩;have hL:cQ f x.inst.toNat=y.lead:=by rw[hj];unfold cQ;rw[show((j:Nat):Int).toNat=j from rfl,hy]
 rw[hL];conv=>whnf
 rw[hj];refine au hy ?_
 cases hl:y.lead with
 | true=>
  rw[if_pos rfl];conv=>whnf
  rw[show y.lead=true from hl];conv=>whnf
  refine ah (ds:=[i64 x.shown,i64 0,i64 1000]) (nf x.shown 0 1000) rfl rfl ?_
  cases h4:a6 x.shown 0 1000 with
  | false=>
   conv=>whnf
   exact ae
  | true=>
  conv=>whnf
  refine ah (ds:=[i64 x.ground,i64 0,i64 4]) (nf x.ground 0 4) rfl rfl ?_
  cases h5:a6 x.ground 0 4 with
  | false=>
   conv=>whnf
   exact ae
  | true=>
  rw[if_pos rfl,if_pos rfl];conv=>whnf
  by_cases h6:x.mark=0
  ·rw[if_pos h6,decide_eq_true h6]
   conv=>whnf
   exact ae
  ·rw[if_neg h6,decide_eq_false h6]
   conv=>whnf
   exact ae
 | false=>
  rw[if_neg (by simp)];conv=>whnf
  rw[show y.lead=false from hl];conv=>whnf
  refine aA ((f.aP.marks.length:Int)-1) (by simp) (wrap_i64 (by omega)) ?_;conv=>whnf
  refine ah (ds:=[i64 x.mark,i64 0,i64 ((f.aP.marks.length:Int)-1)]) (nf x.mark 0 ((f.aP.marks.length:Int)-1)) rfl rfl ?_
  cases h4:a6 x.mark 0 ((f.aP.marks.length:Int)-1) with
  | false=>
   conv=>whnf
   exact ae
  | true=>
  rw[if_pos rfl];have Xm:=bq.1 h4;have hE:ga f.aP f.day x.mark=0:=by
   unfold ga;rw[if_pos hf.aP,if_pos (bq.2 ⟨hf.Tm,hf.Tn⟩),if_pos h4]
  obtain⟨k,hk,Zh⟩:=vz hE;have hm:=D1 hE;have hp:=Bb hE;unfold Nr;generalize gl f.aP f.day x.mark=m at *;generalize oa f.aP f.day x.mark=c at *;rw[hk];conv=>whnf
  refine au Zh ?_;conv=>whnf
  refine aw (ds:=[m.d,i64 f.day]) (On m f.day hm) rfl 1 rfl ?_;rw[hp];conv=>whnf
  by_cases h7:c=0
  ·rw[decide_eq_true h7]
   conv=>whnf
   exact ae
  ·rw[decide_eq_false h7]
   conv=>whnf
   refine ah (ds:=[i64 x.shown,i64 0,i64 31]) (nf x.shown 0 31) rfl rfl ?_
   cases h5:a6 x.shown 0 31 with
   | false=>
    conv=>whnf
    exact ae
   | true=>
   rw[if_pos (by simp),if_pos rfl];conv=>whnf
   by_cases h6:x.ground=0
   ·rw[if_pos h6,decide_eq_true h6]
    conv=>whnf
    exact ae
   ·rw[if_neg h6,decide_eq_false h6]
    conv=>whnf
    exact ae
def pc(f:Fix)(l:List aC):Int×Int:=if 8<l.length then (0,3) else eX (fun _ x=>eI f x) 0 l
theorem Vm(f:Fix)(l:List aC)(h0:cI f=(0,0,0)):aX Tryz.prog 94 [f.d,bn l] (.tup [i64 (pc f l).1,i64 (pc f l).2]):=by
 refine aB Tryz.func94 rfl (ft:=U3) 2 fun {σ} Y st=>?_;conv=>whnf
 have hf:jh f:=iN (by rw[h0]);refine ah (ds:=[f.d]) (Xh f) rfl rfl ?_;rw[h0];conv=>whnf
 unfold pc;refine ag (fun h1=>?_) (fun h1=>?_)
 ·have h1:8<l.length:=by have:=of_decide_eq_true h1;simp at this;omega
  rw[if_pos h1];conv=>whnf
  exact ae
 have h1:¬ 8<l.length:=by have:=of_decide_eq_false h1;simp at this;omega
 rw[if_neg h1];conv=>whnf
 refine ba (T:=tys) ao (by exact ai mixed ao (by decide +kernel)) l (fun i (e:Int)=>⟨[(1,.d (bn l)),(2,.ptr 2 0),(8,.d (i64 e)),(9,.d (i64 i))],[(2,.box (.dd f.cells))],st⟩) (fun i r _=>eX (fun _ x=>eI f x) 0 l=eX (fun _ x=>eI f x) i r) 0 (Wk.sub ⟨(by first|rfl|(simp only[List.length_map];rfl)|(simp only[ab,Nat.reduceBEq,eq_self];rfl)|simp[PX.get]),(by first|rfl|(simp only[List.length_map];rfl)|(simp only[ab,Nat.reduceBEq,eq_self];rfl)|simp[PX.get]),(by first|rfl|(simp only[List.length_map];rfl)|(simp only[ab,Nat.reduceBEq,eq_self];rfl)|simp[PX.get]),(by first|rfl|(simp only[List.length_map];rfl)|(simp only[ab,Nat.reduceBEq,eq_self];rfl)|simp[PX.get]),trivial⟩ ⟨(by first|rfl|(simp only[List.length_map];rfl)|(simp only[ab,Nat.reduceBEq,eq_self];rfl)|simp[PX.get]),trivial⟩) rfl ?_ ?_
 ·rintro i x r e jD hi hr he
  rw[eX]at he;conv=>whnf
  refine ag (fun _=>?_) (fun h=>absurd (of_decide_eq_false h) (by rw[List.length_map];omega));conv=>whnf
  refine au jD ?_;conv=>whnf
  refine al (ds:=[f.d,x.d]) (Qo f x hf) rfl rfl ?_;generalize eI f x=v at he ⊢;conv=>whnf
  by_cases hv:v=0
  ·rw[if_pos hv]at he
   refine ag (fun h=>absurd h (by simp[hv])) (fun _=>?_);conv=>whnf
   refine af ?_;conv=>whnf
   exact⟨v,he,(Wk.sub ⟨(by first|rfl|(simp only[List.length_map];rfl)|(simp only[ab,Nat.reduceBEq,eq_self];rfl)|simp[PX.get]),(by first|rfl|(simp only[List.length_map];rfl)|(simp only[ab,Nat.reduceBEq,eq_self];rfl)|simp[PX.get]),(by first|rfl|(simp only[List.length_map];rfl)|(simp only[ab,Nat.reduceBEq,eq_self];rfl)|simp[PX.get]),(by first|rfl|(simp only[List.length_map];rfl)|(simp only[ab,Nat.reduceBEq,eq_self];rfl)|simp[PX.get]),trivial⟩ ⟨(by first|rfl|(simp only[List.length_map];rfl)|(simp only[ab,Nat.reduceBEq,eq_self];rfl)|simp[PX.get]),trivial⟩)⟩
  ·rw[if_neg hv]at he
   refine ag (fun _=>?_) (fun h=>absurd h (by simp[hv]));rw[he];conv=>whnf
   exact ae
 ·rintro e he
  rw[eX]at he;rw[he];conv=>whnf
  refine ag (fun h=>absurd (of_decide_eq_true h) (by rw[List.length_map];omega)) (fun _=>?_);conv=>whnf
  exact ae
def u2(f:Fix)(l:List aC):Bool:=decide ((pc f l).2=0)
theorem Mb(f:Fix)(l:List aC)(h0:cI f=(0,0,0)):aX Tryz.prog 52 [f.d,bn l] (.bool (u2 f l)):=by
 refine aB Tryz.func52 rfl (ft:=Ux) 2 fun {σ} Y st=>?_;conv=>whnf
 refine ah (ds:=[f.d,bn l]) (Vm f l h0) rfl rfl ?_;conv=>whnf
 exact ae
theorem AG{f:Fix}{l:List aC}(h0:cI f=(0,0,0))(h:u2 f l=true):e8 f l:=by
 have h:(pc f l).2=0:=of_decide_eq_true h;unfold pc at h;split at h
 ·cases h
 rename_i h1;exact⟨h0,by omega,fun x hx=>by
  obtain⟨k,hk⟩:=List.mem_iff_getElem?.1 hx;exact ud h k x hk⟩
theorem EF(f:Fix):u2 f []=true:=rfl
def xe(f:Fix)(p:Pt):Int:=indexOf (iS p) f.cH 0
theorem L9(f:Fix)(p:Pt)(hf:jh f):aX Tryz.prog 11 [f.d,p.d] (i64 (xe f p)):=by
 refine aB Tryz.func11 rfl (ft:=TT) 2 fun {σ} Y st=>?_;conv=>whnf
 have hl:=hf.cH;refine ba (T:=tys) ao (by exact ai mixed ao (by decide +kernel)) f.cH (fun i (_:Unit)=>⟨[(2,.ptr 2 0),(3,.ptr 3 0),(5,.d (i64 i))],[(2,.box (.dd f.cells)),(3,.box (.dd p.cells))],st⟩) (fun i r _=>xe f p=indexOf (iS p) r i) () (Wk.sub ⟨(by first|rfl|(simp only[List.length_map];rfl)|(simp only[ab,Nat.reduceBEq,eq_self];rfl)|simp[PX.get]),(by first|rfl|(simp only[List.length_map];rfl)|(simp only[ab,Nat.reduceBEq,eq_self];rfl)|simp[PX.get]),(by first|rfl|(simp only[List.length_map];rfl)|(simp only[ab,Nat.reduceBEq,eq_self];rfl)|simp[PX.get]),trivial⟩ ⟨(by first|rfl|(simp only[List.length_map];rfl)|(simp only[ab,Nat.reduceBEq,eq_self];rfl)|simp[PX.get]),(by first|rfl|(simp only[List.length_map];rfl)|(simp only[ab,Nat.reduceBEq,eq_self];rfl)|simp[PX.get]),trivial⟩) rfl ?_ ?_
 ·rintro i a r _ jD hi hr he
  rw[indexOf]at he;conv=>whnf
  refine ag (fun _=>?_) (fun h=>absurd (of_decide_eq_false h) (by rw[List.length_map];omega));conv=>whnf
  refine au jD ?_;conv=>whnf
  refine au jD ?_;conv=>whnf
  refine al (ds:=[i64 p.x,i64 a.x.lo,i64 a.x.hi]) (nf p.x a.x.lo a.x.hi) rfl rfl ?_;unfold iS at he
  cases h1:a6 p.x a.x.lo a.x.hi with
  | false=>
   rw[h1,Bool.false_and,if_neg (by simp)]at he;conv=>whnf
   refine af ?_;conv=>whnf
   exact⟨(),he,(Wk.sub ⟨(by first|rfl|(simp only[List.length_map];rfl)|(simp only[ab,Nat.reduceBEq,eq_self];rfl)|simp[PX.get]),(by first|rfl|(simp only[List.length_map];rfl)|(simp only[ab,Nat.reduceBEq,eq_self];rfl)|simp[PX.get]),(by first|rfl|(simp only[List.length_map];rfl)|(simp only[ab,Nat.reduceBEq,eq_self];rfl)|simp[PX.get]),trivial⟩ ⟨(by first|rfl|(simp only[List.length_map];rfl)|(simp only[ab,Nat.reduceBEq,eq_self];rfl)|simp[PX.get]),(by first|rfl|(simp only[List.length_map];rfl)|(simp only[ab,Nat.reduceBEq,eq_self];rfl)|simp[PX.get]),trivial⟩)⟩
  | true=>
   rw[h1,Bool.true_and]at he;conv=>whnf
   refine au jD ?_;conv=>whnf
   refine au jD ?_;conv=>whnf
   refine al (ds:=[i64 p.y,i64 a.y.lo,i64 a.y.hi]) (nf p.y a.y.lo a.y.hi) rfl rfl ?_
   cases h2:a6 p.y a.y.lo a.y.hi with
   | false=>
    rw[h2,if_neg (by simp)]at he;conv=>whnf
    refine af ?_;conv=>whnf
    exact⟨(),he,(Wk.sub ⟨(by first|rfl|(simp only[List.length_map];rfl)|(simp only[ab,Nat.reduceBEq,eq_self];rfl)|simp[PX.get]),(by first|rfl|(simp only[List.length_map];rfl)|(simp only[ab,Nat.reduceBEq,eq_self];rfl)|simp[PX.get]),(by first|rfl|(simp only[List.length_map];rfl)|(simp only[ab,Nat.reduceBEq,eq_self];rfl)|simp[PX.get]),trivial⟩ ⟨(by first|rfl|(simp only[List.length_map];rfl)|(simp only[ab,Nat.reduceBEq,eq_self];rfl)|simp[PX.get]),(by first|rfl|(simp only[List.length_map];rfl)|(simp only[ab,Nat.reduceBEq,eq_self];rfl)|simp[PX.get]),trivial⟩)⟩
   | true=>
    rw[h2,if_pos rfl]at he;rw[he];conv=>whnf
    exact ae
 ·rintro _ he
  rw[indexOf]at he;rw[he];conv=>whnf
  refine ag (fun h=>absurd (of_decide_eq_true h) (by rw[List.length_map];omega)) (fun _=>?_);conv=>whnf
  exact ae
theorem qa(f:Fix)(p:Pt):(pI f p=none/\xe f p = -1) \/ ∃ (k:Nat) (a:jf),pI f p=some a/\xe f p=k/\f.cH[k]?=some a:=by
 obtain⟨h1,h2⟩:=mJ (iS p) f.cH 0;unfold pI xe
 cases h:f.cH.find? (iS p) with
 | none=>exact .inl ⟨rfl,h1 h⟩
 | some a=>
  obtain⟨k,hk,ha⟩:=h2 a h;exact .inr ⟨k,a,rfl,by simpa using hk,ha⟩
structure fb where
 a:Int
 b:Int
 nu:List Int
 taken:List Int
def A5(l:List Int):D:=.vs (l.map fun n=>[D.int .u16 n])
def fb.cells(x:fb):List D:=[.int .u8 x.a,.int .u8 x.b,A5 x.nu,A5 x.taken]
def fb.d(x:fb):D:=.agg x.cells
structure nF(x:fb):Prop where
 a1:0<=x.a
 a2:x.a<=255
 b1:0<=x.b
 b2:x.b<=255
 nu:∀ n∈x.nu,0<=n/\n<=65535
 taken:∀ n∈x.taken,0<=n/\n<=65535
def Dt(s:Span)(n:Int):Int:=s.lo+n.tmod (s.hi-s.lo+1)
theorem p9{s:Span}{n:Int}(h:s.lo<=s.hi)(hn:0<=n):s.lo<=Dt s n/\Dt s n<=s.hi:=by
 unfold Dt;rw[Int.tmod_eq_emod_of_nonneg hn];have:=Int.emod_nonneg n (show s.hi-s.lo+1≠0 by omega);have:=Int.emod_lt_of_pos n (show 0<s.hi-s.lo+1 by omega);omega
theorem QG(s:Span)(n:Int)(h1 : -9000<=s.lo)(h2:s.lo<=s.hi)(h3:s.hi<=9000)(hn:0<=n/\n<=100000):aX Tryz.prog 50 [s.d,i64 n] (i64 (Dt s n)):=by
 refine aB Tryz.func50 rfl (ft:=Uv) 2 fun {σ} Y st=>?_;conv=>whnf
 have:=p9 h2 hn.1;unfold Dt at this;refine af ?_;conv=>whnf
 refine af ?_;conv=>whnf
 refine bc (by simp;omega) ?_;conv=>whnf
 refine af ?_;conv=>whnf
 exact ae
theorem U8(s:Span)(n:Int)(h1 : -9000<=s.lo)(h2:s.lo<=s.hi)(h3:s.hi<=9000)(hn:0<=n/\n<=100000):aX Tryz.prog 13 [s.d,i64 n] (i64 (Dt s n)):=by
 refine aB Tryz.func13 rfl (ft:=TV) 2 fun {σ} Y st=>?_;conv=>whnf
 have:=p9 h2 hn.1;unfold Dt at this;refine af ?_;conv=>whnf
 refine af ?_;conv=>whnf
 refine bc (by simp;omega) ?_;conv=>whnf
 refine af ?_;conv=>whnf
 exact ae
def jK(l:List Int)(n:Nat):Int:=(l[n%l.length]?).getD 0
theorem sO{l:List Int}(h:∀ n∈l,0<=n/\n<=65535)(n:Nat):0<=jK l n/\jK l n<=65535:=by
 unfold jK
 cases hx:l[n%l.length]? with
 | none=>exact⟨by decide,by decide⟩
 | some v=>exact h v (List.mem_of_getElem? hx)
theorem Vl(l:List Int)(n:Nat)(hl:∀ n∈l,0<=n/\n<=65535)(hlen:l.length<=100000000000000)(hn:n<=100000):aX Tryz.prog 90 [A5 l,i64 n] (i64 (jK l n)):=by
 refine aB Tryz.func90 rfl (ft:=UZ) 2 fun {σ} Y st=>?_;conv=>whnf
 by_cases h:l = []
 ·subst h
  conv=>whnf
  exact ae
 ·have BW:0<l.length:=List.length_pos_iff.2 h
  refine ag (fun h1=>absurd h1 (by simp[h])) (fun _=>?_);conv=>whnf
  refine bc (decide_eq_true (by rw[List.length_map];omega)) ?_;conv=>whnf
  rw[List.length_map];have hm:=Nat.mod_lt n BW;have he:((n:Int).tmod (l.length:Int))=((n%l.length:Nat):Int):=by
   rw[Int.tmod_eq_emod_of_nonneg (by omega)];omega
  rw[he];have hg:l[n%l.length]?=some (l[n%l.length]):=List.getElem?_eq_getElem hm;refine au (f:=fun n=>[D.int .u16 n]) hg ?_;have hb:=hl _ (List.mem_of_getElem? hg);have ht:jK l n=l[n%l.length]:=by
   unfold jK;rw[hg];rfl
  rw[<- ht]at hb ⊢;conv=>whnf
  refine aA (jK l n) rfl (wrap_i64 (by omega)) ?_;conv=>whnf
  exact ae
def oq(f:Fix)(k:Nat):Span:=match f.insts[k]? with
 | some x=>x.off
 | none=>⟨0,0⟩
def kT(f:Fix)(x:fb)(k:Nat):Int:=Dt (oq f k) (jK x.nu k)
def oL(f:Fix)(x:fb):Pt:=⟨f.step*(x.a.tmod (2*f.half+1)-f.half),f.step*(x.b.tmod (2*f.half+1)-f.half)⟩
theorem Ve(f:Fix)(x:fb)(k:Nat)(hf:jh f)(hx:nF x)(hk:k<f.insts.length)(hlen:x.nu.length<=100000000000000):aX Tryz.prog 49 [f.d,x.d,i64 k] (i64 (kT f x k)):=by
 refine aB Tryz.func49 rfl (ft:=Uu) 3 fun {σ} Y st=>?_;conv=>whnf
 have hn:=hf.n9;obtain⟨y,hy⟩:∃ y,f.insts[k]?=some y:=⟨f.insts[k],by simp⟩;have hR:=hf.inst y (List.mem_of_getElem? hy);have hm:=od y;obtain⟨r1,r2,r3⟩:=hR;have ho:oq f k=y.off:=by unfold oq;rw[hy]
 have ht:=sO hx.nu k;unfold kT;rw[ho];refine au hy ?_;conv=>whnf
 refine al (ds:=[A5 x.nu,i64 k]) (Vl x.nu k hx.nu hlen (by omega)) rfl rfl ?_;conv=>whnf
 refine al (ds:=[y.off.d,i64 (jK x.nu k)]) (QG y.off (jK x.nu k) (by omega) (by omega) (by omega) (by omega)) rfl rfl ?_;conv=>whnf
 exact ae
theorem jW{n k:Int}(hn:0<=n)(hk:0<k):0<=n.tmod k/\n.tmod k<k:=by
 rw[Int.tmod_eq_emod_of_nonneg hn];exact⟨Int.emod_nonneg n (by omega),Int.emod_lt_of_pos n hk⟩
theorem yL{f:Fix}{x:fb}(hf:jh f)(hx:nF x):oL f x∈nW f:=by
 have h1:=hf.DI;have k1:=jW hx.a1 (show 0<2*f.half+1 by omega);have k2:=jW hx.b1 (show 0<2*f.half+1 by omega);refine(Bd hf).2 ⟨x.a.tmod (2*f.half+1)-f.half,x.b.tmod (2*f.half+1)-f.half,by omega,by omega,?_⟩;unfold oL;rw[Int.mul_comm f.step,Int.mul_comm f.step]
theorem Xi(f:Fix)(x:fb)(hf:jh f)(hx:nF x):aX Tryz.prog 9 [f.d,x.d] (oL f x).d:=by
 refine aB Tryz.func9 rfl (ft:=Yw) 2 fun {σ} Y st=>?_;conv=>whnf
 have h1:=hf.DI;have h2:=hf.DJ;have h3:=hf.step1;have h4:=hf.step2;have g:=u4 hf (yL hf hx);have gx : -4000<=f.step*(x.a.tmod (2*f.half+1)-f.half)/\f.step*(x.a.tmod (2*f.half+1)-f.half)<=4000:=g.x;have gy : -4000<=f.step*(x.b.tmod (2*f.half+1)-f.half)/\f.step*(x.b.tmod (2*f.half+1)-f.half)<=4000:=g.y;have k1:=jW hx.a1 (show 0<2*f.half+1 by omega);have k2:=jW hx.b1 (show 0<2*f.half+1 by omega);have a2:=hx.a2;have b2:=hx.b2;have a1:=hx.a1;have b1:=hx.b1;refine af ?_;conv=>whnf
 refine af ?_;conv=>whnf
 refine aA x.a rfl (wrap_i64 (by omega)) ?_;conv=>whnf
 refine bc (decide_eq_true (by omega)) ?_;conv=>whnf
 refine aA (x.a.tmod (2*f.half+1)-f.half) rfl (wrap_i64 (by omega)) ?_;conv=>whnf
 refine aA (f.step*(x.a.tmod (2*f.half+1)-f.half)) rfl (wrap_i64 (by omega)) ?_;conv=>whnf
 refine aA x.b rfl (wrap_i64 (by omega)) ?_;conv=>whnf
 refine bc (decide_eq_true (by omega)) ?_;conv=>whnf
 refine aA (x.b.tmod (2*f.half+1)-f.half) rfl (wrap_i64 (by omega)) ?_;conv=>whnf
 refine aA (f.step*(x.b.tmod (2*f.half+1)-f.half)) rfl (wrap_i64 (by omega)) ?_;conv=>whnf
 exact ae
def Im(f:Fix)(p:Pt)(b:Int):Int:=match pI f p with
 | some a=>Dt a.depth b
 | none=>b.tmod 1001
def Io(f:Fix)(p:Pt)(c:Int):Int:=match pI f p with
 | some a=>c.tmod 2*a.ground
 | none=>0
def JU(f:Fix)(x:fb)(k:Nat)(b c:Int):Option aC:=
 if cQ f k then some ⟨k,0,Im f (oL f x) b+kT f x k,Io f (oL f x) c⟩
 else if f.aP.marks.length=0 then none
 else if iI f.aP f.day (b.tmod f.aP.marks.length) (oL f x)=0 then some ⟨k,b.tmod f.aP.marks.length,(eG f.aP f.day (b.tmod f.aP.marks.length) (oL f x)+kT f x k+32).tmod 32,0⟩ else none
def nn(f:Fix)(x:fb):List Int->List aC->List aC
 | a::b::c::r,ls=>if ls.length<8 then (match JU f x (a.tmod f.insts.length).toNat b c with
  | none=>nn f x r ls
  | some s=>if u2 f (ls ++ [s]) then nn f x r (ls ++ [s]) else nn f x r ls) else ls
 | _,ls=>ls
def lj(f:Fix)(x:fb):List aC:=nn f x x.taken []
theorem BO(f:Fix)(x:fb){l:List Int}(h:l.length<3)(ls:List aC):nn f x l ls=ls:=by
 match l,h with
 | [],_=>rfl
 | [_],_=>rfl
 | [_,_],_=>rfl
 | _::_::_::_,h=>simp at h;omega
theorem C9(f:Fix)(x:fb){l:List Int}{ls:List aC}(h:¬ ls.length<8):nn f x l ls=ls:=by
 match l with
 | []=>rfl
 | [_]=>rfl
 | [_,_]=>rfl
 | a::b::c::r=>rw[nn,if_neg h]
theorem Oo{l:List Int}{i:Nat}(h:i+2<l.length):∃ a b c,l.drop i=a::b::c::l.drop (i+3)/\l[i]?=some a/\l[i+1]?=some b/\l[i+2]?=some c:=by
 refine⟨l[i],l[i+1],l[i+2],?_,by simp,by simp,by simp⟩;rw[List.drop_eq_getElem_cons (by omega),List.drop_eq_getElem_cons (by omega),List.drop_eq_getElem_cons (by omega)]
set_option maxHeartbeats 4000000 in
theorem Yz(f:Fix)(x:fb)(h0:cI f=(0,0,0))(hx:nF x)(hlen:x.taken.length<=100000000000000)(G7:x.nu.length<=100000000000000):aX Tryz.prog 8 [f.d,x.d] (bn (lj f x)):=by
 refine aB Tryz.func8 rfl (ft:=Yv) 2 fun {σ} Y st=>?_;conv=>whnf
 have hf:jh f:=iN (by rw[h0]);have sq:=hf.many1;have XF:=hf.n9;have KW:=(fj hf.aP).marks;refine ah (ds:=[f.d,x.d]) (Xi f x hf hx) rfl rfl ?_;conv=>whnf
 have han:=u4 hf (yL hf hx);generalize hT:lj f x=T;unfold lj at hT;refine bP (T:=tys) ao (by exact ai mixed ao (by decide +kernel)) (α:=Nat×List aC) (fun z=>⟨[(2,.ptr 2 0),(3,.ptr 3 0),(5,.sl 148 4 0 z.2.length),(6,.ptr 6 0),(7,.d (i64 z.1))],[(2,.box (.dd f.cells)),(3,.box (.dd x.cells)),(6,.box (.dd (oL f x).cells)),(148,.arr 4 (.dd (z.2.map aC.cells)))],st⟩)
  (fun z=>z.1<=x.taken.length/\z.2.length<=8/\T=nn f x (x.taken.drop z.1) z.2) (fun z=>x.taken.length-z.1) (0,[]) ((Wk.born 5 148 4 rfl rfl rfl).trans (Wk.sub ⟨(by first|rfl|(simp only[List.length_map];rfl)|(simp only[ab,Nat.reduceBEq,eq_self];rfl)|simp[PX.get]),(by first|rfl|(simp only[List.length_map];rfl)|(simp only[ab,Nat.reduceBEq,eq_self];rfl)|simp[PX.get]),(by first|rfl|(simp only[List.length_map];rfl)|(simp only[ab,Nat.reduceBEq,eq_self];rfl)|simp[PX.get]),(by first|rfl|(simp only[List.length_map];rfl)|(simp only[ab,Nat.reduceBEq,eq_self];rfl)|simp[PX.get]),(by first|rfl|(simp only[List.length_map];rfl)|(simp only[ab,Nat.reduceBEq,eq_self];rfl)|simp[PX.get]),trivial⟩ ⟨(by first|rfl|(simp only[List.length_map];rfl)|(simp only[ab,Nat.reduceBEq,eq_self];rfl)|simp[PX.get]),(by first|rfl|(simp only[List.length_map];rfl)|(simp only[ab,Nat.reduceBEq,eq_self];rfl)|simp[PX.get]),(by first|rfl|(simp only[List.length_map];rfl)|(simp only[ab,Nat.reduceBEq,eq_self];rfl)|simp[PX.get]),(by first|rfl|(simp only[List.length_map];rfl)|(simp only[ab,Nat.reduceBEq,eq_self];rfl)|simp[PX.get]),trivial⟩)) ⟨by simp,by simp,hT.symm⟩ ?_
 rintro ⟨i,ls⟩ ⟨hi,ME,he⟩;simp only at hi ME he;conv=>whnf
 refine af ?_;conv=>whnf
 by_cases hA:i+2<x.taken.length;case neg=>
  rw[show decide (((i:Nat):Int)+2<(((x.taken.map fun n=>[D.int .u16 n]).length:Nat):Int))=false from decide_eq_false (by rw[List.length_map];omega)];rw[BO f x (by rw[List.length_drop];omega)]at he;rw[he];conv=>whnf
  exact an 1 (ds:=[bn ls]) (aG (cB rfl (by simp)) rfl) ⟨⟨rfl,rfl⟩,rfl⟩
 rw[show decide (((i:Nat):Int)+2<(((x.taken.map fun n=>[D.int .u16 n]).length:Nat):Int))=true from decide_eq_true (by rw[List.length_map];omega)];conv=>whnf
 by_cases hB:ls.length<8;case neg=>
  rw[show decide (((ls.length:Nat):Int)<8)=false from decide_eq_false (by omega)];rw[C9 f x hB]at he;rw[he];conv=>whnf
  exact an 1 (ds:=[bn ls]) (aG (cB rfl (by simp)) rfl) ⟨⟨rfl,rfl⟩,rfl⟩
 rw[show decide (((ls.length:Nat):Int)<8)=true from decide_eq_true (by omega)];obtain⟨a,b,c,hd,ha,hb,hc⟩:=Oo hA;rw[hd,nn,if_pos hB]at he;have QU:=hx.taken a (List.mem_of_getElem? ha);have nY:=hx.taken b (List.mem_of_getElem? hb);have xE:=hx.taken c (List.mem_of_getElem? hc);have KU:i+3<=x.taken.length:=by omega
 conv=>whnf
 refine au (f:=fun n=>[D.int .u16 n]) ha ?_;conv=>whnf
 refine aA a rfl (wrap_i64 (by omega)) ?_;conv=>whnf
 refine bc (decide_eq_true (by rw[List.length_map];omega)) ?_;conv=>whnf
 have hk:=jW QU.1 (show(0:Int)<f.insts.length by omega);rw[List.length_map];generalize hK:a.tmod (f.insts.length:Int)=A at hk he ⊢;obtain⟨k,rfl⟩:∃ k:Nat,A=k:=⟨A.toNat,by omega⟩;rw[Int.toNat_natCast]at he;have Rj:k<f.insts.length:=by omega
 refine ah (ds:=[f.d,x.d,i64 k]) (Ve f x k hf hx Rj G7) rfl rfl ?_;obtain⟨y,hy⟩:∃ y,f.insts[k]?=some y:=⟨f.insts[k],by simp⟩;have hL:cQ f k=y.lead:=by unfold cQ;rw[hy]
 unfold JU at he;rw[hL]at he;conv=>whnf
 refine au hy ?_;conv=>whnf
 have nq : -20<=kT f x k/\kT f x k<=20:=by
  have hR:=hf.inst y (List.mem_of_getElem? hy);have hm:=od y;obtain⟨r1,r2,r3⟩:=hR;have ho:oq f k=y.off:=by unfold oq;rw[hy]
  have:=p9 (s:=y.off) (n:=jK x.nu k) r2 (sO hx.nu k).1;unfold kT;rw[ho];omega
 generalize kT f x k=off at he nq ⊢
 cases hl:y.lead with
 | true=>
  rw[hl,if_pos rfl]at he;simp only at he;conv=>whnf
  refine ah (ds:=[f.d,(oL f x).d]) (L9 f (oL f x) hf) rfl rfl ?_;unfold Im Io at he;conv=>whnf
  refine aA (((i+1:Nat):Int)) (by(try dsimp only);omega) (wrap_i64 (by(try dsimp only);omega)) ?_;conv=>whnf
  refine au (f:=fun n=>[D.int .u16 n]) hb ?_;conv=>whnf
  refine aA b rfl (wrap_i64 (by omega)) ?_;conv=>whnf
  have DK:=jW nY.1 (show(0:Int)<1001 by decide);have YS:=jW xE.1 (show(0:Int)<2 by decide);rcases qa f (oL f x) with⟨e1,e2⟩|⟨q,ar,e1,e2,e3⟩
  ·rw[e1]at he
   rw[e2];simp only at he;conv=>whnf
   refine aA (b.tmod 1001+off) rfl (wrap_i64 (by omega)) ?_;have GV:aC.cells ⟨k,0,b.tmod 1001+off,0⟩ = [i64 k,i64 0,i64 (b.tmod 1001+off),i64 0]:=rfl;generalize (⟨k,0,b.tmod 1001+off,0⟩:aC)=S at he GV;conv=>whnf
   refine aK (by simp[a7.len]) ?_;conv=>whnf
   refine aK rfl ?_;conv=>whnf
   refine bc (by
    show(fE 4 (ls.map aC.cells)&&true)=true;rw[dG (fun x=>⟨rfl,rfl⟩)];rfl) ?_
   conv=>whnf
   refine bc (decide_eq_true (by show(0+(ls.map aC.cells).length)*32<=_;rw[List.length_map];omega)) ?_;conv=>whnf
   refine aK rfl ?_;conv=>whnf
   refine aK (by simp[a7.len]) ?_;conv=>whnf
   refine bc (decide_eq_true (by show(([]++ls.map aC.cells).length+1)*32<=_;rw[List.nil_append,List.length_map];omega)) ?_;conv=>whnf
   refine aw (ds:=[f.d,bn (ls ++ [S])]) (Mb f (ls ++ [S]) h0) rfl 1 (aG rfl (aG (eK rfl (by rw[List.map_append,List.map_singleton,GV];rfl) (by simp[a7.len])) rfl)) ?_
   cases zg:u2 f (ls ++ [S]) with
   | false=>
    rw[zg,if_neg (by simp)]at he;conv=>whnf
    refine aA (((i+3:Nat):Int)) (by(try dsimp only);omega) (wrap_i64 (by(try dsimp only);omega)) ?_;conv=>whnf
    exact⟨(i+3,ls),by simp only;omega,⟨KU,ME,he⟩,(Wk.sub ⟨(by first|rfl|(simp only[List.length_map];rfl)|(simp only[ab,Nat.reduceBEq,eq_self];rfl)|simp[PX.get]),(by first|rfl|(simp only[List.length_map];rfl)|(simp only[ab,Nat.reduceBEq,eq_self];rfl)|simp[PX.get]),(by first|rfl|(simp only[List.length_map];rfl)|(simp only[ab,Nat.reduceBEq,eq_self];rfl)|simp[PX.get]),(by first|rfl|(simp only[List.length_map];rfl)|(simp only[ab,Nat.reduceBEq,eq_self];rfl)|simp[PX.get]),(by first|rfl|(simp only[List.length_map];rfl)|(simp only[ab,Nat.reduceBEq,eq_self];rfl)|simp[PX.get]),trivial⟩ ⟨(by first|rfl|(simp only[List.length_map];rfl)|(simp only[ab,Nat.reduceBEq,eq_self];rfl)|simp[PX.get]),(by first|rfl|(simp only[List.length_map];rfl)|(simp only[ab,Nat.reduceBEq,eq_self];rfl)|simp[PX.get]),(by first|rfl|(simp only[List.length_map];rfl)|(simp only[ab,Nat.reduceBEq,eq_self];rfl)|simp[PX.get]),(by first|rfl|(simp only[List.length_map];rfl)|(simp only[ab,Nat.reduceBEq,eq_self];rfl)|simp[PX.get]),trivial⟩)⟩
   | true=>
    rw[zg,if_pos rfl]at he;conv=>whnf
    refine aK rfl ?_;conv=>whnf
    refine aK (by simp[a7.len]) ?_;conv=>whnf
    refine bc (decide_eq_true (by show((ls.map aC.cells).length+1)*32<=_;rw[List.length_map];omega)) ?_;conv=>whnf
    refine aA (((i+3:Nat):Int)) (by(try dsimp only);omega) (wrap_i64 (by(try dsimp only);omega)) ?_;conv=>whnf
    exact⟨(i+3,ls ++ [S]),by simp only;omega,⟨KU,by simp only[List.length_append,List.length_cons,List.length_nil];omega,he⟩,Wk.sub ⟨rfl,rfl,congrArg (fun z:Nat=>some (V.sl 148 4 0 z)) (by simp[a7.len]),rfl,rfl,trivial⟩ ⟨rfl,rfl,rfl,congrArg (fun z=>some (Obj.arr 4 (.dd z))) (by rw[List.map_append,List.map_singleton,GV];rfl),trivial⟩⟩
  ·rw[e1]at he
   rw[e2];simp only at he;obtain⟨w1,w2,w3,w4,d1,d2,d3,g1,g2⟩:=hf.II ar (List.mem_of_getElem? e3);have hdp:=p9 (s:=ar.depth) (n:=b) d2 nY.1;have hmul:0<=c.tmod 2*ar.ground/\c.tmod 2*ar.ground<=4:=⟨Int.mul_nonneg YS.1 (by omega),by
    have:=Int.mul_le_mul (show c.tmod 2<=1 by omega) g2 (by omega) (by decide);omega⟩
   conv=>whnf
   refine au e3 ?_;conv=>whnf
   refine aA ((i+1:Nat):Int) (by omega) (wrap_i64 (by omega)) ?_;conv=>whnf
   refine au (f:=fun n=>[D.int .u16 n]) hb ?_;conv=>whnf
   refine aA b rfl (wrap_i64 (by omega)) ?_;conv=>whnf
   refine al (ds:=[ar.depth.d,i64 b]) (QG ar.depth b (by omega) (by omega) (by omega) (by omega)) rfl rfl ?_;conv=>whnf
   refine aA ((i+2:Nat):Int) (by omega) (wrap_i64 (by omega)) ?_;conv=>whnf
   refine au (f:=fun n=>[D.int .u16 n]) hc ?_;conv=>whnf
   refine aA c rfl (wrap_i64 (by omega)) ?_;conv=>whnf
   refine au e3 ?_;conv=>whnf
   refine aA (c.tmod 2*ar.ground) rfl (wrap_i64 (by omega)) ?_;conv=>whnf
   refine aA (Dt ar.depth b+off) rfl (wrap_i64 (by omega)) ?_;have GV:aC.cells ⟨k,0,Dt ar.depth b+off,c.tmod 2*ar.ground⟩ = [i64 k,i64 0,i64 (Dt ar.depth b+off),i64 (c.tmod 2*ar.ground)]:=rfl;generalize (⟨k,0,Dt ar.depth b+off,c.tmod 2*ar.ground⟩:aC)=S at he GV;conv=>whnf
   refine aK (by simp[a7.len]) ?_;conv=>whnf
   refine aK rfl ?_;conv=>whnf
   refine bc (by
    show(fE 4 (ls.map aC.cells)&&true)=true;rw[dG (fun x=>⟨rfl,rfl⟩)];rfl) ?_
   conv=>whnf
   refine bc (decide_eq_true (by show(0+(ls.map aC.cells).length)*32<=_;rw[List.length_map];omega)) ?_;conv=>whnf
   refine aK rfl ?_;conv=>whnf
   refine aK (by simp[a7.len]) ?_;conv=>whnf
   refine bc (decide_eq_true (by show(([]++ls.map aC.cells).length+1)*32<=_;rw[List.nil_append,List.length_map];omega)) ?_;conv=>whnf
   refine aw (ds:=[f.d,bn (ls ++ [S])]) (Mb f (ls ++ [S]) h0) rfl 1 (aG rfl (aG (eK rfl (by rw[List.map_append,List.map_singleton,GV];rfl) (by simp[a7.len])) rfl)) ?_
   cases zg:u2 f (ls ++ [S]) with
   | false=>
    rw[zg,if_neg (by simp)]at he;conv=>whnf
    refine aA (((i+3:Nat):Int)) (by(try dsimp only);omega) (wrap_i64 (by(try dsimp only);omega)) ?_;conv=>whnf
    exact⟨(i+3,ls),by simp only;omega,⟨KU,ME,he⟩,(Wk.sub ⟨(by first|rfl|(simp only[List.length_map];rfl)|(simp only[ab,Nat.reduceBEq,eq_self];rfl)|simp[PX.get]),(by first|rfl|(simp only[List.length_map];rfl)|(simp only[ab,Nat.reduceBEq,eq_self];rfl)|simp[PX.get]),(by first|rfl|(simp only[List.length_map];rfl)|(simp only[ab,Nat.reduceBEq,eq_self];rfl)|simp[PX.get]),(by first|rfl|(simp only[List.length_map];rfl)|(simp only[ab,Nat.reduceBEq,eq_self];rfl)|simp[PX.get]),(by first|rfl|(simp only[List.length_map];rfl)|(simp only[ab,Nat.reduceBEq,eq_self];rfl)|simp[PX.get]),trivial⟩ ⟨(by first|rfl|(simp only[List.length_map];rfl)|(simp only[ab,Nat.reduceBEq,eq_self];rfl)|simp[PX.get]),(by first|rfl|(simp only[List.length_map];rfl)|(simp only[ab,Nat.reduceBEq,eq_self];rfl)|simp[PX.get]),(by first|rfl|(simp only[List.length_map];rfl)|(simp only[ab,Nat.reduceBEq,eq_self];rfl)|simp[PX.get]),(by first|rfl|(simp only[List.length_map];rfl)|(simp only[ab,Nat.reduceBEq,eq_self];rfl)|simp[PX.get]),trivial⟩)⟩
   | true=>
    rw[zg,if_pos rfl]at he;conv=>whnf
    refine aK rfl ?_;conv=>whnf
    refine aK (by simp[a7.len]) ?_;conv=>whnf
    refine bc (decide_eq_true (by show((ls.map aC.cells).length+1)*32<=_;rw[List.length_map];omega)) ?_;conv=>whnf
    refine aA (((i+3:Nat):Int)) (by(try dsimp only);omega) (wrap_i64 (by(try dsimp only);omega)) ?_;conv=>whnf
    exact⟨(i+3,ls ++ [S]),by simp only;omega,⟨KU,by simp only[List.length_append,List.length_cons,List.length_nil];omega,he⟩,Wk.sub ⟨rfl,rfl,congrArg (fun z:Nat=>some (V.sl 148 4 0 z)) (by simp[a7.len]),rfl,rfl,trivial⟩ ⟨rfl,rfl,rfl,congrArg (fun z=>some (Obj.arr 4 (.dd z))) (by rw[List.map_append,List.map_singleton,GV];rfl),trivial⟩⟩
 | false=>
  rw[hl,if_neg (by simp)]at he;conv=>whnf
  by_cases SB:f.aP.marks.length=0
  ·refine ag (fun _=>?_) (fun h=>absurd (of_decide_eq_false h) (by rw[List.length_map];omega))
   rw[if_pos SB]at he;simp only at he;conv=>whnf
   refine aA (((i+3:Nat):Int)) (by(try dsimp only);omega) (wrap_i64 (by(try dsimp only);omega)) ?_;conv=>whnf
   exact⟨(i+3,ls),by simp only;omega,⟨KU,ME,he⟩,(Wk.sub ⟨(by first|rfl|(simp only[List.length_map];rfl)|(simp only[ab,Nat.reduceBEq,eq_self];rfl)|simp[PX.get]),(by first|rfl|(simp only[List.length_map];rfl)|(simp only[ab,Nat.reduceBEq,eq_self];rfl)|simp[PX.get]),(by first|rfl|(simp only[List.length_map];rfl)|(simp only[ab,Nat.reduceBEq,eq_self];rfl)|simp[PX.get]),(by first|rfl|(simp only[List.length_map];rfl)|(simp only[ab,Nat.reduceBEq,eq_self];rfl)|simp[PX.get]),(by first|rfl|(simp only[List.length_map];rfl)|(simp only[ab,Nat.reduceBEq,eq_self];rfl)|simp[PX.get]),trivial⟩ ⟨(by first|rfl|(simp only[List.length_map];rfl)|(simp only[ab,Nat.reduceBEq,eq_self];rfl)|simp[PX.get]),(by first|rfl|(simp only[List.length_map];rfl)|(simp only[ab,Nat.reduceBEq,eq_self];rfl)|simp[PX.get]),(by first|rfl|(simp only[List.length_map];rfl)|(simp only[ab,Nat.reduceBEq,eq_self];rfl)|simp[PX.get]),(by first|rfl|(simp only[List.length_map];rfl)|(simp only[ab,Nat.reduceBEq,eq_self];rfl)|simp[PX.get]),trivial⟩)⟩
  refine ag (fun h=>absurd (of_decide_eq_true h) (by rw[List.length_map];omega)) (fun _=>?_);rw[if_neg SB]at he;conv=>whnf
  refine aA ((i+1:Nat):Int) (by omega) (wrap_i64 (by omega)) ?_;conv=>whnf
  refine au (f:=fun n=>[D.int .u16 n]) hb ?_;conv=>whnf
  refine aA b rfl (wrap_i64 (by omega)) ?_;conv=>whnf
  refine bc (decide_eq_true (by rw[List.length_map];omega)) ?_;conv=>whnf
  rw[List.length_map];generalize b.tmod (f.aP.marks.length:Int)=mk at he ⊢;refine ah (ds:=[f.aP.d,i64 f.day,i64 mk,(oL f x).d]) (S7 f.aP f.day mk (oL f x)) rfl rfl ?_;by_cases K5:iI f.aP f.day mk (oL f x)=0;case neg=>
   rw[if_neg K5]at he;simp only at he;conv=>whnf
   refine ag (fun _=>?_) (fun h=>absurd h (by simp[K5]));conv=>whnf
   refine aA (((i+3:Nat):Int)) (by(try dsimp only);omega) (wrap_i64 (by(try dsimp only);omega)) ?_;conv=>whnf
   exact⟨(i+3,ls),by simp only;omega,⟨KU,ME,he⟩,(Wk.sub ⟨(by first|rfl|(simp only[List.length_map];rfl)|(simp only[ab,Nat.reduceBEq,eq_self];rfl)|simp[PX.get]),(by first|rfl|(simp only[List.length_map];rfl)|(simp only[ab,Nat.reduceBEq,eq_self];rfl)|simp[PX.get]),(by first|rfl|(simp only[List.length_map];rfl)|(simp only[ab,Nat.reduceBEq,eq_self];rfl)|simp[PX.get]),(by first|rfl|(simp only[List.length_map];rfl)|(simp only[ab,Nat.reduceBEq,eq_self];rfl)|simp[PX.get]),(by first|rfl|(simp only[List.length_map];rfl)|(simp only[ab,Nat.reduceBEq,eq_self];rfl)|simp[PX.get]),trivial⟩ ⟨(by first|rfl|(simp only[List.length_map];rfl)|(simp only[ab,Nat.reduceBEq,eq_self];rfl)|simp[PX.get]),(by first|rfl|(simp only[List.length_map];rfl)|(simp only[ab,Nat.reduceBEq,eq_self];rfl)|simp[PX.get]),(by first|rfl|(simp only[List.length_map];rfl)|(simp only[ab,Nat.reduceBEq,eq_self];rfl)|simp[PX.get]),(by first|rfl|(simp only[List.length_map];rfl)|(simp only[ab,Nat.reduceBEq,eq_self];rfl)|simp[PX.get]),trivial⟩)⟩
  have XN:=zP f mk (oL f x);have ZG:kN f mk (oL f x)=eG f.aP f.day mk (oL f x):=by unfold kN;rw[if_pos K5]
  rw[ZG]at XN;rw[if_pos K5]at he;simp only at he;conv=>whnf
  refine ag (fun h=>absurd h (by simp[K5])) (fun _=>?_);generalize eG f.aP f.day mk (oL f x)=v at he XN ⊢;conv=>whnf
  refine aA (v+off) rfl (wrap_i64 (by omega)) ?_;conv=>whnf
  refine aA (v+off+32) rfl (wrap_i64 (by omega)) ?_;have GV:aC.cells ⟨k,mk,(v+off+32).tmod 32,0⟩ = [i64 k,i64 mk,i64 ((v+off+32).tmod 32),i64 0]:=rfl;generalize (⟨k,mk,(v+off+32).tmod 32,0⟩:aC)=S at he GV;conv=>whnf
  refine aK (by simp[a7.len]) ?_;conv=>whnf
  refine aK rfl ?_;conv=>whnf
  refine bc (by
   show(fE 4 (ls.map aC.cells)&&true)=true;rw[dG (fun x=>⟨rfl,rfl⟩)];rfl) ?_
  conv=>whnf
  refine bc (decide_eq_true (by show(0+(ls.map aC.cells).length)*32<=_;rw[List.length_map];omega)) ?_;conv=>whnf
  refine aK rfl ?_;conv=>whnf
  refine aK (by simp[a7.len]) ?_;conv=>whnf
  refine bc (decide_eq_true (by show(([]++ls.map aC.cells).length+1)*32<=_;rw[List.nil_append,List.length_map];omega)) ?_;conv=>whnf
  refine aw (ds:=[f.d,bn (ls ++ [S])]) (Mb f (ls ++ [S]) h0) rfl 1 (aG rfl (aG (eK rfl (by rw[List.map_append,List.map_singleton,GV];rfl) (by simp[a7.len])) rfl)) ?_
  cases zg:u2 f (ls ++ [S]) with
  | false=>
   rw[zg,if_neg (by simp)]at he;conv=>whnf
   refine aA (((i+3:Nat):Int)) (by(try dsimp only);omega) (wrap_i64 (by(try dsimp only);omega)) ?_;conv=>whnf
   exact⟨(i+3,ls),by simp only;omega,⟨KU,ME,he⟩,(Wk.sub ⟨(by first|rfl|(simp only[List.length_map];rfl)|(simp only[ab,Nat.reduceBEq,eq_self];rfl)|simp[PX.get]),(by first|rfl|(simp only[List.length_map];rfl)|(simp only[ab,Nat.reduceBEq,eq_self];rfl)|simp[PX.get]),(by first|rfl|(simp only[List.length_map];rfl)|(simp only[ab,Nat.reduceBEq,eq_self];rfl)|simp[PX.get]),(by first|rfl|(simp only[List.length_map];rfl)|(simp only[ab,Nat.reduceBEq,eq_self];rfl)|simp[PX.get]),(by first|rfl|(simp only[List.length_map];rfl)|(simp only[ab,Nat.reduceBEq,eq_self];rfl)|simp[PX.get]),trivial⟩ ⟨(by first|rfl|(simp only[List.length_map];rfl)|(simp only[ab,Nat.reduceBEq,eq_self];rfl)|simp[PX.get]),(by first|rfl|(simp only[List.length_map];rfl)|(simp only[ab,Nat.reduceBEq,eq_self];rfl)|simp[PX.get]),(by first|rfl|(simp only[List.length_map];rfl)|(simp only[ab,Nat.reduceBEq,eq_self];rfl)|simp[PX.get]),(by first|rfl|(simp only[List.length_map];rfl)|(simp only[ab,Nat.reduceBEq,eq_self];rfl)|simp[PX.get]),trivial⟩)⟩
  | true=>
   rw[zg,if_pos rfl]at he;conv=>whnf
   refine aK rfl ?_;conv=>whnf
   refine aK (by simp[a7.len]) ?_;conv=>whnf
   refine bc (decide_eq_true (by show((ls.map aC.cells).length+1)*32<=_;rw[List.length_map];omega)) ?_;conv=>whnf
   refine aA (((i+3:Nat):Int)) (by(try dsimp only);omega) (wrap_i64 (by(try dsimp only);omega)) ?_;conv=>whnf
   exact⟨(i+3,ls ++ [S]),by simp only;omega,⟨KU,by simp only[List.length_append,List.length_cons,List.length_nil];omega,he⟩,Wk.sub ⟨rfl,rfl,congrArg (fun z:Nat=>some (V.sl 148 4 0 z)) (by simp[a7.len]),rfl,rfl,trivial⟩ ⟨rfl,rfl,rfl,congrArg (fun z=>some (Obj.arr 4 (.dd z))) (by rw[List.map_append,List.map_singleton,GV];rfl),trivial⟩⟩
end Go.PX
