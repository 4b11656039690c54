import Derived.Test.YtmbefpmbnhdbpaaGreatDoorPxO
import Derived.Test.YtmbefpmbnhdbpaaGreatDoorPxN
import Derived.Test.YtmbefpmbnhdbpaaGreatDoorPxI
set_option linter.all false
set_option maxRecDepth 10000
namespace Go.PX
open Go.Proofs
def Sm:FT:=((Vu.less 6).less 7).less 21
set_option maxHeartbeats 4000000 in
theorem PS(lit:List Bool)(l:List cu)(IV:lit ≠ [])(hl:lit.length<=200)(hp:1<=l.length/\l.length<=3):bq Tryz.prog 144 [dj lit,dQ l] (i64 (fD lit l)):=by
 refine aY Tryz.func144 rfl (ft:=Sm) 2 fun {σ} Y st=>?_;conv=>whnf
 obtain⟨b0,r0,rfl⟩:∃ b r,lit=b::r:=by
  cases lit with
  | nil=>exact absurd rfl IV
  | cons b r=>exact⟨b,r,rfl⟩
 refine bB (T:=tys) av (by exact aj mixed av (by decide +kernel)) l (fun i (m:Ms)=>⟨[(0,.d (dj (b0::r0))),(1,.d (dQ l)),(5,.mp 11),(13,.d (i64 l.length)),(14,.d (i64 i))],[(11,.map (bO ab.d m))],st⟩)
  (fun i r m=>UI m i /\ ∀ y,(getM m y).isSome=true↔y∈qP b0 i) [] aw ⟨⟨by simp,fun y v h=>by cases h⟩,fun y=>by simp[qP,getM]⟩ ?_ ?_
 ·intro i p r m hx hi hr ⟨hc,hm⟩
  have gN:∀ y,y∈qP b0 (i+1)↔y=⟨b0,i,1,true⟩\/y∈qP b0 i:=by
   intro y;unfold qP;rw[List.range_succ,List.map_append,List.mem_append];simp[or_comm]
  conv=>whnf
  refine ag (fun _=>?_) (fun h=>absurd hi (by simpa using h));conv=>whnf
  cases b0 with
  | true=>
   have MK:getM m ⟨true,i,1,true⟩=none:=by
    cases hg:getM m ⟨true,i,1,true⟩ with
    | none=>rfl
    | some v=>
     exfalso;have:=(hm ⟨true,i,1,true⟩).1 (by rw[hg];rfl);obtain⟨j,hj,he⟩:=List.mem_map.1 this;have hj:=List.mem_range.1 hj;have:(j:Int)=i:=congrArg ab.k he;omega
   have g1:=gy (kd:=ab.d) cn MK 0;have g2:findD (ab.d ⟨true,i,1,true⟩) (bO ab.d m ++ [(ab.d ⟨true,i,1,true⟩,i64 0)]) 0=some (some ((bO ab.d m).length,i64 0)):=by
    rw[gx cn MK 0];simp
   have hB:(decide ((0:Int)<=((bO ab.d m).length:Int))&&decide (((bO ab.d m).length:Int)<((bO ab.d m ++ [(ab.d ⟨true,i,1,true⟩,i64 0)]).length:Int)))=true:=by
    simp;omega
   have fo:cL (bO ab.d m ++ [(ab.d ⟨true,i,1,true⟩,i64 0)]) (bO ab.d m).length (i64 (0+1))=bO ab.d (fy m ⟨true,i,1,true⟩):=by
    rw[gC];have:=iI (kd:=ab.d) 1 MK;rw[show i64 (0+1)=D.int .i64 1 from rfl,this,fy,MK];rfl
   conv=>whnf
   refine dB mixed av [[],[],[1],[2],[0,3],[4],[0,1,2,3],[6],[0,1,2,3,4,5,6,7]] (fun ls=>(rz ls [some (20,.mp 11),some (21,.d (i64 i)),some (22,.d (pL true i)),some (23,.d (ab.d ⟨true,i,1,true⟩)),some (24,.d (i64 0)),some (25,.d (i64 (0+1))),some (26,.d (.tup [i64 0,i64 (bO ab.d m).length])),some (27,.d (i64 (bO ab.d m).length)),none] ++ [(0,.d (dj (true::r0))),(1,.d (dQ l)),(5,.mp 11),(13,.d (i64 l.length)),(14,.d (i64 i)),(6,.d (i64 i))],[(11,.map (u3 ls 6 8 (bO ab.d m) (bO ab.d m ++ [(ab.d ⟨true,i,1,true⟩,i64 0)]) (cL (bO ab.d m ++ [(ab.d ⟨true,i,1,true⟩,i64 0)]) (bO ab.d m).length (i64 (0+1)))))])) (by decide +kernel) ?_ ?_ ?_
   ·exact Wk.sub ⟨rfl,rfl,rfl,rfl,rfl,rfl,trivial⟩ ⟨rfl,trivial⟩
   ·conv=>whnf
    repeat' (first
     | trivial
     | (refine And.intro ?_ ?_<;>conv=>whnf)
     | (refine fk.mk _ (g1) ?_;conv=>whnf)
     | (refine fk.mk _ (g2) ?_;conv=>whnf)
     | (refine ae ?_;conv=>whnf)
     | (refine aM hB ?_;conv=>whnf)
     | (refine Wk.sub ?_ ?_<;>(repeat' (first|exact trivial|refine⟨rfl,?_⟩))))
   ·conv=>whnf
    refine ae ?_;conv=>whnf
    refine⟨fy m ⟨true,i,1,true⟩,⟨hc.inc _,fun u=>by rw[zp,gN,hm]⟩,Wk.sub ⟨rfl,rfl,rfl,rfl,rfl,trivial⟩ ⟨?_,trivial⟩⟩;exact congrArg (fun z=>some (Obj.map z)) fo
  | false=>
   have MK:getM m ⟨false,i,1,true⟩=none:=by
    cases hg:getM m ⟨false,i,1,true⟩ with
    | none=>rfl
    | some v=>
     exfalso;have:=(hm ⟨false,i,1,true⟩).1 (by rw[hg];rfl);obtain⟨j,hj,he⟩:=List.mem_map.1 this;have hj:=List.mem_range.1 hj;have:(j:Int)=i:=congrArg ab.k he;omega
   have g1:=gy (kd:=ab.d) cn MK 0;have g2:findD (ab.d ⟨false,i,1,true⟩) (bO ab.d m ++ [(ab.d ⟨false,i,1,true⟩,i64 0)]) 0=some (some ((bO ab.d m).length,i64 0)):=by
    rw[gx cn MK 0];simp
   have hB:(decide ((0:Int)<=((bO ab.d m).length:Int))&&decide (((bO ab.d m).length:Int)<((bO ab.d m ++ [(ab.d ⟨false,i,1,true⟩,i64 0)]).length:Int)))=true:=by
    simp;omega
   have fo:cL (bO ab.d m ++ [(ab.d ⟨false,i,1,true⟩,i64 0)]) (bO ab.d m).length (i64 (0+1))=bO ab.d (fy m ⟨false,i,1,true⟩):=by
    rw[gC];have:=iI (kd:=ab.d) 1 MK;rw[show i64 (0+1)=D.int .i64 1 from rfl,this,fy,MK];rfl
   conv=>whnf
   refine dB mixed av [[],[],[1],[2],[0,3],[4],[0,1,2,3],[6],[0,1,2,3,4,5,6,7]] (fun ls=>(rz ls [some (28,.mp 11),some (29,.d (i64 i)),some (30,.d (pL false i)),some (31,.d (ab.d ⟨false,i,1,true⟩)),some (32,.d (i64 0)),some (33,.d (i64 (0+1))),some (34,.d (.tup [i64 0,i64 (bO ab.d m).length])),some (35,.d (i64 (bO ab.d m).length)),none] ++ [(0,.d (dj (false::r0))),(1,.d (dQ l)),(5,.mp 11),(13,.d (i64 l.length)),(14,.d (i64 i)),(6,.d (i64 i))],[(11,.map (u3 ls 6 8 (bO ab.d m) (bO ab.d m ++ [(ab.d ⟨false,i,1,true⟩,i64 0)]) (cL (bO ab.d m ++ [(ab.d ⟨false,i,1,true⟩,i64 0)]) (bO ab.d m).length (i64 (0+1)))))])) (by decide +kernel) ?_ ?_ ?_
   ·exact Wk.sub ⟨rfl,rfl,rfl,rfl,rfl,rfl,trivial⟩ ⟨rfl,trivial⟩
   ·conv=>whnf
    repeat' (first
     | trivial
     | (refine And.intro ?_ ?_<;>conv=>whnf)
     | (refine fk.mk _ (g1) ?_;conv=>whnf)
     | (refine fk.mk _ (g2) ?_;conv=>whnf)
     | (refine ae ?_;conv=>whnf)
     | (refine aM hB ?_;conv=>whnf)
     | (refine Wk.sub ?_ ?_<;>(repeat' (first|exact trivial|refine⟨rfl,?_⟩))))
   ·conv=>whnf
    refine ae ?_;conv=>whnf
    refine⟨fy m ⟨false,i,1,true⟩,⟨hc.inc _,fun u=>by rw[zp,gN,hm]⟩,Wk.sub ⟨rfl,rfl,rfl,rfl,rfl,trivial⟩ ⟨?_,trivial⟩⟩;exact congrArg (fun z=>some (Obj.map z)) fo
 intro m ⟨hc,hm⟩;have IT:fD (b0::r0) l=mG l r0 b0 (qP b0 l.length) 1:=rfl;rw[IT];have SY:=PB (l:=l) (b:=b0);generalize qP b0 l.length=A at hm IT SY;conv=>whnf
 refine ag (fun h=>absurd h (by simp)) (fun _=>?_);conv=>whnf
 refine cD (T:=tys) av (by exact aj mixed av (by decide +kernel)) (α:=Nat×(List ab×Ms))
  (fun p=>⟨[(0,.d (dj (b0::r0))),(1,.d (dQ l)),(5,.mp 900001),(7,.d (i64 p.1))],[(900001,.map (bO ab.d p.2.2))],st⟩)
  (fun p=>1<=p.1/\p.1<=r0.length+1/\p.2.2.length<=3/\ym p.2.2 p.2.1/\(∀ x∈p.2.1,YB l p.1 x) /\ ∃ pb,(b0::r0)[p.1-1]?=some pb/\mG l r0 b0 A 1=mG l (r0.drop (p.1-1)) pb p.2.1 p.1) (fun p=>r0.length+1-p.1) (1,(A,m)) ?wk ?pr ?_
 case wk=>exact(Wk.move 11 900001 rfl rfl).trans aw
 case pr=>exact⟨Nat.le_refl _,by simp only;omega,by have:=hc.len;simp only;omega,hm,by simpa using SY,b0,rfl,rfl⟩
 clear hc hm SY IT;rintro ⟨s,B,m⟩ ⟨qc,mM,s8,hm,ja,pb,hpb,IT⟩;simp only at qc mM s8 hm ja hpb IT;rw[IT];conv=>whnf
 refine ag (fun h1=>?_) (fun h1=>?_);case refine_2=>
  have h1:¬ s<r0.length+1:=by have:=of_decide_eq_false h1;simp at this;omega
  rw[List.drop_eq_nil_of_le (by omega),mG];conv=>whnf
  exact ai
 have h1:s<r0.length+1:=by have:=of_decide_eq_true h1;simp at this;omega
 have ace:(s:Int)<=199:=by
  have:(b0::r0).length=r0.length+1:=rfl;omega
 obtain⟨cb,la⟩:∃ cb,(b0::r0)[s]?=some cb:=⟨_,List.getElem?_eq_getElem (by simpa using h1)⟩;have Lf:r0.drop (s-1)=cb::r0.drop s:=by
  obtain⟨s',rfl⟩:∃ s',s=s'+1:=⟨s-1,by omega⟩;rw[List.getElem?_cons_succ]at la;have dh:=(List.getElem?_eq_some_iff.1 la).1;rw[Nat.add_sub_cancel,List.drop_eq_getElem_cons dh];rw[List.getElem?_eq_getElem dh]at la;rw[Option.some.inj la]
 rw[Lf,mG];have hcg:(List.map (fun b=>[D.bool b]) (b0::r0))[((s:Nat):Int).toNat]?=some [.bool cb]:=by
  rw[Int.toNat_natCast,List.getElem?_map,la];rfl
 have hpg:(List.map (fun b=>[D.bool b]) (b0::r0))[((s:Int)-1).toNat]?=some [.bool pb]:=by
  rw[show((s:Int)-1).toNat=s-1 by omega,List.getElem?_map,hpb];rfl
 have aca:m.length<=3:=s8;conv=>whnf
 refine cD (T:=tys) av (by exact aj mixed av (by decide +kernel)) (α:=List Nat×(Ms×(Nat×Option Nat)))
  (fun p=>⟨[(0,.d (dj (b0::r0))),(1,.d (dQ l)),(5,.mp 900001),(7,.d (i64 s)),(8,.mp 43),(45,.it 45)],[(900001,.map (bO ab.d m)),(43,.map (bO ab.d p.2.1)),(45,.mit (.mp 900001) m.length p.1 p.2.2.2)],st⟩)
  (fun p=>UI p.2.1 p.2.2.1/\p.2.2.1+p.1.length<=m.length/\Oq l (cb !=pb) m p.1 p.2.1) (fun p=>p.1.length) (List.range m.length,([],(0,none))) ?wk2 ?pr2 ?_
 case wk2=>
  refine Wk.sub ⟨rfl,rfl,rfl,rfl,rfl,rfl,trivial⟩ ⟨rfl,rfl,?_,trivial⟩;show some (Obj.mit (V.mp 900001) (bO ab.d m).length (List.range (bO ab.d m).length) none)=_;rw[eT]
 case pr2=>
  refine⟨⟨Nat.le_refl _,fun y v h=>by cases h⟩,by simp,fun y=>?_⟩;constructor
  ·intro h;cases h
  ·rintro ⟨j,x,v,h1,h2,_⟩
   have:=(List.getElem?_eq_some_iff.1 h2).1;exact absurd (List.mem_range.2 this) h1
 rintro ⟨todo,next,c,cur⟩ ⟨pW,SL,cI⟩;simp only at pW SL cI;conv=>whnf
 refine⟨by simp[eT],fun h0=>?_,fun i kv hi wU=>?_⟩
 ·have h0:todo = []:=h0
  subst h0;have fo:=Oq.fin hm cI;have pq:next.length<=3:=by have:=pW.len;simp only[List.length_nil]at SL;omega
  conv=>whnf
  refine ag (fun h2=>?_) (fun h2=>?_)
  ·have h2:next.length=0:=by
    have:=of_decide_eq_true h2;rw[eT]at this;exact Int.ofNat.inj this
   rw[if_pos (fo.empty.1 h2)];conv=>whnf
   exact ai
  ·have h2:¬ next.length=0:=by
    have:=of_decide_eq_false h2;rw[eT]at this;exact fun e=>this (congrArg Int.ofNat e)
   rw[if_neg (fun h=>h2 (fo.empty.2 h))];conv=>whnf
   refine ao (((s+1:Nat):Int)) (by(try dsimp only);omega) (wrap_i64 (by(try dsimp only);omega)) ?_;conv=>whnf
   refine⟨(s+1,(B.filterMap (gq l (cb !=pb)),next)),by simp only;omega,⟨by simp only;omega,by simp only;omega,pq,fo,?_,cb,?_,?_⟩,(Wk.move 43 900001 rfl rfl).trans aw⟩
   ·intro y hy
    obtain⟨x,hx,Ln⟩:=List.mem_filterMap.1 hy;exact Qx hp.1 (by omega) (ja x hx) Ln
   ·exact la
   ·rfl
 ·obtain⟨x,v,hx,rfl⟩:=PH wU
  have hi:i∈todo:=hi;have dh:=GP hi;have hxB:=hm.get hx;obtain⟨⟨A0,fx⟩,hlo⟩:=ja x hxB;conv=>whnf
  obtain⟨fl,k,long,first⟩:=x;simp only at A0 fx hlo;obtain⟨p,xH⟩:∃ p,l[k.toNat]?=some p:=⟨_,List.getElem?_eq_getElem (by omega)⟩;have Ut:long<=200:=by omega
  cases fl with
  | true=>
   have BM:∀ f n,lB l ⟨true,k,n,f⟩=p.ia:=fun f n=>by simp[lB,xH]
   have Ll:∀ f n,lB l ⟨false,k,n,f⟩=p.mA:=fun f n=>by simp[lB,xH]
   refine⟨by simp[eT],(.agg [.ifc 321 (i64 k),i64 long,.bool first],i64 v),wU,?_⟩;conv=>whnf
   refine ae ?_;conv=>whnf
   refine aU _ ⟨by omega,hcg⟩ ?_;conv=>whnf
   refine ae ?_;conv=>whnf
   refine aU _ ⟨by omega,hpg⟩ ?_;conv=>whnf
   cases O6:(cb !=pb) with
   | false=>
    rw[show(!(cb ==pb))=false from O6];rw[O6]at cI;have hS:gq l false ⟨true,k,long,first⟩=if long+1<=p.ia.hi then some ⟨true,k,long+1,first⟩ else none:=by simp[gq,BM]
    conv=>whnf
    refine mr 269 (by decide +kernel) ?_;refine ax (I6 l k p A0 xH) rfl rfl ?_;conv=>whnf
    refine ag (fun h3=>?_) (fun h3=>?_)
    ·have h3:(long+1)<=p.ia.hi:=by simpa using h3
     rw[if_pos h3]at hS;conv=>whnf
     have qI:=cI.some hx hS;have qE:=pW.inc ⟨true,k,(long+1),first⟩
     cases hg:getM next ⟨true,k,(long+1),first⟩ with
     | none=>
      have g1:=gy (kd:=ab.d) cn hg 0;have g2:findD (ab.d ⟨true,k,(long+1),first⟩) (bO ab.d next ++ [(ab.d ⟨true,k,(long+1),first⟩,i64 0)]) 0=some (some ((bO ab.d next).length,i64 0)):=by
       rw[gx cn hg 0];simp
      have hB:(decide ((0:Int)<=((bO ab.d next).length:Int))&&decide (((bO ab.d next).length:Int)<((bO ab.d next ++ [(ab.d ⟨true,k,(long+1),first⟩,i64 0)]).length:Int)))=true:=by
       simp;omega
      have fo:cL (bO ab.d next ++ [(ab.d ⟨true,k,(long+1),first⟩,i64 0)]) (bO ab.d next).length (i64 (0+1))=bO ab.d (fy next ⟨true,k,(long+1),first⟩):=by
       rw[gC];have:=iI (kd:=ab.d) 1 hg;rw[show i64 (0+1)=D.int .i64 1 from rfl,this,fy,hg];rfl
      refine dB mixed av [[],[],[0,1],[2],[0,1],[4],[0,1,2,3,4,5]] (fun ls=>(rz ls [some (95,.mp 43),some (96,.d (ab.d ⟨true,k,(long+1),first⟩)),some (97,.d (i64 0)),some (98,.d (i64 (0+1))),some (99,.d (.tup [i64 0,i64 (bO ab.d next).length])),some (100,.d (i64 (bO ab.d next).length)),none] ++ [(0,.d (dj (b0::r0))),(1,.d (dQ l)),(5,.mp 900001),(7,.d (i64 s)),(8,.mp 43),(45,.it 45),(10,.ptr 10 0)],[(900001,.map (bO ab.d m)),(43,.map (u3 ls 4 6 (bO ab.d next) (bO ab.d next ++ [(ab.d ⟨true,k,(long+1),first⟩,i64 0)]) (cL (bO ab.d next ++ [(ab.d ⟨true,k,(long+1),first⟩,i64 0)]) (bO ab.d next).length (i64 (0+1))))),(45,.mit (.mp 900001) m.length (todo.filter fun j=>!Nat.beq j i) (some i)),(10,.box (.dd (ab.cells ⟨true,k,(long+1),first⟩)))])) (by decide +kernel) ?_ ?_ ?_
      ·exact Wk.sub ⟨rfl,rfl,rfl,rfl,rfl,rfl,rfl,trivial⟩ ⟨rfl,rfl,rfl,rfl,trivial⟩
      ·conv=>whnf
       repeat' (first
        | trivial
        | (refine And.intro ?_ ?_<;>conv=>whnf)
        | (refine fk.mk _ (g1) ?_;conv=>whnf)
        | (refine fk.mk _ (g2) ?_;conv=>whnf)
        | (refine ae ?_;conv=>whnf)
        | (refine aM hB ?_;conv=>whnf)
        | (refine Wk.sub ?_ ?_<;>(repeat' (first|exact trivial|refine⟨rfl,?_⟩))))
      ·conv=>whnf
       refine⟨(todo.filter fun j=>!Nat.beq j i,(fy next ⟨true,k,(long+1),first⟩,(c+1,some i))),dh,⟨qE,by simp only;omega,qI⟩,Wk.sub ⟨rfl,rfl,rfl,rfl,rfl,rfl,trivial⟩ ⟨rfl,?_,rfl,trivial⟩⟩;exact congrArg (fun z=>some (Obj.map z)) fo
     | some v2=>
      obtain⟨j2,q0,q1,q2,q3,q4⟩:=jg (kd:=ab.d) cn hg 0;have Xk:=pW.bd _ _ hg;have g1:findD (ab.d ⟨true,k,(long+1),first⟩) (bO ab.d next) 0=some (some (j2,i64 v2)):=by rw[q1];simp[i64]
      have g2:findD (ab.d ⟨true,k,(long+1),first⟩) (cK (bO ab.d next) j2 (ab.d ⟨true,k,(long+1),first⟩)) 0=some (some (j2,i64 v2)):=by rw[q3];exact g1
      have hB:(decide ((0:Int)<=(j2:Int))&&decide ((j2:Int)<((cK (bO ab.d next) j2 (ab.d ⟨true,k,(long+1),first⟩)).length:Int)))=true:=by
       rw[q3,eT];simp;omega
      have fo:cL (cK (bO ab.d next) j2 (ab.d ⟨true,k,(long+1),first⟩)) j2 (i64 (v2+1))=bO ab.d (fy next ⟨true,k,(long+1),first⟩):=by
       rw[q3,show i64 (v2+1)=D.int .i64 (v2+1) from rfl,q4,fy,hg];rfl
      refine dB mixed av [[],[],[0,1],[2],[0,1],[4],[0,1,2,3,4,5]] (fun ls=>(rz ls [some (95,.mp 43),some (96,.d (ab.d ⟨true,k,(long+1),first⟩)),some (97,.d (i64 v2)),some (98,.d (i64 (v2+1))),some (99,.d (.tup [i64 v2,i64 j2])),some (100,.d (i64 j2)),none] ++ [(0,.d (dj (b0::r0))),(1,.d (dQ l)),(5,.mp 900001),(7,.d (i64 s)),(8,.mp 43),(45,.it 45),(10,.ptr 10 0)],[(900001,.map (bO ab.d m)),(43,.map (u3 ls 4 6 (bO ab.d next) (cK (bO ab.d next) j2 (ab.d ⟨true,k,(long+1),first⟩)) (cL (cK (bO ab.d next) j2 (ab.d ⟨true,k,(long+1),first⟩)) j2 (i64 (v2+1))))),(45,.mit (.mp 900001) m.length (todo.filter fun j=>!Nat.beq j i) (some i)),(10,.box (.dd (ab.cells ⟨true,k,(long+1),first⟩)))])) (by decide +kernel) ?_ ?_ ?_
      ·exact Wk.sub ⟨rfl,rfl,rfl,rfl,rfl,rfl,rfl,trivial⟩ ⟨rfl,rfl,rfl,rfl,trivial⟩
      ·conv=>whnf
       repeat' (first
        | trivial
        | (refine And.intro ?_ ?_<;>conv=>whnf)
        | (refine fk.mk _ (g1) ?_;conv=>whnf)
        | (refine fk.mk _ (g2) ?_;conv=>whnf)
        | (refine ae ?_;conv=>whnf)
        | (refine aM hB ?_;conv=>whnf)
        | (refine Wk.sub ?_ ?_<;>(repeat' (first|exact trivial|refine⟨rfl,?_⟩))))
      ·conv=>whnf
       refine⟨(todo.filter fun j=>!Nat.beq j i,(fy next ⟨true,k,(long+1),first⟩,(c+1,some i))),dh,⟨qE,by simp only;omega,qI⟩,Wk.sub ⟨rfl,rfl,rfl,rfl,rfl,rfl,trivial⟩ ⟨rfl,?_,rfl,trivial⟩⟩;exact congrArg (fun z=>some (Obj.map z)) fo
    ·have h3:¬ (long+1)<=p.ia.hi:=by simpa using h3
     rw[if_neg h3]at hS;conv=>whnf
     exact⟨(todo.filter fun j=>!Nat.beq j i,(next,(c,some i))),dh,⟨pW,by simp only;omega,cI.none hx hS⟩,aw⟩
   | true=>
    rw[show(!(cb ==pb))=true from O6];rw[O6]at cI
    cases first with
    | true=>
     have hS:gq l true ⟨true,k,long,true⟩=if 1<=p.mA.hi then some ⟨false,k,1,false⟩ else none:=by simp[gq,Ll,jJ]
     conv=>whnf
     refine af (I5 true k (List.map cu.cells l).length (by omega) (by simp;omega)) rfl rfl ?_;conv=>whnf
     conv=>whnf
     refine mr 270 (by decide +kernel) ?_;refine ax (I7 l k p A0 xH) rfl rfl ?_;conv=>whnf
     refine ag (fun h3=>?_) (fun h3=>?_)
     ·have h3:1<=p.mA.hi:=by simpa using h3
      rw[if_pos h3]at hS;conv=>whnf
      have qI:=cI.some hx hS;have qE:=pW.inc ⟨false,k,1,false⟩
      cases hg:getM next ⟨false,k,1,false⟩ with
      | none=>
       have g1:=gy (kd:=ab.d) cn hg 0;have g2:findD (ab.d ⟨false,k,1,false⟩) (bO ab.d next ++ [(ab.d ⟨false,k,1,false⟩,i64 0)]) 0=some (some ((bO ab.d next).length,i64 0)):=by
        rw[gx cn hg 0];simp
       have hB:(decide ((0:Int)<=((bO ab.d next).length:Int))&&decide (((bO ab.d next).length:Int)<((bO ab.d next ++ [(ab.d ⟨false,k,1,false⟩,i64 0)]).length:Int)))=true:=by
        simp;omega
       have fo:cL (bO ab.d next ++ [(ab.d ⟨false,k,1,false⟩,i64 0)]) (bO ab.d next).length (i64 (0+1))=bO ab.d (fy next ⟨false,k,1,false⟩):=by
        rw[gC];have:=iI (kd:=ab.d) 1 hg;rw[show i64 (0+1)=D.int .i64 1 from rfl,this,fy,hg];rfl
       refine dB mixed av [[],[],[0,1],[2],[0,1],[4],[0,1,2,3,4,5]] (fun ls=>(rz ls [some (95,.mp 43),some (96,.d (ab.d ⟨false,k,1,false⟩)),some (97,.d (i64 0)),some (98,.d (i64 (0+1))),some (99,.d (.tup [i64 0,i64 (bO ab.d next).length])),some (100,.d (i64 (bO ab.d next).length)),none] ++ [(0,.d (dj (b0::r0))),(1,.d (dQ l)),(5,.mp 900001),(7,.d (i64 s)),(8,.mp 43),(45,.it 45),(10,.ptr 10 0)],[(900001,.map (bO ab.d m)),(43,.map (u3 ls 4 6 (bO ab.d next) (bO ab.d next ++ [(ab.d ⟨false,k,1,false⟩,i64 0)]) (cL (bO ab.d next ++ [(ab.d ⟨false,k,1,false⟩,i64 0)]) (bO ab.d next).length (i64 (0+1))))),(45,.mit (.mp 900001) m.length (todo.filter fun j=>!Nat.beq j i) (some i)),(10,.box (.dd (ab.cells ⟨false,k,1,false⟩)))])) (by decide +kernel) ?_ ?_ ?_
       ·exact Wk.sub ⟨rfl,rfl,rfl,rfl,rfl,rfl,rfl,trivial⟩ ⟨rfl,rfl,rfl,rfl,trivial⟩
       ·conv=>whnf
        repeat' (first
         | trivial
         | (refine And.intro ?_ ?_<;>conv=>whnf)
         | (refine fk.mk _ (g1) ?_;conv=>whnf)
         | (refine fk.mk _ (g2) ?_;conv=>whnf)
         | (refine ae ?_;conv=>whnf)
         | (refine aM hB ?_;conv=>whnf)
         | (refine Wk.sub ?_ ?_<;>(repeat' (first|exact trivial|refine⟨rfl,?_⟩))))
       ·conv=>whnf
        refine⟨(todo.filter fun j=>!Nat.beq j i,(fy next ⟨false,k,1,false⟩,(c+1,some i))),dh,⟨qE,by simp only;omega,qI⟩,Wk.sub ⟨rfl,rfl,rfl,rfl,rfl,rfl,trivial⟩ ⟨rfl,?_,rfl,trivial⟩⟩;exact congrArg (fun z=>some (Obj.map z)) fo
      | some v2=>
       obtain⟨j2,q0,q1,q2,q3,q4⟩:=jg (kd:=ab.d) cn hg 0;have Xk:=pW.bd _ _ hg;have g1:findD (ab.d ⟨false,k,1,false⟩) (bO ab.d next) 0=some (some (j2,i64 v2)):=by rw[q1];simp[i64]
       have g2:findD (ab.d ⟨false,k,1,false⟩) (cK (bO ab.d next) j2 (ab.d ⟨false,k,1,false⟩)) 0=some (some (j2,i64 v2)):=by rw[q3];exact g1
       have hB:(decide ((0:Int)<=(j2:Int))&&decide ((j2:Int)<((cK (bO ab.d next) j2 (ab.d ⟨false,k,1,false⟩)).length:Int)))=true:=by
        rw[q3,eT];simp;omega
       have fo:cL (cK (bO ab.d next) j2 (ab.d ⟨false,k,1,false⟩)) j2 (i64 (v2+1))=bO ab.d (fy next ⟨false,k,1,false⟩):=by
        rw[q3,show i64 (v2+1)=D.int .i64 (v2+1) from rfl,q4,fy,hg];rfl
       refine dB mixed av [[],[],[0,1],[2],[0,1],[4],[0,1,2,3,4,5]] (fun ls=>(rz ls [some (95,.mp 43),some (96,.d (ab.d ⟨false,k,1,false⟩)),some (97,.d (i64 v2)),some (98,.d (i64 (v2+1))),some (99,.d (.tup [i64 v2,i64 j2])),some (100,.d (i64 j2)),none] ++ [(0,.d (dj (b0::r0))),(1,.d (dQ l)),(5,.mp 900001),(7,.d (i64 s)),(8,.mp 43),(45,.it 45),(10,.ptr 10 0)],[(900001,.map (bO ab.d m)),(43,.map (u3 ls 4 6 (bO ab.d next) (cK (bO ab.d next) j2 (ab.d ⟨false,k,1,false⟩)) (cL (cK (bO ab.d next) j2 (ab.d ⟨false,k,1,false⟩)) j2 (i64 (v2+1))))),(45,.mit (.mp 900001) m.length (todo.filter fun j=>!Nat.beq j i) (some i)),(10,.box (.dd (ab.cells ⟨false,k,1,false⟩)))])) (by decide +kernel) ?_ ?_ ?_
       ·exact Wk.sub ⟨rfl,rfl,rfl,rfl,rfl,rfl,rfl,trivial⟩ ⟨rfl,rfl,rfl,rfl,trivial⟩
       ·conv=>whnf
        repeat' (first
         | trivial
         | (refine And.intro ?_ ?_<;>conv=>whnf)
         | (refine fk.mk _ (g1) ?_;conv=>whnf)
         | (refine fk.mk _ (g2) ?_;conv=>whnf)
         | (refine ae ?_;conv=>whnf)
         | (refine aM hB ?_;conv=>whnf)
         | (refine Wk.sub ?_ ?_<;>(repeat' (first|exact trivial|refine⟨rfl,?_⟩))))
       ·conv=>whnf
        refine⟨(todo.filter fun j=>!Nat.beq j i,(fy next ⟨false,k,1,false⟩,(c+1,some i))),dh,⟨qE,by simp only;omega,qI⟩,Wk.sub ⟨rfl,rfl,rfl,rfl,rfl,rfl,trivial⟩ ⟨rfl,?_,rfl,trivial⟩⟩;exact congrArg (fun z=>some (Obj.map z)) fo
     ·have h3:¬ 1<=p.mA.hi:=by simpa using h3
      rw[if_neg h3]at hS;conv=>whnf
      exact⟨(todo.filter fun j=>!Nat.beq j i,(next,(c,some i))),dh,⟨pW,by simp only;omega,cI.none hx hS⟩,aw⟩
    | false=>
     conv=>whnf
     refine mr 269 (by decide +kernel) ?_;refine ax (I6 l k p A0 xH) rfl rfl ?_;conv=>whnf
     refine ag (fun h2=>?_) (fun h2=>?_)
     ·have h2:long<p.ia.lo:=by simpa using h2
      have hS:gq l true ⟨true,k,long,false⟩=none:=by simp[gq,BM,h2]
      conv=>whnf
      exact⟨(todo.filter fun j=>!Nat.beq j i,(next,(c,some i))),dh,⟨pW,by simp only;omega,cI.none hx hS⟩,aw⟩
     ·have h2:¬ long<p.ia.lo:=by simpa using h2
      have hS:gq l true ⟨true,k,long,false⟩=if 1<=p.mA.hi then some ⟨false,k,1,false⟩ else none:=by simp[gq,BM,Ll,jJ,h2]
      conv=>whnf
      refine af (I5 true k (List.map cu.cells l).length (by omega) (by simp;omega)) rfl rfl ?_;conv=>whnf
      conv=>whnf
      refine mr 270 (by decide +kernel) ?_;refine ax (I7 l k p A0 xH) rfl rfl ?_;conv=>whnf
      refine ag (fun h3=>?_) (fun h3=>?_)
      ·have h3:1<=p.mA.hi:=by simpa using h3
       rw[if_pos h3]at hS;conv=>whnf
       have qI:=cI.some hx hS;have qE:=pW.inc ⟨false,k,1,false⟩
       cases hg:getM next ⟨false,k,1,false⟩ with
       | none=>
        have g1:=gy (kd:=ab.d) cn hg 0;have g2:findD (ab.d ⟨false,k,1,false⟩) (bO ab.d next ++ [(ab.d ⟨false,k,1,false⟩,i64 0)]) 0=some (some ((bO ab.d next).length,i64 0)):=by
         rw[gx cn hg 0];simp
        have hB:(decide ((0:Int)<=((bO ab.d next).length:Int))&&decide (((bO ab.d next).length:Int)<((bO ab.d next ++ [(ab.d ⟨false,k,1,false⟩,i64 0)]).length:Int)))=true:=by
         simp;omega
        have fo:cL (bO ab.d next ++ [(ab.d ⟨false,k,1,false⟩,i64 0)]) (bO ab.d next).length (i64 (0+1))=bO ab.d (fy next ⟨false,k,1,false⟩):=by
         rw[gC];have:=iI (kd:=ab.d) 1 hg;rw[show i64 (0+1)=D.int .i64 1 from rfl,this,fy,hg];rfl
        refine dB mixed av [[],[],[0,1],[2],[0,1],[4],[0,1,2,3,4,5]] (fun ls=>(rz ls [some (95,.mp 43),some (96,.d (ab.d ⟨false,k,1,false⟩)),some (97,.d (i64 0)),some (98,.d (i64 (0+1))),some (99,.d (.tup [i64 0,i64 (bO ab.d next).length])),some (100,.d (i64 (bO ab.d next).length)),none] ++ [(0,.d (dj (b0::r0))),(1,.d (dQ l)),(5,.mp 900001),(7,.d (i64 s)),(8,.mp 43),(45,.it 45),(10,.ptr 10 0)],[(900001,.map (bO ab.d m)),(43,.map (u3 ls 4 6 (bO ab.d next) (bO ab.d next ++ [(ab.d ⟨false,k,1,false⟩,i64 0)]) (cL (bO ab.d next ++ [(ab.d ⟨false,k,1,false⟩,i64 0)]) (bO ab.d next).length (i64 (0+1))))),(45,.mit (.mp 900001) m.length (todo.filter fun j=>!Nat.beq j i) (some i)),(10,.box (.dd (ab.cells ⟨false,k,1,false⟩)))])) (by decide +kernel) ?_ ?_ ?_
        ·exact Wk.sub ⟨rfl,rfl,rfl,rfl,rfl,rfl,rfl,trivial⟩ ⟨rfl,rfl,rfl,rfl,trivial⟩
        ·conv=>whnf
         repeat' (first
          | trivial
          | (refine And.intro ?_ ?_<;>conv=>whnf)
          | (refine fk.mk _ (g1) ?_;conv=>whnf)
          | (refine fk.mk _ (g2) ?_;conv=>whnf)
          | (refine ae ?_;conv=>whnf)
          | (refine aM hB ?_;conv=>whnf)
          | (refine Wk.sub ?_ ?_<;>(repeat' (first|exact trivial|refine⟨rfl,?_⟩))))
        ·conv=>whnf
         refine⟨(todo.filter fun j=>!Nat.beq j i,(fy next ⟨false,k,1,false⟩,(c+1,some i))),dh,⟨qE,by simp only;omega,qI⟩,Wk.sub ⟨rfl,rfl,rfl,rfl,rfl,rfl,trivial⟩ ⟨rfl,?_,rfl,trivial⟩⟩;exact congrArg (fun z=>some (Obj.map z)) fo
       | some v2=>
        obtain⟨j2,q0,q1,q2,q3,q4⟩:=jg (kd:=ab.d) cn hg 0;have Xk:=pW.bd _ _ hg;have g1:findD (ab.d ⟨false,k,1,false⟩) (bO ab.d next) 0=some (some (j2,i64 v2)):=by rw[q1];simp[i64]
        have g2:findD (ab.d ⟨false,k,1,false⟩) (cK (bO ab.d next) j2 (ab.d ⟨false,k,1,false⟩)) 0=some (some (j2,i64 v2)):=by rw[q3];exact g1
        have hB:(decide ((0:Int)<=(j2:Int))&&decide ((j2:Int)<((cK (bO ab.d next) j2 (ab.d ⟨false,k,1,false⟩)).length:Int)))=true:=by
         rw[q3,eT];simp;omega
        have fo:cL (cK (bO ab.d next) j2 (ab.d ⟨false,k,1,false⟩)) j2 (i64 (v2+1))=bO ab.d (fy next ⟨false,k,1,false⟩):=by
         rw[q3,show i64 (v2+1)=D.int .i64 (v2+1) from rfl,q4,fy,hg];rfl
        refine dB mixed av [[],[],[0,1],[2],[0,1],[4],[0,1,2,3,4,5]] (fun ls=>(rz ls [some (95,.mp 43),some (96,.d (ab.d ⟨false,k,1,false⟩)),some (97,.d (i64 v2)),some (98,.d (i64 (v2+1))),some (99,.d (.tup [i64 v2,i64 j2])),some (100,.d (i64 j2)),none] ++ [(0,.d (dj (b0::r0))),(1,.d (dQ l)),(5,.mp 900001),(7,.d (i64 s)),(8,.mp 43),(45,.it 45),(10,.ptr 10 0)],[(900001,.map (bO ab.d m)),(43,.map (u3 ls 4 6 (bO ab.d next) (cK (bO ab.d next) j2 (ab.d ⟨false,k,1,false⟩)) (cL (cK (bO ab.d next) j2 (ab.d ⟨false,k,1,false⟩)) j2 (i64 (v2+1))))),(45,.mit (.mp 900001) m.length (todo.filter fun j=>!Nat.beq j i) (some i)),(10,.box (.dd (ab.cells ⟨false,k,1,false⟩)))])) (by decide +kernel) ?_ ?_ ?_
        ·exact Wk.sub ⟨rfl,rfl,rfl,rfl,rfl,rfl,rfl,trivial⟩ ⟨rfl,rfl,rfl,rfl,trivial⟩
        ·conv=>whnf
         repeat' (first
          | trivial
          | (refine And.intro ?_ ?_<;>conv=>whnf)
          | (refine fk.mk _ (g1) ?_;conv=>whnf)
          | (refine fk.mk _ (g2) ?_;conv=>whnf)
          | (refine ae ?_;conv=>whnf)
          | (refine aM hB ?_;conv=>whnf)
          | (refine Wk.sub ?_ ?_<;>(repeat' (first|exact trivial|refine⟨rfl,?_⟩))))
        ·conv=>whnf
         refine⟨(todo.filter fun j=>!Nat.beq j i,(fy next ⟨false,k,1,false⟩,(c+1,some i))),dh,⟨qE,by simp only;omega,qI⟩,Wk.sub ⟨rfl,rfl,rfl,rfl,rfl,rfl,trivial⟩ ⟨rfl,?_,rfl,trivial⟩⟩;exact congrArg (fun z=>some (Obj.map z)) fo
      ·have h3:¬ 1<=p.mA.hi:=by simpa using h3
       rw[if_neg h3]at hS;conv=>whnf
       exact⟨(todo.filter fun j=>!Nat.beq j i,(next,(c,some i))),dh,⟨pW,by simp only;omega,cI.none hx hS⟩,aw⟩
  | false=>
   have BM:∀ f n,lB l ⟨false,k,n,f⟩=p.mA:=fun f n=>by simp[lB,xH]
   obtain⟨k2,j8⟩:∃ k2,k2=(k+1)%((List.map cu.cells l).length:Int):=⟨_,rfl⟩;have Pg:(k+1)%(l.length:Int)=k2:=by rw[j8,List.length_map]
   have WH:0<=k2:=by rw[<- Pg];exact Int.emod_nonneg _ (by omega)
   have acj:k2<l.length:=by rw[<- Pg];exact Int.emod_lt_of_pos _ (by omega)
   obtain⟨p2,OA⟩:∃ p,l[k2.toNat]?=some p:=⟨_,List.getElem?_eq_getElem (by omega)⟩;have Ll:∀ f n,lB l ⟨true,k2,n,f⟩=p2.ia:=fun f n=>by simp[lB,OA]
   refine⟨by simp[eT],(.agg [.ifc 326 (i64 k),i64 long,.bool first],i64 v),wU,?_⟩;conv=>whnf
   refine ae ?_;conv=>whnf
   refine aU _ ⟨by omega,hcg⟩ ?_;conv=>whnf
   refine ae ?_;conv=>whnf
   refine aU _ ⟨by omega,hpg⟩ ?_;conv=>whnf
   cases O6:(cb !=pb) with
   | false=>
    rw[show(!(cb ==pb))=false from O6];rw[O6]at cI;have hS:gq l false ⟨false,k,long,first⟩=if long+1<=p.mA.hi then some ⟨false,k,long+1,first⟩ else none:=by simp[gq,BM]
    conv=>whnf
    refine mr 270 (by decide +kernel) ?_;refine ax (I7 l k p A0 xH) rfl rfl ?_;conv=>whnf
    refine ag (fun h3=>?_) (fun h3=>?_)
    ·have h3:(long+1)<=p.mA.hi:=by simpa using h3
     rw[if_pos h3]at hS;conv=>whnf
     have qI:=cI.some hx hS;have qE:=pW.inc ⟨false,k,(long+1),first⟩
     cases hg:getM next ⟨false,k,(long+1),first⟩ with
     | none=>
      have g1:=gy (kd:=ab.d) cn hg 0;have g2:findD (ab.d ⟨false,k,(long+1),first⟩) (bO ab.d next ++ [(ab.d ⟨false,k,(long+1),first⟩,i64 0)]) 0=some (some ((bO ab.d next).length,i64 0)):=by
       rw[gx cn hg 0];simp
      have hB:(decide ((0:Int)<=((bO ab.d next).length:Int))&&decide (((bO ab.d next).length:Int)<((bO ab.d next ++ [(ab.d ⟨false,k,(long+1),first⟩,i64 0)]).length:Int)))=true:=by
       simp;omega
      have fo:cL (bO ab.d next ++ [(ab.d ⟨false,k,(long+1),first⟩,i64 0)]) (bO ab.d next).length (i64 (0+1))=bO ab.d (fy next ⟨false,k,(long+1),first⟩):=by
       rw[gC];have:=iI (kd:=ab.d) 1 hg;rw[show i64 (0+1)=D.int .i64 1 from rfl,this,fy,hg];rfl
      refine dB mixed av [[],[],[0,1],[2],[0,1],[4],[0,1,2,3,4,5]] (fun ls=>(rz ls [some (95,.mp 43),some (96,.d (ab.d ⟨false,k,(long+1),first⟩)),some (97,.d (i64 0)),some (98,.d (i64 (0+1))),some (99,.d (.tup [i64 0,i64 (bO ab.d next).length])),some (100,.d (i64 (bO ab.d next).length)),none] ++ [(0,.d (dj (b0::r0))),(1,.d (dQ l)),(5,.mp 900001),(7,.d (i64 s)),(8,.mp 43),(45,.it 45),(10,.ptr 10 0)],[(900001,.map (bO ab.d m)),(43,.map (u3 ls 4 6 (bO ab.d next) (bO ab.d next ++ [(ab.d ⟨false,k,(long+1),first⟩,i64 0)]) (cL (bO ab.d next ++ [(ab.d ⟨false,k,(long+1),first⟩,i64 0)]) (bO ab.d next).length (i64 (0+1))))),(45,.mit (.mp 900001) m.length (todo.filter fun j=>!Nat.beq j i) (some i)),(10,.box (.dd (ab.cells ⟨false,k,(long+1),first⟩)))])) (by decide +kernel) ?_ ?_ ?_
      ·exact Wk.sub ⟨rfl,rfl,rfl,rfl,rfl,rfl,rfl,trivial⟩ ⟨rfl,rfl,rfl,rfl,trivial⟩
      ·conv=>whnf
       repeat' (first
        | trivial
        | (refine And.intro ?_ ?_<;>conv=>whnf)
        | (refine fk.mk _ (g1) ?_;conv=>whnf)
        | (refine fk.mk _ (g2) ?_;conv=>whnf)
        | (refine ae ?_;conv=>whnf)
        | (refine aM hB ?_;conv=>whnf)
        | (refine Wk.sub ?_ ?_<;>(repeat' (first|exact trivial|refine⟨rfl,?_⟩))))
      ·conv=>whnf
       refine⟨(todo.filter fun j=>!Nat.beq j i,(fy next ⟨false,k,(long+1),first⟩,(c+1,some i))),dh,⟨qE,by simp only;omega,qI⟩,Wk.sub ⟨rfl,rfl,rfl,rfl,rfl,rfl,trivial⟩ ⟨rfl,?_,rfl,trivial⟩⟩;exact congrArg (fun z=>some (Obj.map z)) fo
     | some v2=>
      obtain⟨j2,q0,q1,q2,q3,q4⟩:=jg (kd:=ab.d) cn hg 0;have Xk:=pW.bd _ _ hg;have g1:findD (ab.d ⟨false,k,(long+1),first⟩) (bO ab.d next) 0=some (some (j2,i64 v2)):=by rw[q1];simp[i64]
      have g2:findD (ab.d ⟨false,k,(long+1),first⟩) (cK (bO ab.d next) j2 (ab.d ⟨false,k,(long+1),first⟩)) 0=some (some (j2,i64 v2)):=by rw[q3];exact g1
      have hB:(decide ((0:Int)<=(j2:Int))&&decide ((j2:Int)<((cK (bO ab.d next) j2 (ab.d ⟨false,k,(long+1),first⟩)).length:Int)))=true:=by
       rw[q3,eT];simp;omega
      have fo:cL (cK (bO ab.d next) j2 (ab.d ⟨false,k,(long+1),first⟩)) j2 (i64 (v2+1))=bO ab.d (fy next ⟨false,k,(long+1),first⟩):=by
       rw[q3,show i64 (v2+1)=D.int .i64 (v2+1) from rfl,q4,fy,hg];rfl
      refine dB mixed av [[],[],[0,1],[2],[0,1],[4],[0,1,2,3,4,5]] (fun ls=>(rz ls [some (95,.mp 43),some (96,.d (ab.d ⟨false,k,(long+1),first⟩)),some (97,.d (i64 v2)),some (98,.d (i64 (v2+1))),some (99,.d (.tup [i64 v2,i64 j2])),some (100,.d (i64 j2)),none] ++ [(0,.d (dj (b0::r0))),(1,.d (dQ l)),(5,.mp 900001),(7,.d (i64 s)),(8,.mp 43),(45,.it 45),(10,.ptr 10 0)],[(900001,.map (bO ab.d m)),(43,.map (u3 ls 4 6 (bO ab.d next) (cK (bO ab.d next) j2 (ab.d ⟨false,k,(long+1),first⟩)) (cL (cK (bO ab.d next) j2 (ab.d ⟨false,k,(long+1),first⟩)) j2 (i64 (v2+1))))),(45,.mit (.mp 900001) m.length (todo.filter fun j=>!Nat.beq j i) (some i)),(10,.box (.dd (ab.cells ⟨false,k,(long+1),first⟩)))])) (by decide +kernel) ?_ ?_ ?_
      ·exact Wk.sub ⟨rfl,rfl,rfl,rfl,rfl,rfl,rfl,trivial⟩ ⟨rfl,rfl,rfl,rfl,trivial⟩
      ·conv=>whnf
       repeat' (first
        | trivial
        | (refine And.intro ?_ ?_<;>conv=>whnf)
        | (refine fk.mk _ (g1) ?_;conv=>whnf)
        | (refine fk.mk _ (g2) ?_;conv=>whnf)
        | (refine ae ?_;conv=>whnf)
        | (refine aM hB ?_;conv=>whnf)
        | (refine Wk.sub ?_ ?_<;>(repeat' (first|exact trivial|refine⟨rfl,?_⟩))))
      ·conv=>whnf
       refine⟨(todo.filter fun j=>!Nat.beq j i,(fy next ⟨false,k,(long+1),first⟩,(c+1,some i))),dh,⟨qE,by simp only;omega,qI⟩,Wk.sub ⟨rfl,rfl,rfl,rfl,rfl,rfl,trivial⟩ ⟨rfl,?_,rfl,trivial⟩⟩;exact congrArg (fun z=>some (Obj.map z)) fo
    ·have h3:¬ (long+1)<=p.mA.hi:=by simpa using h3
     rw[if_neg h3]at hS;conv=>whnf
     exact⟨(todo.filter fun j=>!Nat.beq j i,(next,(c,some i))),dh,⟨pW,by simp only;omega,cI.none hx hS⟩,aw⟩
   | true=>
    rw[show(!(cb ==pb))=true from O6];rw[O6]at cI
    cases first with
    | true=>
     have hS:gq l true ⟨false,k,long,true⟩=if 1<=p2.ia.hi then some ⟨true,k2,1,false⟩ else none:=by simp[gq,Ll,jJ,Pg]
     conv=>whnf
     refine af (bq.cast (I5 false k (List.map cu.cells l).length (by omega) (by simp;omega)) (r':=.ifc 321 (i64 k2)) (by rw[<- j8];rfl)) rfl rfl ?_;conv=>whnf
     refine mr 269 (by decide +kernel) ?_;refine ax (I6 l k2 p2 WH OA) rfl rfl ?_;conv=>whnf
     refine ag (fun h3=>?_) (fun h3=>?_)
     ·have h3:1<=p2.ia.hi:=by simpa using h3
      rw[if_pos h3]at hS;conv=>whnf
      have qI:=cI.some hx hS;have qE:=pW.inc ⟨true,k2,1,false⟩
      cases hg:getM next ⟨true,k2,1,false⟩ with
      | none=>
       have g1:=gy (kd:=ab.d) cn hg 0;have g2:findD (ab.d ⟨true,k2,1,false⟩) (bO ab.d next ++ [(ab.d ⟨true,k2,1,false⟩,i64 0)]) 0=some (some ((bO ab.d next).length,i64 0)):=by
        rw[gx cn hg 0];simp
       have hB:(decide ((0:Int)<=((bO ab.d next).length:Int))&&decide (((bO ab.d next).length:Int)<((bO ab.d next ++ [(ab.d ⟨true,k2,1,false⟩,i64 0)]).length:Int)))=true:=by
        simp;omega
       have fo:cL (bO ab.d next ++ [(ab.d ⟨true,k2,1,false⟩,i64 0)]) (bO ab.d next).length (i64 (0+1))=bO ab.d (fy next ⟨true,k2,1,false⟩):=by
        rw[gC];have:=iI (kd:=ab.d) 1 hg;rw[show i64 (0+1)=D.int .i64 1 from rfl,this,fy,hg];rfl
       refine dB mixed av [[],[],[0,1],[2],[0,1],[4],[0,1,2,3,4,5]] (fun ls=>(rz ls [some (95,.mp 43),some (96,.d (ab.d ⟨true,k2,1,false⟩)),some (97,.d (i64 0)),some (98,.d (i64 (0+1))),some (99,.d (.tup [i64 0,i64 (bO ab.d next).length])),some (100,.d (i64 (bO ab.d next).length)),none] ++ [(0,.d (dj (b0::r0))),(1,.d (dQ l)),(5,.mp 900001),(7,.d (i64 s)),(8,.mp 43),(45,.it 45),(10,.ptr 10 0)],[(900001,.map (bO ab.d m)),(43,.map (u3 ls 4 6 (bO ab.d next) (bO ab.d next ++ [(ab.d ⟨true,k2,1,false⟩,i64 0)]) (cL (bO ab.d next ++ [(ab.d ⟨true,k2,1,false⟩,i64 0)]) (bO ab.d next).length (i64 (0+1))))),(45,.mit (.mp 900001) m.length (todo.filter fun j=>!Nat.beq j i) (some i)),(10,.box (.dd (ab.cells ⟨true,k2,1,false⟩)))])) (by decide +kernel) ?_ ?_ ?_
       ·exact Wk.sub ⟨rfl,rfl,rfl,rfl,rfl,rfl,rfl,trivial⟩ ⟨rfl,rfl,rfl,rfl,trivial⟩
       ·conv=>whnf
        repeat' (first
         | trivial
         | (refine And.intro ?_ ?_<;>conv=>whnf)
         | (refine fk.mk _ (g1) ?_;conv=>whnf)
         | (refine fk.mk _ (g2) ?_;conv=>whnf)
         | (refine ae ?_;conv=>whnf)
         | (refine aM hB ?_;conv=>whnf)
         | (refine Wk.sub ?_ ?_<;>(repeat' (first|exact trivial|refine⟨rfl,?_⟩))))
       ·conv=>whnf
        refine⟨(todo.filter fun j=>!Nat.beq j i,(fy next ⟨true,k2,1,false⟩,(c+1,some i))),dh,⟨qE,by simp only;omega,qI⟩,Wk.sub ⟨rfl,rfl,rfl,rfl,rfl,rfl,trivial⟩ ⟨rfl,?_,rfl,trivial⟩⟩;exact congrArg (fun z=>some (Obj.map z)) fo
      | some v2=>
       obtain⟨j2,q0,q1,q2,q3,q4⟩:=jg (kd:=ab.d) cn hg 0;have Xk:=pW.bd _ _ hg;have g1:findD (ab.d ⟨true,k2,1,false⟩) (bO ab.d next) 0=some (some (j2,i64 v2)):=by rw[q1];simp[i64]
       have g2:findD (ab.d ⟨true,k2,1,false⟩) (cK (bO ab.d next) j2 (ab.d ⟨true,k2,1,false⟩)) 0=some (some (j2,i64 v2)):=by rw[q3];exact g1
       have hB:(decide ((0:Int)<=(j2:Int))&&decide ((j2:Int)<((cK (bO ab.d next) j2 (ab.d ⟨true,k2,1,false⟩)).length:Int)))=true:=by
        rw[q3,eT];simp;omega
       have fo:cL (cK (bO ab.d next) j2 (ab.d ⟨true,k2,1,false⟩)) j2 (i64 (v2+1))=bO ab.d (fy next ⟨true,k2,1,false⟩):=by
        rw[q3,show i64 (v2+1)=D.int .i64 (v2+1) from rfl,q4,fy,hg];rfl
       refine dB mixed av [[],[],[0,1],[2],[0,1],[4],[0,1,2,3,4,5]] (fun ls=>(rz ls [some (95,.mp 43),some (96,.d (ab.d ⟨true,k2,1,false⟩)),some (97,.d (i64 v2)),some (98,.d (i64 (v2+1))),some (99,.d (.tup [i64 v2,i64 j2])),some (100,.d (i64 j2)),none] ++ [(0,.d (dj (b0::r0))),(1,.d (dQ l)),(5,.mp 900001),(7,.d (i64 s)),(8,.mp 43),(45,.it 45),(10,.ptr 10 0)],[(900001,.map (bO ab.d m)),(43,.map (u3 ls 4 6 (bO ab.d next) (cK (bO ab.d next) j2 (ab.d ⟨true,k2,1,false⟩)) (cL (cK (bO ab.d next) j2 (ab.d ⟨true,k2,1,false⟩)) j2 (i64 (v2+1))))),(45,.mit (.mp 900001) m.length (todo.filter fun j=>!Nat.beq j i) (some i)),(10,.box (.dd (ab.cells ⟨true,k2,1,false⟩)))])) (by decide +kernel) ?_ ?_ ?_
       ·exact Wk.sub ⟨rfl,rfl,rfl,rfl,rfl,rfl,rfl,trivial⟩ ⟨rfl,rfl,rfl,rfl,trivial⟩
       ·conv=>whnf
        repeat' (first
         | trivial
         | (refine And.intro ?_ ?_<;>conv=>whnf)
         | (refine fk.mk _ (g1) ?_;conv=>whnf)
         | (refine fk.mk _ (g2) ?_;conv=>whnf)
         | (refine ae ?_;conv=>whnf)
         | (refine aM hB ?_;conv=>whnf)
         | (refine Wk.sub ?_ ?_<;>(repeat' (first|exact trivial|refine⟨rfl,?_⟩))))
       ·conv=>whnf
        refine⟨(todo.filter fun j=>!Nat.beq j i,(fy next ⟨true,k2,1,false⟩,(c+1,some i))),dh,⟨qE,by simp only;omega,qI⟩,Wk.sub ⟨rfl,rfl,rfl,rfl,rfl,rfl,trivial⟩ ⟨rfl,?_,rfl,trivial⟩⟩;exact congrArg (fun z=>some (Obj.map z)) fo
     ·have h3:¬ 1<=p2.ia.hi:=by simpa using h3
      rw[if_neg h3]at hS;conv=>whnf
      exact⟨(todo.filter fun j=>!Nat.beq j i,(next,(c,some i))),dh,⟨pW,by simp only;omega,cI.none hx hS⟩,aw⟩
    | false=>
     conv=>whnf
     refine mr 270 (by decide +kernel) ?_;refine ax (I7 l k p A0 xH) rfl rfl ?_;conv=>whnf
     refine ag (fun h2=>?_) (fun h2=>?_)
     ·have h2:long<p.mA.lo:=by simpa using h2
      have hS:gq l true ⟨false,k,long,false⟩=none:=by simp[gq,BM,h2]
      conv=>whnf
      exact⟨(todo.filter fun j=>!Nat.beq j i,(next,(c,some i))),dh,⟨pW,by simp only;omega,cI.none hx hS⟩,aw⟩
     ·have h2:¬ long<p.mA.lo:=by simpa using h2
      have hS:gq l true ⟨false,k,long,false⟩=if 1<=p2.ia.hi then some ⟨true,k2,1,false⟩ else none:=by simp[gq,BM,Ll,jJ,h2,Pg]
      conv=>whnf
      refine af (bq.cast (I5 false k (List.map cu.cells l).length (by omega) (by simp;omega)) (r':=.ifc 321 (i64 k2)) (by rw[<- j8];rfl)) rfl rfl ?_;conv=>whnf
      refine mr 269 (by decide +kernel) ?_;refine ax (I6 l k2 p2 WH OA) rfl rfl ?_;conv=>whnf
      refine ag (fun h3=>?_) (fun h3=>?_)
      ·have h3:1<=p2.ia.hi:=by simpa using h3
       rw[if_pos h3]at hS;conv=>whnf
       have qI:=cI.some hx hS;have qE:=pW.inc ⟨true,k2,1,false⟩
       cases hg:getM next ⟨true,k2,1,false⟩ with
       | none=>
        have g1:=gy (kd:=ab.d) cn hg 0;have g2:findD (ab.d ⟨true,k2,1,false⟩) (bO ab.d next ++ [(ab.d ⟨true,k2,1,false⟩,i64 0)]) 0=some (some ((bO ab.d next).length,i64 0)):=by
         rw[gx cn hg 0];simp
        have hB:(decide ((0:Int)<=((bO ab.d next).length:Int))&&decide (((bO ab.d next).length:Int)<((bO ab.d next ++ [(ab.d ⟨true,k2,1,false⟩,i64 0)]).length:Int)))=true:=by
         simp;omega
        have fo:cL (bO ab.d next ++ [(ab.d ⟨true,k2,1,false⟩,i64 0)]) (bO ab.d next).length (i64 (0+1))=bO ab.d (fy next ⟨true,k2,1,false⟩):=by
         rw[gC];have:=iI (kd:=ab.d) 1 hg;rw[show i64 (0+1)=D.int .i64 1 from rfl,this,fy,hg];rfl
        refine dB mixed av [[],[],[0,1],[2],[0,1],[4],[0,1,2,3,4,5]] (fun ls=>(rz ls [some (95,.mp 43),some (96,.d (ab.d ⟨true,k2,1,false⟩)),some (97,.d (i64 0)),some (98,.d (i64 (0+1))),some (99,.d (.tup [i64 0,i64 (bO ab.d next).length])),some (100,.d (i64 (bO ab.d next).length)),none] ++ [(0,.d (dj (b0::r0))),(1,.d (dQ l)),(5,.mp 900001),(7,.d (i64 s)),(8,.mp 43),(45,.it 45),(10,.ptr 10 0)],[(900001,.map (bO ab.d m)),(43,.map (u3 ls 4 6 (bO ab.d next) (bO ab.d next ++ [(ab.d ⟨true,k2,1,false⟩,i64 0)]) (cL (bO ab.d next ++ [(ab.d ⟨true,k2,1,false⟩,i64 0)]) (bO ab.d next).length (i64 (0+1))))),(45,.mit (.mp 900001) m.length (todo.filter fun j=>!Nat.beq j i) (some i)),(10,.box (.dd (ab.cells ⟨true,k2,1,false⟩)))])) (by decide +kernel) ?_ ?_ ?_
        ·exact Wk.sub ⟨rfl,rfl,rfl,rfl,rfl,rfl,rfl,trivial⟩ ⟨rfl,rfl,rfl,rfl,trivial⟩
        ·conv=>whnf
         repeat' (first
          | trivial
          | (refine And.intro ?_ ?_<;>conv=>whnf)
          | (refine fk.mk _ (g1) ?_;conv=>whnf)
          | (refine fk.mk _ (g2) ?_;conv=>whnf)
          | (refine ae ?_;conv=>whnf)
          | (refine aM hB ?_;conv=>whnf)
          | (refine Wk.sub ?_ ?_<;>(repeat' (first|exact trivial|refine⟨rfl,?_⟩))))
        ·conv=>whnf
         refine⟨(todo.filter fun j=>!Nat.beq j i,(fy next ⟨true,k2,1,false⟩,(c+1,some i))),dh,⟨qE,by simp only;omega,qI⟩,Wk.sub ⟨rfl,rfl,rfl,rfl,rfl,rfl,trivial⟩ ⟨rfl,?_,rfl,trivial⟩⟩;exact congrArg (fun z=>some (Obj.map z)) fo
       | some v2=>
        obtain⟨j2,q0,q1,q2,q3,q4⟩:=jg (kd:=ab.d) cn hg 0;have Xk:=pW.bd _ _ hg;have g1:findD (ab.d ⟨true,k2,1,false⟩) (bO ab.d next) 0=some (some (j2,i64 v2)):=by rw[q1];simp[i64]
        have g2:findD (ab.d ⟨true,k2,1,false⟩) (cK (bO ab.d next) j2 (ab.d ⟨true,k2,1,false⟩)) 0=some (some (j2,i64 v2)):=by rw[q3];exact g1
        have hB:(decide ((0:Int)<=(j2:Int))&&decide ((j2:Int)<((cK (bO ab.d next) j2 (ab.d ⟨true,k2,1,false⟩)).length:Int)))=true:=by
         rw[q3,eT];simp;omega
        have fo:cL (cK (bO ab.d next) j2 (ab.d ⟨true,k2,1,false⟩)) j2 (i64 (v2+1))=bO ab.d (fy next ⟨true,k2,1,false⟩):=by
         rw[q3,show i64 (v2+1)=D.int .i64 (v2+1) from rfl,q4,fy,hg];rfl
        refine dB mixed av [[],[],[0,1],[2],[0,1],[4],[0,1,2,3,4,5]] (fun ls=>(rz ls [some (95,.mp 43),some (96,.d (ab.d ⟨true,k2,1,false⟩)),some (97,.d (i64 v2)),some (98,.d (i64 (v2+1))),some (99,.d (.tup [i64 v2,i64 j2])),some (100,.d (i64 j2)),none] ++ [(0,.d (dj (b0::r0))),(1,.d (dQ l)),(5,.mp 900001),(7,.d (i64 s)),(8,.mp 43),(45,.it 45),(10,.ptr 10 0)],[(900001,.map (bO ab.d m)),(43,.map (u3 ls 4 6 (bO ab.d next) (cK (bO ab.d next) j2 (ab.d ⟨true,k2,1,false⟩)) (cL (cK (bO ab.d next) j2 (ab.d ⟨true,k2,1,false⟩)) j2 (i64 (v2+1))))),(45,.mit (.mp 900001) m.length (todo.filter fun j=>!Nat.beq j i) (some i)),(10,.box (.dd (ab.cells ⟨true,k2,1,false⟩)))])) (by decide +kernel) ?_ ?_ ?_
        ·exact Wk.sub ⟨rfl,rfl,rfl,rfl,rfl,rfl,rfl,trivial⟩ ⟨rfl,rfl,rfl,rfl,trivial⟩
        ·conv=>whnf
         repeat' (first
          | trivial
          | (refine And.intro ?_ ?_<;>conv=>whnf)
          | (refine fk.mk _ (g1) ?_;conv=>whnf)
          | (refine fk.mk _ (g2) ?_;conv=>whnf)
          | (refine ae ?_;conv=>whnf)
          | (refine aM hB ?_;conv=>whnf)
          | (refine Wk.sub ?_ ?_<;>(repeat' (first|exact trivial|refine⟨rfl,?_⟩))))
        ·conv=>whnf
         refine⟨(todo.filter fun j=>!Nat.beq j i,(fy next ⟨true,k2,1,false⟩,(c+1,some i))),dh,⟨qE,by simp only;omega,qI⟩,Wk.sub ⟨rfl,rfl,rfl,rfl,rfl,rfl,trivial⟩ ⟨rfl,?_,rfl,trivial⟩⟩;exact congrArg (fun z=>some (Obj.map z)) fo
      ·have h3:¬ 1<=p2.ia.hi:=by simpa using h3
       rw[if_neg h3]at hS;conv=>whnf
       exact⟨(todo.filter fun j=>!Nat.beq j i,(next,(c,some i))),dh,⟨pW,by simp only;omega,cI.none hx hS⟩,aw⟩
def jL(c:bG)(l:List ct):Int:=if (bN c).2.2=0 then (lQ l).2 else (bN c).2.2
theorem PR(c:bG)(l:List ct):bq Tryz.prog 143 [c.d,iH l] (i64 (jL c l)):=by
 refine aY Tryz.func143 rfl (ft:=Vt) 2 fun {σ} Y st=>?_;conv=>whnf
 refine af (Ni c) rfl rfl ?_;conv=>whnf
 unfold jL;refine ag (fun h0=>?_) (fun h0=>?_)
 ·have h0:(bN c).2.2=0:=by simpa using h0
  rw[if_pos h0];conv=>whnf
  refine af (XB l) rfl rfl ?_;conv=>whnf
  exact ai
 ·have h0:¬ (bN c).2.2=0:=by simpa using h0
  rw[if_neg h0];conv=>whnf
  exact ai
theorem By{α:Type}{f:List α->α->Int}:∀ {l b:List α} {i:Int},(qy f b l i).2=0 -> ∀ x∈l,∃ b',f b' x=0
 | [],_,_,_,x,hx=>by cases hx
 | y::r,b,i,h,x,hx=>by
  rw[qy]at h;split at h
  ·rename_i h1
   rcases List.mem_cons.1 hx with rfl|hx
   ·exact⟨b,h1⟩
   ·exact By h x hx
  ·rename_i h1
   exact absurd h h1
structure sN(x:ct):Prop where
 len:1<=x.bK.length/\x.bK.length<=3
 phase:∀ p∈x.bK,nK p=true/\lW p=false
theorem Ad{l:List cu}(h:lX l=0):(1<=l.length/\l.length<=3) /\ ∀ p∈l,nK p=true/\lW p=false:=by
 unfold lX at h;split at h;case isFalse=>cases h
 rename_i h1;rw[cj]at h1;split at h
 ·cases h
 rename_i h2;split at h
 ·cases h
 rename_i h3;refine⟨by omega,fun p hp=>⟨?_,?_⟩⟩
 ·cases hq:nK p with
  | true=>rfl
  | false=>exact absurd (List.any_eq_true.2 ⟨p,hp,by rw[hq];rfl⟩) h2
 ·cases hq:lW p with
  | false=>rfl
  | true=>exact absurd (List.any_eq_true.2 ⟨p,hp,hq⟩) h3
theorem zF{l:List ct}(h:(lQ l).2=0):(1<=l.length/\l.length<=6) /\ ∀ x∈l,sN x:=by
 unfold lQ at h;split at h;case isFalse=>cases h
 rename_i h1;rw[cj]at h1;refine⟨by omega,fun x hx=>?_⟩;obtain⟨b,hb⟩:=By h x hx;unfold qX at hb;split at hb;case isFalse=>cases hb
 split at hb
 ·cases hb
 exact⟨(Ad hb).1,(Ad hb).2⟩
theorem ue{c:bG}{l:List ct}(h:jL c l=0):(bN c).2.2=0 /\ ∀ x∈l,sN x:=by
 unfold jL at h;split at h
 ·rename_i h1
  exact⟨h1,(zF h).2⟩
 ·rename_i h1
  exact absurd h h1
theorem nA{x:bL}{w:List Int}{t:bm}(h:jH x):bX x w t ≠ []/\(bX x w t).length<=200/\(bX x w t).length=x.night.toNat:=by
 have hl:(bX x w t).length=x.night.toNat:=by unfold bX;exact jr
 have:=h.night;refine⟨fun h0=>?_,by omega,hl⟩;rw[h0]at hl;simp at hl;omega
def wO(c:bG)(l:ct)(t:bm):Int:=if jL c [l]=0 then oa c t else jL c [l]
def uf(c:bG)(l:ct)(t:bm):Int:=if wO c l t=0 then fD (bX c.aB c.az t) l.bK else 0
set_option maxHeartbeats 1000000 in
theorem XC(c:bG)(l:ct)(t:bm):bq Tryz.prog 79 [c.d,l.d,t.d] (.tup [i64 (uf c l t),i64 (wO c l t)]):=by
 refine aY Tryz.func79 rfl (ft:=aac) 3 fun {σ} Y st=>?_;conv=>whnf
 refine aA (PR c [l]) rfl 1 rfl ?_;conv=>whnf
 by_cases h0:jL c [l]=0;case neg=>
  have he:wO c l t=jL c [l]:=by unfold wO;rw[if_neg h0]
  have hv:uf c l t=0:=by unfold uf;rw[he,if_neg h0]
  rw[he,hv];refine ag (fun h1=>absurd h1 (by simp[h0])) (fun _=>?_);conv=>whnf
  refine ag (fun _=>?_) (fun h1=>absurd h1 (by simp[h0]));conv=>whnf
  exact ai
 obtain⟨JS,hl⟩:=ue h0;have hR:=ed JS;have he:wO c l t=oa c t:=by unfold wO;rw[if_pos h0]
 refine ag (fun _=>?_) (fun h1=>absurd h1 (by simp[h0]));conv=>whnf
 refine af (XJ c t (by have:=hR.p8;omega)) rfl rfl ?_;conv=>whnf
 rw[he];by_cases h1:oa c t=0;case neg=>
  have hv:uf c l t=0:=by unfold uf;rw[he,if_neg h1]
  rw[hv];refine ag (fun _=>?_) (fun h2=>absurd h2 (by simp[h1]));conv=>whnf
  exact ai
 have hv:uf c l t=fD (bX c.aB c.az t) l.bK:=by unfold uf;rw[he,if_pos h1]
 rw[hv];have hT:=Gj h1;refine ag (fun h2=>absurd h2 (by simp[h1])) (fun _=>?_);conv=>whnf
 refine ax (XK c t hR.aB hR.p8 hT) rfl rfl ?_;conv=>whnf
 obtain⟨k1,k2,_⟩:=nA (w:=c.az) (t:=t) hR.aB;refine ax (PS (bX c.aB c.az t) l.bK k1 k2 (hl l (by simp)).len) rfl rfl ?_;conv=>whnf
 rw[h1];exact ai
theorem TK(x:bL)(a:Int)(hl:x.lit.length<=1000):bq Tryz.prog 95 [x.d,i64 a] (.bool (eP x a)):=by
 refine aY Tryz.func95 rfl (ft:=aas) 2 fun {σ} Y st=>?_;conv=>whnf
 unfold eP;refine bB (T:=tys) av (by exact aj mixed av (by decide +kernel)) x.lit (fun i (_:Unit)=>⟨[(1,.d (i64 a)),(2,.ptr 2 0),(5,.d (i64 i))],[(2,.box (.dd x.cells))],st⟩)
  (fun i r _=>(x.lit.any fun s=>cF a s.lo s.hi)=r.any fun s=>cF a s.lo s.hi) () aw rfl ?_ ?_
 ·intro i s r _ hx hi hr he
  rw[List.any_cons]at he;conv=>whnf
  refine ag (fun _=>?_) (fun h=>absurd hi (by simpa using h));conv=>whnf
  refine aG hx ?_;conv=>whnf
  refine aG hx ?_;conv=>whnf
  refine ax (BD a s.lo s.hi) rfl rfl ?_;conv=>whnf
  cases h3:cF a s.lo s.hi with
  | false=>
   rw[h3,Bool.false_or]at he;conv=>whnf
   refine ae ?_;conv=>whnf
   exact⟨(),he,aw⟩
  | true=>
   rw[h3,Bool.true_or]at he;conv=>whnf
   rw[he];exact ai
 ·intro _ he
  rw[List.any_nil]at he;rw[he];conv=>whnf
  refine ag (fun h=>absurd h (by simp)) (fun _=>?_);conv=>whnf
  exact ai
structure Ls(x:bL)(w:List Int)(t:bm):Prop where
 aB:jH x
 p8:w.length<=2
 start:0<=t.start/\t.start<x.bT
 len:t.aW.length=w.length+1
 speed:∀ s∈t.aW,1<=s/\s<=40
theorem Ls.of{c:bG}{t:bm}(hR:nu c)(hT:ld c t):Ls c.aB c.az t:=by
 have h1:=hR.aB.start;have h2:=hT.start;refine⟨hR.aB,hR.p8,by omega,hT.len,fun s hs=>?_⟩;have h3:=hT.speed s hs;have h4:=hR.aB.speed;omega
set_option maxHeartbeats 1000000 in
theorem XF(x:bL)(w:List Int)(t:bm)(hr:Ls x w t):bq Tryz.prog 20 [x.d,aV w,t.d] (dj (bX x w t)):=by
 refine aY Tryz.func20 rfl (ft:=ZD) 3 fun {σ} Y st=>?_;conv=>whnf
 have hR:=hr.aB;have hd:=hR.bT;have hn:=hR.night;have ja:=hr.start;have zj:=hR.gG;have hw:=hr.p8;refine cD (T:=tys) av (by exact aj mixed av (by decide +kernel)) (α:=Nat×(Int×(Int×(Nat×List Bool))))
  (fun p=>⟨[(1,.d (aV w)),(3,.ptr 3 0),(5,.ptr 5 0),(7,.sl 40 1 0 p.2.2.2.2.length),(8,.d (i64 p.2.1)),(9,.d (i64 p.2.2.2.1)),(10,.d (i64 p.2.2.1)),(11,.d (i64 p.1))],[(3,.box (.dd x.cells)),(5,.box (.dd t.cells)),(40,.arr 1 (.dd (p.2.2.2.2.map fun b=>[D.bool b])))],st⟩)
  (fun p=>(p.1:Int)<=x.night/\(0<=p.2.1/\p.2.1<x.bT)/\(0<=p.2.2.1/\p.2.2.1<=p.1)/\p.2.2.2.1<=w.length/\p.2.2.2.2.length=p.1/\bX x w t=p.2.2.2.2++dq x w t.aW (x.night.toNat-p.1) p.1 p.2.1 p.2.2.1 p.2.2.2.1)
  (fun p=>x.night.toNat-p.1) (0,(t.start,(0,(0,[])))) ?wk ?pr ?_
 case wk=>exact((Wk.born 7 40 1 rfl rfl rfl).trans aw)
 case pr=>
  refine⟨by simp only;omega,by simp only;omega,by simp only;omega,Nat.zero_le _,rfl,?_⟩;simp only[bX,List.nil_append,Nat.sub_zero];rfl
 rintro ⟨s,a,b,n,acc⟩ ⟨h1,h2,h3,h4,h5,h6⟩;simp only at h1 h2 h3 h4 h5 h6;have Xa:=hr.len;have Hg:∀ m:Nat,m<=w.length->1<=t.aW.getD m 0/\t.aW.getD m 0<=40:=by
  intro m hm;have s8:m<t.aW.length:=by omega
  have e:t.aW.getD m 0=t.aW[m]:=by simp[List.getD_eq_getElem?_getD,s8]
  have:=hr.speed _ (List.getElem_mem s8);rw[e];omega
 have Hf:∀ m:Nat,m<=w.length->(t.aW.map fun n=>[i64 n])[m]?=some [i64 (t.aW.getD m 0)]:=by
  intro m hm;have s8:m<t.aW.length:=by omega
  simp[List.getD_eq_getElem?_getD,s8]
 conv=>whnf
 refine ag (fun h7=>?_) (fun h7=>?_);case refine_2=>
  have h7:¬ (s:Int)<x.night:=by have:=of_decide_eq_false h7;simpa using this
  rw[show x.night.toNat-s=0 by omega,dq,List.append_nil]at h6;conv=>whnf
  rw[h6];exact Im rfl (by simp) ⟨⟨rfl,rfl⟩,rfl⟩
 have h7:(s:Int)<x.night:=by have:=of_decide_eq_true h7;simpa using this
 obtain⟨k,hk⟩:∃ k,x.night.toNat-s=k+1:=⟨x.night.toNat-s-1,by omega⟩;have j8:x.night.toNat-(s+1)=k:=by omega
 rw[hk,dq]at h6;have qc:((s:Int)+1)=((s+1:Nat):Int):=by omega
 conv=>whnf
 refine ag (fun h8=>?_) (fun h8=>?_)
 ·have h8:n<w.length:=by have:=of_decide_eq_true h8;simp at this;omega
  conv=>whnf
  refine aU [i64 w[n]] ⟨by omega,by simp[h8]⟩ ?_;conv=>whnf
  refine ag (fun h9=>?_) (fun h9=>?_)
  ·have h9:w[n]=s:=by simpa using h9
   rw[if_pos (by simp[h8,h9])]at h6;conv=>whnf
   refine ao (((n+1:Nat):Int)) (by(try dsimp only);omega) (wrap_i64 (by(try dsimp only);omega)) ?_;conv=>whnf
   refine af (TK x a (by have:=hR.lits;omega)) rfl rfl ?_;conv=>whnf
   refine ak rfl ?_;conv=>whnf
   refine ak (by simp[bx.len]) ?_;conv=>whnf
   refine aM (decide_eq_true (by
    show((acc.map fun b=>[D.bool b]).length+1)*1<=140737488355328;rw[List.length_map];omega)) ?_
   conv=>whnf
   refine aU [i64 (t.aW.getD (n+1) 0)] ⟨by omega,Hf (n+1) (by omega)⟩ ?_;conv=>whnf
   refine ao (0) (by first|omega|(dsimp only;done)|(dsimp only;omega)) (wrap_i64 (by(try dsimp only);omega)) ?_;conv=>whnf
   refine aM (by simp;omega) ?_;conv=>whnf
   have e1:(0:Int).tdiv x.gG=(0)/x.gG:=Int.tdiv_eq_ediv_of_nonneg (by omega);have b1:0<=(0:Int)/x.gG/\(0:Int)/x.gG<=0:=⟨Int.ediv_nonneg (by omega) (by omega),Int.ediv_le_self _ (by omega)⟩;have Xb:=Hg (n+1) (by omega);have e2:(a+max 0 (t.aW.getD (n+1) 0-(0:Int)/x.gG)).tmod x.bT=fc x a (t.aW.getD (n+1) 0) (0):=Int.tmod_eq_emod_of_nonneg (by omega);refine jI (wrap_i64 (by rw[e1];omega)) ?_;conv=>whnf
   rw[e1];refine ae ?_;conv=>whnf
   refine ae ?_;conv=>whnf
   refine aM (by simp;omega) ?_;conv=>whnf
   rw[e2];refine ao ((s+1:Nat):Int) (by omega) (wrap_i64 (by omega)) ?_;conv=>whnf
   refine⟨(s+1,(fc x a (t.aW.getD (n+1) 0) (0),((s:Int),(n+1,acc ++ [eP x a])))),by simp only;omega,⟨by simp only;omega,kM hR _ _ _,by simp only;omega,by simp only;omega,by simp[h5],?_⟩,Wk.sub ⟨rfl,rfl,rfl,?_,rfl,rfl,rfl,rfl,trivial⟩ ⟨rfl,rfl,?_,trivial⟩⟩
   ·simp only[j8]
    rw[h6,List.append_assoc];rfl
   ·simp[PX.get,bx.len]
   ·simp[PX.get,bx.app]
  ·have h9:¬ w[n]=s:=by simpa using h9
   rw[if_neg (by simp[h8,h9])]at h6;conv=>whnf
   refine af (TK x a (by have:=hR.lits;omega)) rfl rfl ?_;conv=>whnf
   refine ak rfl ?_;conv=>whnf
   refine ak (by simp[bx.len]) ?_;conv=>whnf
   refine aM (decide_eq_true (by
    show((acc.map fun b=>[D.bool b]).length+1)*1<=140737488355328;rw[List.length_map];omega)) ?_
   conv=>whnf
   refine aU [i64 (t.aW.getD (n) 0)] ⟨by omega,Hf (n) (by omega)⟩ ?_;conv=>whnf
   refine ao (s-b) (by first|omega|(dsimp only;done)|(dsimp only;omega)) (wrap_i64 (by(try dsimp only);omega)) ?_;conv=>whnf
   refine aM (by simp;omega) ?_;conv=>whnf
   have e1:(s-b:Int).tdiv x.gG=(s-b)/x.gG:=Int.tdiv_eq_ediv_of_nonneg (by omega);have b1:0<=(s-b:Int)/x.gG/\(s-b:Int)/x.gG<=s-b:=⟨Int.ediv_nonneg (by omega) (by omega),Int.ediv_le_self _ (by omega)⟩;have Xb:=Hg (n) (by omega);have e2:(a+max 0 (t.aW.getD (n) 0-(s-b:Int)/x.gG)).tmod x.bT=fc x a (t.aW.getD (n) 0) (s-b):=Int.tmod_eq_emod_of_nonneg (by omega);refine jI (wrap_i64 (by rw[e1];omega)) ?_;conv=>whnf
   rw[e1];refine ae ?_;conv=>whnf
   refine ae ?_;conv=>whnf
   refine aM (by simp;omega) ?_;conv=>whnf
   rw[e2];refine ao ((s+1:Nat):Int) (by omega) (wrap_i64 (by omega)) ?_;conv=>whnf
   refine⟨(s+1,(fc x a (t.aW.getD (n) 0) (s-b),(b,(n,acc ++ [eP x a])))),by simp only;omega,⟨by simp only;omega,kM hR _ _ _,by simp only;omega,by simp only;omega,by simp[h5],?_⟩,Wk.sub ⟨rfl,rfl,rfl,?_,rfl,rfl,rfl,rfl,trivial⟩ ⟨rfl,rfl,?_,trivial⟩⟩
   ·simp only[j8]
    rw[h6,List.append_assoc];rfl
   ·simp[PX.get,bx.len]
   ·simp[PX.get,bx.app]
 ·have h8:¬ n<w.length:=by have:=of_decide_eq_false h8;simp at this;omega
  rw[if_neg (by rw[List.getElem?_eq_none (by omega)];simp)]at h6;conv=>whnf
  refine af (TK x a (by have:=hR.lits;omega)) rfl rfl ?_;conv=>whnf
  refine ak rfl ?_;conv=>whnf
  refine ak (by simp[bx.len]) ?_;conv=>whnf
  refine aM (decide_eq_true (by
   show((acc.map fun b=>[D.bool b]).length+1)*1<=140737488355328;rw[List.length_map];omega)) ?_
  conv=>whnf
  refine aU [i64 (t.aW.getD (n) 0)] ⟨by omega,Hf (n) (by omega)⟩ ?_;conv=>whnf
  refine ao (s-b) (by first|omega|(dsimp only;done)|(dsimp only;omega)) (wrap_i64 (by(try dsimp only);omega)) ?_;conv=>whnf
  refine aM (by simp;omega) ?_;conv=>whnf
  have e1:(s-b:Int).tdiv x.gG=(s-b)/x.gG:=Int.tdiv_eq_ediv_of_nonneg (by omega);have b1:0<=(s-b:Int)/x.gG/\(s-b:Int)/x.gG<=s-b:=⟨Int.ediv_nonneg (by omega) (by omega),Int.ediv_le_self _ (by omega)⟩;have Xb:=Hg (n) (by omega);have e2:(a+max 0 (t.aW.getD (n) 0-(s-b:Int)/x.gG)).tmod x.bT=fc x a (t.aW.getD (n) 0) (s-b):=Int.tmod_eq_emod_of_nonneg (by omega);refine jI (wrap_i64 (by rw[e1];omega)) ?_;conv=>whnf
  rw[e1];refine ae ?_;conv=>whnf
  refine ae ?_;conv=>whnf
  refine aM (by simp;omega) ?_;conv=>whnf
  rw[e2];refine ao ((s+1:Nat):Int) (by omega) (wrap_i64 (by omega)) ?_;conv=>whnf
  refine⟨(s+1,(fc x a (t.aW.getD (n) 0) (s-b),(b,(n,acc ++ [eP x a])))),by simp only;omega,⟨by simp only;omega,kM hR _ _ _,by simp only;omega,by simp only;omega,by simp[h5],?_⟩,Wk.sub ⟨rfl,rfl,rfl,?_,rfl,rfl,rfl,rfl,trivial⟩ ⟨rfl,rfl,?_,trivial⟩⟩
  ·simp only[j8]
   rw[h6,List.append_assoc];rfl
  ·simp[PX.get,bx.len]
  ·simp[PX.get,bx.app]
end Go.PX
namespace Go.PX
open Go.RowKit
def Nl(c1 n:Nat)(lt:List Nat)(bc:List V)(h0:Heap):Bool:=
 sb (fun i=>Nat.ble 1000000 i&&Nat.blt i 2000000 && !ba c1 n i) lt&&sb (D8 lt) (ck bc)&&sb (D8 lt) (cB h0)&&(j5 bc&&wB h0)
def LL(lt:List Nat)(h0:Heap):Bool:=sb (D8 lt) (cB h0)&&wB h0
theorem get_append{α:Type}:∀ (A B:xA α) (k:Nat) (o:α),get (A++B) k=some o->get A k=some o\/get B k=some o
 | [],_,_,_,h=>.inr h
 | (i,p)::A,B,k,o,h=>by
  simp only[List.cons_append,get]at h ⊢;split at h
  ·exact .inl h
  ·exact get_append A B k o h
theorem kb{L L':Loc}{id:Nat}{o:Obj}(hk:L'.κ id=L.κ id):aS L' id o↔aS L id o:=by
 cases o<;>simp[aS,hk]
section
variable {σ : Type} {cx : Cx σ} {L : Loc} {F : Nat -> Nat} {s : σ} {w : World}
theorem a7.ab2{h h':Heap}(hh:a7 cx L F h s w)(hs:dR h' h):a7 cx L F h' s w:=
 ⟨hh.hg,hh.hP,hh.fresh,fun id o hi=>hh.obj id o (hs _ _ hi),fun id o hi=>hh.own id o (hs _ _ hi),fun i j o p hi hj=>hh.inj i j o p (hs _ _ hi) (hs _ _ hj)⟩
theorem a7.app{A B:Heap}(ha:a7 cx L F A s w)(hb:a7 cx L F B s w)(hx:∀ i o j p,get A i=some o->get B j=some p->aS L i o->aS L j p->L.ρ i≠L.ρ j):a7 cx L F (A++B) s w:=by
 refine⟨ha.hg,ha.hP,ha.fresh,fun id o hi=>(get_append A B id o hi).elim (ha.obj id o) (hb.obj id o),fun id o hi=>(get_append A B id o hi).elim (ha.own id o) (hb.own id o),fun i j o p hi hj bi bj e=>?_⟩;rcases get_append A B i o hi with h1|h1<;>rcases get_append A B j p hj with h2|h2
 ·exact ha.inj i j o p h1 h2 bi bj e
 ·exact absurd e (hx i o j p h1 h2 bi bj)
 ·exact absurd e.symm (hx j p i o h2 h1 bj bi)
 ·exact hb.inj i j o p h1 h2 bi bj e
end
section
variable {P : Program} {T : fA} {ft : FT} {α σ : Type} {Y : Hd σ}
theorem Ed(hT:bA P T){g:Operand}{ps:Array Tmp}{a b:Code}(Mx:dr P T ft a)(My:dr P T ft b){f:FuncId}{bc:List V}{e:Env}{h:Heap}{s:σ}{K:fu->St σ->Prop}(Pc:aR e g=some (.clo f bc))
  (lt:List Nat) (c1 c2:Nat) (tb:List Nat) (I:α->Heap×σ) (x0:α) (ns:tw c1 c2 tb e (lL h lt)=true) (dh:Nl c1 tb.length lt bc (bh lt h)=true) (hI:I x0=(ew (jG c1 tb) (lL h lt),s)) (C9:Ny c2 tb (I x0).1=true)
  (hf:∀ L,Lu P (uK (lr P T ft Y I ps a b (nh (jG c1 tb) e) c2 tb)) f (.yld::bc) (bh lt h) (.go x0,L) fun v h' g=>LL lt h'=true/\match g.1 with
   | .go x=>K .normal ⟨e,ew (lD c1 tb) (I x).1++h',(I x).2⟩
   | .done ex hd s'=>K ex ⟨e,ew (lD c1 tb) hd++h',s'⟩):kc P ft Y g ps a b ⟨e,h,s⟩ K:=by
 constructor;intro cx hY r m L F aa w hg hc;simp only[codeOk,Bool.and_eq_true]at hc;obtain⟨⟨A3,Wm⟩,la⟩:=hc;have A3:∀ p∈ps.toList,p<aa.tmps.size:=fun p hp=>of_decide_eq_true (List.all_eq_true.1 A3 p hp);simp only[tw,Bool.and_eq_true]at ns;obtain⟨⟨⟨⟨⟨⟨⟨⟨k1,k2⟩,k3⟩,k4⟩,k5⟩,k6⟩,k7⟩,k8⟩,k9⟩:=ns;have rT:=gp k1;have E7:∀ i∈tb,i<1000000:=fun i hi=>Nat.le_of_ble_eq_true (dJ k2 i hi);have k3:=Nat.le_of_ble_eq_true k3;have k4:=Nat.le_of_ble_eq_true k4;have k5:=Nat.le_of_ble_eq_true k5;have k6:=Nat.le_of_ble_eq_true k6;have k7:∀ k,k<tb.length->ba c2 64 (c1+k)=false:=fun k hk=>by
  have:=dJ k7 k (List.mem_range.2 hk);simpa using this
 have k8:∀ i∈eV e,i∈tb\/(pinned i/\ba c1 tb.length i=false/\ba c2 64 i=false):=by
  intro i hi;have:=dJ k8 i hi;simp only[Bool.or_eq_true,Bool.and_eq_true,Bool.not_eq_true']at this;exact this.imp fX.1 fun h=>⟨⟨Nat.le_of_ble_eq_true h.1.1.1,Nat.le_of_ble_eq_true h.1.1.2⟩,h.1.2,h.2⟩
 have k9:∀ i∈cB (lL h lt),ba c1 tb.length i=false:=fun i hi=>by simpa using dJ k9 i hi
 simp only[Nl,Bool.and_eq_true]at dh;obtain⟨⟨⟨l1,l2⟩,l3⟩,l4,l5⟩:=dh;have l1:∀ i∈lt,pinned i/\ba c1 tb.length i=false:=fun i hi=>by
  have:=dJ l1 i hi;simp only[Bool.and_eq_true,Bool.not_eq_true']at this;exact⟨⟨Nat.le_of_ble_eq_true this.1.1,Nat.le_of_ble_eq_true this.1.2⟩,this.2⟩
 have l2:∀ i∈ck bc,i∈lt:=fun i hi=>fX.1 (dJ l2 i hi);have l3:∀ i∈cB (bh lt h),i∈lt:=fun i hi=>fX.1 (dJ l3 i hi);have WT:∀ i∈lt,i∉tb:=fun i hi hm=>by
  have h1:=(l1 i hi).1;have h2:=E7 i hm;unfold pinned at h1;omega
 have Rl:dR (lL h lt) h:=fun i o hi=>by
  rw[mI]at hi;split at hi
  ·cases hi
  ·exact hi
 have qM:dR (bh lt h) h:=eC lt h;have M5:∀ i∈tb,ba c1 tb.length i=false:=fun i hi=>by
  cases hr:ba c1 tb.length i with
  | false=>rfl
  | true=>rw[eK]at hr;have:=E7 i hi;omega
 have Us:∀ i,ba c1 tb.length i=false->lD c1 tb (jG c1 tb i)=i:=by
  intro i hi;by_cases hm:i∈tb
  ·obtain⟨k,hk⟩:=List.mem_iff_getElem?.1 hm
   rw[wu rT hk,vq hk]
  ·rw[je hm,nB hi]
 have hud:∀ i,i∉tb->jG c1 tb (lD c1 tb i)=i:=by
  intro i hi
  cases hr:ba c1 tb.length i with
  | false=>rw[nB hr,je hi]
  | true=>
   rw[eK]at hr;obtain⟨k,hk⟩:∃ k,i=c1+k:=⟨i-c1,by omega⟩;obtain⟨y,hy⟩:∃ y,tb[k]?=some y:=⟨_,List.getElem?_eq_getElem (by omega)⟩;rw[hk,vq hy,wu rT hy]
 have EW:∀ i∈eV e,ba c1 tb.length i=false:=fun i hi=>(k8 i hi).elim (M5 i) (fun h=>h.2.1);have hE:∀ i∈eV (nh (jG c1 tb) e),pinned i/\ba c2 64 i=false:=by
  have Ha:∀ (e:Env),∀ i∈eV (nh (jG c1 tb) e),∃ j∈eV e,i=jG c1 tb j:=by
   intro e
   induction e with
   | nil=>intro i hi;cases hi
   | cons kv r ih=>
    obtain⟨k,v⟩:=kv;intro i hi;rcases List.mem_append.1 hi with hi|hi
    ·obtain⟨j,hj,rfl⟩:=ra v i hi
     exact⟨j,List.mem_append.2 (.inl hj),rfl⟩
    ·obtain⟨j,hj,rfl⟩:=ih i hi
     exact⟨j,List.mem_append.2 (.inr hj),rfl⟩
  intro i hi;obtain⟨j,hj,rfl⟩:=Ha e i hi;rcases k8 j hj with hm|⟨h1,h2,h3⟩
  ·obtain⟨k,hk⟩:=List.mem_iff_getElem?.1 hm
   have dh:=(List.getElem?_eq_some_iff.1 hk).1;rw[wu rT hk];exact⟨by unfold pinned;omega,k7 k dh⟩
  ·have:j∉tb:=fun hm=>by have:=E7 j hm;unfold pinned at h1;omega
   rw[je this];exact⟨h1,h3⟩
 obtain⟨lc,dV,j6⟩:=hg.aR Pc;have YO:(I x0).1=ew (jG c1 tb) (lL h lt):=by rw[hI]
 have DX:(I x0).2=s:=by rw[hI]
 refine wpIn_rangeFunc fun fn _=>?_;have enter:∃ (base:Go.Loop) (l:Nat) (mk:List Nat) (W1:World),(Instr.enterLoop fn aa.tmps ps a b r).run P w = .ok (l,mk.map mark) W1/\(base.params=ps/\base.assign=a/\base.body=b/\base.tmps=aa.tmps/\base.state = .ready/\base.pending=none) /\
   W1.heap[l]?=some (.loop base)/\w.heap.size<=l/\(∀ x,x<w.heap.size->W1.heap[x]?=w.heap[x]?)/\Tr F w F W1/\w.heap.size<=W1.heap.size/\mk.Nodup /\ ∀ x∈mk,w.heap.size<=x/\W1.heap[x]?=some (.deferred (some [])):=by
  cases r with
  | none=>
   refine⟨{ state:=.ready,pending:=none,fn,tmps:=aa.tmps,params:=ps,assign:=a,body:=b,defers:=w.heap.size },_,[w.heap.size],_,run_enterLoop_outer fn aa.tmps ps a b,⟨rfl,rfl,rfl,rfl,rfl,rfl⟩,?_,by omega,fun x hx=>?_,Tr.trans (Tr.alloc hg.heap.fresh _) (Tr.alloc (fun b hb=>hg.heap.fresh b (by simp at hb;omega)) _),by simp;omega,by simp,fun x hx=>?_⟩
   ·have:=World.alloc_heap_new (w.alloc (.deferred (some []))) (.loop { state:=.ready,pending:=none,fn,tmps:=aa.tmps,params:=ps,assign:=a,body:=b,defers:=w.heap.size })
    rwa [World.size_alloc]at this
   ·rw[heap_alloc_old _ _ (by simp;omega),heap_alloc_old _ _ hx]
   ·rw[List.mem_singleton]at hx
    subst hx;exact⟨Nat.le_refl _,by rw[heap_alloc_old _ _ (by simp)];exact World.alloc_heap_new w _⟩
  | some l0=>
   obtain⟨lp,⟨q1,_⟩,_⟩:=hg.lk l0 rfl;refine⟨{ state:=.ready,pending:=none,fn,tmps:=aa.tmps,params:=ps,assign:=a,body:=b,defers:=lp.defers },_,[],_,run_enterLoop_inner q1 fn aa.tmps ps a b,⟨rfl,rfl,rfl,rfl,rfl,rfl⟩,World.alloc_heap_new w _,Nat.le_refl _,fun x hx=>heap_alloc_old _ _ hx,Tr.alloc hg.heap.fresh _,by simp,List.nodup_nil,fun x hx=>by cases hx⟩
 obtain⟨base,l,mk,W1,qa,⟨nW,nr,JW,Wg,SD,SE⟩,hl,hlw,hold,qd,Tv,vH,Rf⟩:=enter;have dX:=hg.Hx qd (fun x hx=>⟨hold x hx,rfl⟩) (fun x hx=>hg.heap.fresh x (Nat.le_trans Tv hx));have Po:r≠some l:=by
  rintro rfl;obtain⟨lp,⟨q1,_⟩,_⟩:=hg.lk l rfl;have:=bP q1;omega
 let L1:Loc:=⟨fun j=>L.ρ (lD c1 tb j),fun j=>L.κ (lD c1 tb j)⟩
 have Sy:∀ i,ba c1 tb.length i=false->L1.ρ (jG c1 tb i)=L.ρ i/\L1.κ (jG c1 tb i)=L.κ i:=fun i hi=>by
  show L.ρ (lD c1 tb (jG c1 tb i))=L.ρ i/\L.κ (lD c1 tb (jG c1 tb i))=L.κ i;rw[Us i hi];exact⟨rfl,rfl⟩
 have Oy:∀ x,w.heap.size<=x->¬ cx.C s x:=fun x hx hC=>by have:=hg.heap.hP x hC;omega
 have uu:jA base (RS.go x0:RS α σ)=base:=by
  cases base;simp only at SD SE;subst SD;subst SE;rfl
 have Un:∀ i∈lt,L1.ρ i=L.ρ i/\L1.κ i=L.κ i:=fun i hi=>by
  have:=Sy i (l1 i hi).2;rw[je (WT i hi)]at this;exact this
 have uo:OI cx I l (mk++m) r base (nh (jG c1 tb) e) aa.tmps c2 tb L1.ρ L1.κ F W1 (.go x0,L1) W1 F:=by
  refine⟨?_,⟨by rw[uu];exact hl,by show ¬ cx.C (I x0).2 l;rw[DX];exact Oy l hlw⟩,fun x hx=>?_,fun l0 h0=>?_,fun t v ht=>?_,fun _ _=>⟨rfl,rfl⟩,Tr.refl F W1,C9⟩
  ·show a7 cx L1 F (I x0).1 (I x0).2 W1
   rw[YO,DX];exact(dX.heap.ab2 Rl).oc fun i hi=>Sy i (k9 i hi)
  ·show _/\¬ cx.C (I x0).2 x
   rw[DX];rcases List.mem_append.1 hx with hx|hx
   ·exact⟨(Rf x hx).2,Oy x (Rf x hx).1⟩
   ·exact dX.pB x hx
  ·show ∃ lp,_/\¬ cx.C (I x0).2 l0
   rw[DX];exact dX.lk l0 h0
  ·simp only[nh,bY]at ht
   cases h0:get e t with
   | none=>simp[h0]at ht
   | some v0=>
    simp[h0]at ht;subst ht;obtain⟨x,hx,hr⟩:=dX.env t v0 h0;exact⟨x,hx,(br.oc (R:=jG c1 tb) (L:=L) (L':=L1) v0 x fun i hi=>Sy i (EW i (gw h0 hi))).2 hr⟩
 have EO:a7 (fY cx I l (mk++m) r base (nh (jG c1 tb) e) aa.tmps c2 tb L1.ρ L1.κ F W1) L1 F (bh lt h) (.go x0,L1) W1:=by
  refine⟨uo,fun x hx=>?_,dX.heap.fresh,fun id o hi=>?_,fun id o hi hb=>?_,fun i j o p hi hj mf jt he=>?_⟩
  rotate_left
  ·exact bU.iN o (kZ l5 hi) (bU.mono (Tr.refl F W1) id o (fun j hj=>Un j (l3 j ((aI hi).2 j (eH j o hj)))) (Un id (l3 id (aI hi).1)) (fun _=>rfl) (dX.heap.obj id o (qM _ _ hi)))
  ·have hid:=Un id (l3 id (aI hi).1)
   have Wh:=(kb (L:=L) (L':=L1) hid.2).1 hb;obtain⟨q1,q2⟩:=dX.heap.own id o (qM _ _ hi) Wh;rw[hid.1];refine⟨q1,?_⟩;rintro (hx|⟨j,p,hj,jt,hx⟩|hx|hx|hx)
   ·have hx:cx.C (I x0).2 (L.ρ id):=hx
    rw[DX]at hx;exact q2 hx
   ·have hj:get (I x0).1 j=some p:=hj
    rw[YO]at hj;obtain⟨j',o1,h1,rfl,rfl⟩:=jO hj;have hr:=Sy j' (k9 j' (aI h1).1);have aaD:=(cE (R:=jG c1 tb) (L:=L) (L':=L1) j' o1 hr.2).1 jt;have hx:L1.ρ (jG c1 tb j')=L.ρ id:=hx;rw[hr.1]at hx;have:=dX.heap.inj j' id o1 o (Rl _ _ h1) (qM _ _ hi) aaD Wh hx;subst this;rw[mI,if_pos (l3 _ (aI hi).1)]at h1;cases h1
   ·exact(bU.lT (dX.heap.obj id o (qM _ _ hi)) Wh (by rw[hx];exact hl)).1 _ rfl
   ·exact(bU.lT (dX.heap.obj id o (qM _ _ hi)) Wh (uo.pB _ hx).1).2 _ rfl
   ·obtain⟨lp,⟨q1,_⟩,_⟩:=uo.out _ hx
    exact(bU.lT (dX.heap.obj id o (qM _ _ hi)) Wh q1).1 _ rfl
  ·have h1:=Un i (l3 i (aI hi).1)
   have h2:=Un j (l3 j (aI hj).1);rw[h1.1,h2.1]at he;exact dX.heap.inj i j o p (qM _ _ hi) (qM _ _ hj) ((kb h1.2).1 mf) ((kb h2.2).1 jt) he
  rcases hx with hx|⟨id,o,hi,hb,hx⟩|hx|hx|hx
  ·exact uo.heap.hP x hx
  ·rw[<- hx];exact(uo.heap.obj id o hi).lt hb
  ·rw[hx];exact bP hl
  ·exact bP (uo.pB x hx).1
  ·obtain⟨lp,⟨q1,_⟩,_⟩:=uo.out x hx;exact bP q1
 have eh:=(hf L1).run _ (sG hT Mx My hY Po nW nr JW Wg ⟨SD,SE⟩ A3 hg.ve Wm la ⟨k5,k6⟩ hE) L1 F (#[.func (.yield l) #[] #[]]++lc) W1 EO (by
  show aq (some l) L1 F W1 (.yld::bc) _;refine⟨.func (.yield l) #[] #[],lc.toList,by simp,⟨l,rfl,rfl⟩,aq.iN _ _ l4 (aq.mono qd _ _ (fun i hi=>Un i (l2 i (e9 i bc hi))) j6)⟩)
 refine⟨l,mk.map mark,W1,{ target:=.fn (.func f) lc,args:=#[.func (.yield l) #[] #[]] },W1,f,#[.func (.yield l) #[] #[]]++lc,W1,qa,?_,fun _ _=>trivial,?_,(fun h=>by cases h),?_⟩
 ·simp only[resolve,dV]
  simp[go_sem]
 ·simp[invoke,go_sem,(hf L1).enter]
 refine(gZ eh).mono ?_;rintro en w' ⟨x,rfl,v,h',gs,L',F',⟨iU,hK⟩,hH,hv,tr,jF⟩;simp only[LL,Bool.and_eq_true]at iU;have b1:∀ i∈cB h',i∈lt:=fun i hi=>fX.1 (dJ iU.1 i hi);obtain⟨gg,L2⟩:=gs;obtain⟨i1,i2,i3,i4,i5,i6,i7,i8⟩:=hH.hg;have hnb:(jA base gg).state ≠ .busy:=by cases gg<;>(intro h;cases h)
 have s7:=run_endLoop (P:=P) i2.1 hnb;obtain⟨W4,SA⟩:∃ W4,W4=w'.putObj l (.loop { jA base gg with state:=.exhausted }):=⟨_,rfl⟩;rw[<- SA]at s7;have Lq:Tr F' w' F' W4:=by rw[SA];exact Tr.YD i2.1 (fun _ _ _ h=>by cases h) (fun _ _ h=>by cases h) (fun _ _ _ h=>by cases h)
 have Ox:∀ y,y≠l->W4.heap[y]?=w'.heap[y]?:=fun y hy=>by rw[SA];exact World.putObj_heap_other hy
 have h4:=i1.n5 Lq (fun b hb=>i1.fresh b (Nat.le_trans Lq.size hb)) (fun b hb=>⟨Ox b (by rintro rfl;exact i2.2 hb),rfl⟩) (fun id o hi hb=>⟨Ox _ (fun e=>(bU.lT (i1.obj id o hi) hb (by rw[e];exact i2.1)).1 _ rfl),rfl⟩)
 let L3:Loc:=⟨fun i=>if i∈tb then L2.ρ (jG c1 tb i) else if ba c1 tb.length i then cx.pρ i else L2.ρ i,fun i=>if i∈tb then L2.κ (jG c1 tb i) else if ba c1 tb.length i then cx.pκ i else L2.κ i⟩
 have Q7:∀ i,ba c1 tb.length i=false->L3.ρ i=L2.ρ (jG c1 tb i)/\L3.κ i=L2.κ (jG c1 tb i):=by
  intro i hi;by_cases hm:i∈tb
  ·simp[L3,hm]
  ·simp[L3,hm,hi,je hm]
 have O3:∀ i,i∉tb->L3.ρ (lD c1 tb i)=L2.ρ i/\L3.κ (lD c1 tb i)=L2.κ i:=by
  intro i hi;have:ba c1 tb.length (lD c1 tb i)=false:=by
   cases hr:ba c1 tb.length i with
   | false=>rw[nB hr];exact hr
   | true=>
    rw[eK]at hr;obtain⟨k,hk⟩:∃ k,i=c1+k:=⟨i-c1,by omega⟩;obtain⟨y,hy⟩:∃ y,tb[k]?=some y:=⟨_,List.getElem?_eq_getElem (by omega)⟩;rw[hk,vq hy];exact M5 y (List.mem_of_getElem? hy)
  obtain⟨q1,q2⟩:=Q7 _ this;rw[hud i hi]at q1 q2;exact⟨q1,q2⟩
 have G6:=ri i8;have JU:∀ i∈lt,L3.ρ i=L'.ρ i/\L3.κ i=L'.κ i:=fun i hi=>by
  obtain⟨q1,q2⟩:=Q7 i (l1 i hi).2;rw[je (WT i hi)]at q1 q2;obtain⟨q3,q4⟩:=i6 i (l1 i hi).1;obtain⟨q5,q6⟩:=jF i (l1 i hi).1;exact⟨q1.trans (q3.trans q5.symm),q2.trans (q4.trans q6.symm)⟩
 have hB:a7 cx L3 F' h' (gg.st I) W4:=by
  refine⟨h4.hg,h4.hP,h4.fresh,fun id o hi=>?_,fun id o hi hb=>?_,fun i j o p hi hj mf jt he=>?_⟩
  ·refine bU.mono Lq id o (fun j hj=>JU j (b1 j ((aI hi).2 j (eH j o hj)))) (JU id (b1 id (aI hi).1)) (fun hb=>Ox _ fun e=>?_) (bU.iN o (kZ iU.2 hi) (hH.obj id o hi))
   exact(hH.own id o hi hb).2 (.inr (.inr (.inl e)))
  ·have h3:=JU id (b1 id (aI hi).1)
   have:=hH.own id o hi ((kb h3.2).1 hb);rw[h3.1];exact⟨this.1,fun h=>this.2 (.inl h)⟩
  ·have h1:=JU i (b1 i (aI hi).1)
   have h2:=JU j (b1 j (aI hj).1);rw[h1.1,h2.1]at he;exact hH.inj i j o p hi hj ((kb h1.2).1 mf) ((kb h2.2).1 jt) he
 have uy:Good cx r (mk++m) L3 F' ⟨e,ew (lD c1 tb) (gg.heap I)++h',gg.st I⟩ { aa with defers:=mk.map mark++aa.defers } W4:=by
  refine⟨(h4.oc fun i hi=>O3 i (G6 i hi).2).app hB fun i o j p hi hj mf jt he=>?_,fun t v ht=>?_,?_,fun x hx=>?_,?_,fun l0 h0=>?_,fun i hi=>?_,hg.ve⟩
  ·obtain⟨i',o1,h1,rfl,rfl⟩:=jO hi
   have hr:=O3 i' (G6 i' (aI h1).1).2;have hj3:=JU j (b1 j (aI hj).1);rw[hr.1,hj3.1]at he;exact(hH.own j p hj ((kb hj3.2).1 jt)).2 (.inr (.inl ⟨i',o1,h1,(cE (R:=lD c1 tb) (L:=L2) (L':=L3) i' o1 hr.2).1 mf,he⟩))
  ·obtain⟨x,hx,hr⟩:=i5 t (aJ (lZ (jG c1 tb)) v) (by
    have ht:get e t=some v:=ht;simp only[nh,bY,ht];rfl)
   refine⟨x,hx,br.mono Lq v x (fun _ _=>⟨rfl,rfl⟩) ((br.oc (R:=jG c1 tb) (L:=L3) (L':=L2) v x fun i hi=>?_).1 hr)⟩;obtain⟨q1,q2⟩:=Q7 i (EW i (gw ht hi));exact⟨q1.symm,q2.symm⟩
  ·show mk.map mark++aa.defers=(mk++m).map mark++cx.base
   rw[hg.tZ,List.map_append,List.append_assoc]
  ·obtain⟨q1,q2⟩:=i3 x hx
   exact⟨by rw[Ox x (by rintro rfl;rw[i2.1]at q1;cases q1)];exact q1,q2⟩
  ·rw[List.nodup_append]
   refine⟨vH,hg.xe,fun x hx y hy e=>?_⟩;have h1:=(Rf x hx).1;have h2:=bP (hg.pB y hy).1;omega
  ·obtain⟨lp,⟨q1,q2⟩,q3⟩:=i4 l0 h0
   exact⟨lp,⟨by rw[Ox l0 (by rintro rfl;exact Po h0)];exact q1,q2⟩,q3⟩
  ·have hm:i∉tb:=fun hm=>by have:=E7 i hm;unfold pinned at hi;omega
   cases hr:ba c1 tb.length i with
   | true=>simp[L3,hm,hr]
   | false=>
    obtain⟨q1,q2⟩:=Q7 i hr;rw[je hm]at q1 q2;obtain⟨q3,q4⟩:=i6 i hi;have q5:L1.ρ i=L.ρ i/\L1.κ i=L.κ i:=by
     show L.ρ (lD c1 tb i)=L.ρ i/\L.κ (lD c1 tb i)=L.κ i;rw[nB hr];exact⟨rfl,rfl⟩
    obtain⟨q6,q7⟩:=hg.jF i hi;exact⟨q1.trans (q3.trans (q5.1.trans q6)),q2.trans (q4.trans (q5.2.trans q7))⟩
 have QC:Tr F w F' W4:=Tr.trans qd (Tr.trans tr Lq);refine⟨_,W4,s7,?_⟩
 cases gg with
 | go x=>
  exact .inl ⟨.normal,_,mk++m,L3,F',rfl,hK,uy,QC,rfl⟩
 | done ex hd s'=>
  cases ex with
  | normal=>exact wpIn_skip (.inl ⟨.normal,_,mk++m,L3,F',rfl,hK,uy,QC,rfl⟩)
  | ret=>exact wpIn_ret (.inl ⟨.ret,_,mk++m,L3,F',rfl,hK,uy,QC,rfl⟩)
  | exit i=>exact wpIn_exit (.inl ⟨.exit i,_,mk++m,L3,F',rfl,hK,uy,QC,rfl⟩)
end
end Go.PX
