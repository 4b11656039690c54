import Derived.Test.YtmbefpmbnhdbpaaGreatDoorPxQ
import Derived.Test.YtmbefpmbnhdbpaaGreatDoorPxN
import Derived.Test.YtmbefpmbnhdbpaaGreatDoorPxO
set_option linter.all false
set_option maxRecDepth 10000
namespace Go.PX
open Go.Proofs
theorem MH{g:Nat->Option DO}{i o:Nat}{d:D}(hv:dA g (.ptr i o)=some d):gx g (.ptr i o) = .d d:=by
 simp[gx,hv]
set_option maxHeartbeats 4000000 in
theorem VR(l:aM)(hR:pn l)(wider:Int)(hw:0<=wider/\wider<=1048576)(conf:List Int)(hc:conf.length<1000000):o9 Tryz.prog 107 [.d l.d,.d (i64 wider),.sl 1000000 1 0 conf.length] [(1000000,.arr 1 (.dd (cS conf)))] fun v h'=>v = .d (ew l (bG l wider conf))/\h' = [(1000000,.arr 1 (.dd (cS conf)))]:=by
 intro σ Y st;refine dQ mixed ak Tryz.func107 rfl (ft:=KZ) (args:=[.d l.d,.d (i64 wider),.sl 1000000 1 0 conf.length]) (show nS KZ Tryz.f107 3=true from by decide +kernel) ?_;conv=>whnf
 have wF:=hR.aj;unfold bG;generalize hRES:lV l wider conf 0 l.aj ⟨[],0,[],[]⟩=Nc;have Nf:zB l wider conf 0 ⟨[],0,[],[]⟩:=⟨⟨rfl,fun j c _ hj=>absurd hj (Nat.not_lt_zero j)⟩,fun num r hr=>(by cases hr),fun j m c y num _ _ _ hj=>absurd hj (Nat.not_lt_zero j),fun e he=>(by cases he),fun j c _ hj=>absurd hj (Nat.not_lt_zero j),fun j c n _ _ hj=>absurd hj (Nat.not_lt_zero j),fun j m c x z _ _ hj=>absurd hj (Nat.not_lt_zero j)⟩;refine bx (T:=tys) ak (by exact an mixed ak (by decide +kernel)) l.aj (fun i (x:qw)=>⟨[(2,.sl 1000000 1 0 conf.length),(3,.ptr 3 0),(4,.ptr 4 0),(7,.ptr 7 0),(8,.mp 26),(9,.clo 168 [.ptr 7 0,.ptr 4 0]),(29,.d (bF l.aj)),(30,.d (i64 l.aj.length)),(31,.d (i64 i))],[(3,.box (.dd l.cells)),(4,.box (.dd [i64 wider])),(7,.box (.vv [.ptr 25 0])),(25,.box (.vv [.d (i64 l.near),.d (bF l.aj),.sl 900000 5 0 x.steps.length,.sl 900001 1 0 x.pers.length,.d (i64 x.many)])),(900000,.arr 5 (.dd (aJ x.steps))),(900001,.arr 1 (.dd (cv x.pers))),(26,.map (eJ aD c8.d x.first)),(1000000,.arr 1 (.dd (cS conf)))],st⟩)
  (fun i r x=>lV l wider conf i r x=Nc/\zB l wider conf i x/\x.steps.length<=26*i/\(0<=x.many/\x.many<=9*i)) ⟨[],0,[],[]⟩ ?wk ⟨hRES,Nf,by simp,by simp⟩ ?_ ?_
 case wk=>
  refine(Wk.sL 25 900000 5 [i64 l.near,bF l.aj] [.nils,i64 0] rfl rfl rfl rfl rfl).trans ((Wk.Ku 25 900001 1 [.d (i64 l.near),.d (bF l.aj),.sl 900000 5 0 0] [.d (i64 0)] rfl rfl rfl rfl).trans (Wk.sub (by repeat' first|constructor|simp[PX.get]) (by repeat' first|constructor|simp[PX.get])))
 ·rintro i b r x hx hi wK ⟨uD,hI,jA,uF⟩
  rw[lV]at uD;have hB:=hR.book b (List.mem_of_getElem? hx);have JT:=xq hx hI;generalize hy:pB l wider conf i b x=y at uD JT;unfold pB at hy;conv=>whnf
  refine af (fun _=>?_) (fun h=>absurd hi (by simpa using h));conv=>whnf
  refine aw hx ?_;conv=>whnf
  refine aY (AY l wider hw x.steps (by omega) x.pers x.many (by omega) ⟨i,0⟩ b.off hB.off) [7,4,25,900000,900001] rfl ?lent rfl ?_;case lent=>exact⟨_,_,rfl,bK rfl ⟨⟨rfl,rfl⟩,trivial⟩,_,_,rfl,rfl,_,_,rfl,bK rfl ⟨rfl,rfl,⟨rfl,rfl,rfl,rfl⟩,⟨rfl,rfl,rfl,rfl⟩,rfl,trivial⟩,_,_,rfl,rfl,_,_,rfl,rfl,rfl⟩
  conv=>whnf
  have YN:=Aj hx hI;generalize hER:lD l wider conf i b x.pers 0 b.ar ⟨x.steps++dP wider ⟨i,0⟩ b.off,x.many+1,x.first,⟨i,0⟩,[],[]⟩=ER at hy;simp only at hy;refine bx (T:=tys) ak (by exact an mixed ak (by decide +kernel)) b.ar (fun k (e:CR)=>⟨[(2,.sl 1000000 1 0 conf.length),(3,.ptr 3 0),(4,.ptr 4 0),(7,.ptr 7 0),(8,.mp 26),(9,.clo 168 [.ptr 7 0,.ptr 4 0]),(29,.d (bF l.aj)),(30,.d (i64 l.aj.length)),(31,.d (i64 i)),(10,.d (i64 i)),(11,.ptr 11 0),(12,.ptr 12 0),(13,.sl 55 2 0 e.of.length),(14,.mp 43),(45,.d (kJ b.ar)),(46,.d (i64 b.ar.length)),(47,.d (i64 k))],[(3,.box (.dd l.cells)),(4,.box (.dd [i64 wider])),(7,.box (.vv [.ptr 25 0])),(25,.box (.vv [.d (i64 l.near),.d (bF l.aj),.sl 900000 5 0 e.steps.length,.sl 900001 1 0 x.pers.length,.d (i64 e.many)])),(900000,.arr 5 (.dd (aJ e.steps))),(900001,.arr 1 (.dd (cv x.pers))),(26,.map (eJ aD c8.d e.first)),(11,.box (.dd b.cells)),(12,.box (.dd e.now.cells)),(43,.map (eJ aD aD e.mine)),(55,.arr 2 (.dd (cF e.of))),(1000000,.arr 1 (.dd (cS conf)))],st⟩)
   (fun k r e=>Bo l wider conf i k b x.pers e/\lD l wider conf i b x.pers k r e=ER/\e.steps.length<=26*i+2+3*k/\(0<=e.many/\e.many<=9*i+1+k) /\ ∀ num,(bD e.mine num).getD 0<=k) ⟨x.steps++dP wider ⟨i,0⟩ b.off,x.many+1,x.first,⟨i,0⟩,[],[]⟩ ?wk2 ⟨YN,hER,by simp[dP];omega,by simp only;omega,fun num=>by show(0:Int)<=_;omega⟩ ?_ ?_
  case wk2=>
   refine(Wk.born 13 55 2 rfl rfl rfl).trans ((Wk.move 102688 900000 rfl rfl).trans (Wk.sub (by repeat' first|constructor|simp[PX.get]) (by repeat' first|constructor|simp[PX.get])))
  ·rintro k y r e I1 hk hr3 ⟨hE,fe,zz,Zk,BY⟩
   rw[lD]at fe;have lI:=BG hI.pers.2 hx I1 hE;generalize bU:vZ l wider conf i b x.pers k y e=e2 at fe lI;unfold vZ at bU;simp only at bU;have YS:=MR hx I1 hE;generalize hST:(if k=0 then e.steps else e.steps ++ [(⟨((e.of ++ [e.now])[k-1]?).getD .right,e.now,y.shown-((b.ar[k-1]?).getD ⟨0,0,.empty,0⟩).shown⟩:cc)])=ST at bU YS;conv=>whnf
   refine af (fun _=>?_) (fun h=>absurd hk (by simpa using h));conv=>whnf
   refine aw I1 ?_;conv=>whnf
   refine ag rfl ?_;conv=>whnf
   have LA:e.of.length=k:=by rw[hE.of];simp
   have hk8:k<8:=by have:=hB.ar;omega
   have hy0:=hB.fG y (List.mem_of_getElem? I1);refine ag (by simp[aK.len,cF]) ?_;conv=>whnf
   refine aQ (decide_eq_true (by
    show((cF e.of).length+1)*16<=140737488355328;have:=hB.ar;simp[cF];omega)) ?_
   conv=>whnf
   refine af (fun h1=>?_) (fun h1=>?_)
   ·have h1:0<k:=by have:=of_decide_eq_true h1;omega
    conv=>whnf
    refine ao ((k-1:Nat):Int) (by omega) (wrap_i64 (by omega)) ?_;conv=>whnf
    obtain⟨z,hz⟩:∃ z,b.ar[k-1]?=some z:=⟨_,List.getElem?_eq_getElem (by omega)⟩;have Xm:=hB.fG z (List.mem_of_getElem? hz);have Lz:(e.of ++ [e.now])[k-1]?=some ⟨i,bE b (k-1)⟩:=by
     rw[List.getElem?_append_left (by omega),hE.of,List.getElem?_map,List.getElem?_range (by omega)];rfl
    refine af (fun _=>?_) (fun h=>absurd h (by
     show ¬ ((decide (0<=((k-1:Nat):Int))&&decide (((k-1:Nat):Int)<(((cF e.of).length+1:Nat):Int)))=false);simp[cF,LA];omega))
    conv=>whnf
    refine cD (ck.cells ⟨i,bE b (k-1)⟩) (by
     show(cF e.of ++ [e.now.cells])[0+((k-1:Nat):Int).toNat]?=_;have:cF e.of ++ [e.now.cells]=cF (e.of ++ [e.now]):=by simp[cF]
     rw[this,Int.toNat_natCast,Nat.zero_add];unfold cF;rw[List.getElem?_map,Lz];rfl) ?_
    conv=>whnf
    refine ao ((k-1:Nat):Int) (by omega) (wrap_i64 (by omega)) ?_;conv=>whnf
    refine bh z.cells ⟨by omega,by rw[Int.toNat_natCast,List.getElem?_map,hz];rfl⟩ ?_;conv=>whnf
    refine ae (wrap_i64 (by(try dsimp only);omega)) ?_;conv=>whnf
    refine ag rfl ?_;conv=>whnf
    refine ag (by simp[aK.len,aJ]) ?_;conv=>whnf
    refine aQ (decide_eq_true (by
     show((aJ e.steps).length+1)*40<=140737488355328;simp[aJ];omega)) ?_
    conv=>whnf
    rw[if_neg (by omega),Lz,hz]at hST;simp only[Option.getD_some]at hST;refine dO.Nw ?_;refine ai (zS y) rfl rfl ?_;refine⟨⟨[(2,.sl 1000000 1 0 conf.length),(3,.ptr 3 0),(4,.ptr 4 0),(7,.ptr 7 0),(8,.mp 26),(9,.clo 168 [.ptr 7 0,.ptr 4 0]),(29,.d (bF l.aj)),(30,.d (i64 l.aj.length)),(31,.d (i64 i)),(10,.d (i64 i)),(11,.ptr 11 0),(12,.ptr 12 0),(13,.sl 55 2 0 (e.of ++ [e.now]).length),(14,.mp 43),(15,.d (i64 k)),(16,.ptr 16 0),(45,.d (kJ b.ar)),(46,.d (i64 b.ar.length)),(47,.d (i64 k)),(85,.d (bL y))],[(3,.box (.dd l.cells)),(4,.box (.dd [i64 wider])),(7,.box (.vv [.ptr 25 0])),(25,.box (.vv [.d (i64 l.near),.d (bF l.aj),.sl 900000 5 0 ST.length,.sl 900001 1 0 x.pers.length,.d (i64 e.many)])),(900000,.arr 5 (.dd (aJ ST))),(900001,.arr 1 (.dd (cv x.pers))),(26,.map (eJ aD c8.d e.first)),(11,.box (.dd b.cells)),(12,.box (.dd e.now.cells)),(16,.box (.dd y.cells)),(43,.map (eJ aD aD e.mine)),(55,.arr 2 (.dd (cF (e.of ++ [e.now])))),(1000000,.arr 1 (.dd (cS conf)))],st⟩,(Wk.move 81 900000 rfl rfl).trans (Wk.sub ⟨rfl,rfl,rfl,rfl,rfl,rfl,rfl,rfl,rfl,rfl,rfl,rfl,?_,rfl,rfl,rfl,rfl,rfl,rfl,rfl,trivial⟩ ⟨rfl,rfl,rfl,?_,?_,rfl,rfl,rfl,rfl,rfl,rfl,?_,rfl,trivial⟩),?_⟩
    ·show some (V.sl 55 2 0 ((cF e.of).length+1))=_
     simp[cF]
    ·show some (Obj.box (Cells.vv [.d (i64 l.near),.d (bF l.aj),.sl 900000 5 0 ((aJ e.steps).length+1),.sl 900001 1 0 x.pers.length,.d (i64 e.many)]))=_
     rw[<- hST];simp[aJ]
    ·rw[<- hST]
     show some (Obj.arr 5 (aK.dd (aJ e.steps ++ [[i64 i,i64 (bE b (k-1):Nat),i64 e.now.book,i64 e.now.n,i64 (y.shown-z.shown)]])))=_;unfold aJ;rw[List.map_append];rfl
    ·show some (Obj.arr 2 (aK.dd (cF e.of ++ [e.now.cells])))=_
     simp[cF]
    have RJ:ST.length<=e.steps.length+1:=by rw[<- hST];simp
    by_cases h2:y.kind=2
    ·rw[if_pos h2]at bU
     have ht:bL y = .ifc 288 (.agg []):=by unfold bL;rw[if_neg (by omega),if_pos h2]
     rw[ht];have U5:=l5 b k;have Z7:=nN b;have Ht:=hB.ar;have IU:e.now.n=(bE b k:Nat):=by rw[hE.now]
     conv=>whnf
     refine ae (wrap_i64 (by(try dsimp only);omega)) ?_;conv=>whnf
     refine aY (AY l wider hw ST (by omega) x.pers e.many (by omega) ⟨e.now.book,e.now.n+1⟩ b.set hB.set) [7,4,25,900000,900001] rfl ?lent rfl ?_;case lent=>exact⟨_,_,rfl,bK rfl ⟨⟨rfl,rfl⟩,trivial⟩,_,_,rfl,rfl,_,_,rfl,bK rfl ⟨rfl,rfl,⟨rfl,rfl,rfl,rfl⟩,⟨rfl,rfl,rfl,rfl⟩,rfl,trivial⟩,_,_,rfl,rfl,_,_,rfl,rfl,rfl⟩
     conv=>whnf
     refine ae (wrap_i64 (by(try dsimp only);omega)) ?_;conv=>whnf
     subst bU;refine⟨_,⟨lI,fe,?_,?_,fun num=>by have:=BY num;simp only;omega⟩,?_⟩
     ·simp[dP];omega
     ·simp only;omega
     ·exact(Wk.move 106208 900000 rfl rfl).trans (Wk.sub ⟨rfl,rfl,rfl,rfl,rfl,rfl,rfl,rfl,rfl,rfl,rfl,rfl,rfl,rfl,rfl,rfl,rfl,trivial⟩ ⟨rfl,rfl,rfl,rfl,rfl,rfl,rfl,rfl,rfl,rfl,rfl,rfl,trivial⟩)
    ·rw[if_neg h2]at bU
     by_cases h3:y.kind=3
     ·rw[if_pos h3]at bU
      have ht:bL y = .ifc 228 (.agg [.str y.word,i64 y.number]):=by unfold bL;rw[if_neg (by omega),if_neg h2,if_pos h3]
      rw[ht];have uF:=BY y.number;have Lv:=(hE.mine y.number).1;generalize hN:(bD e.mine y.number).getD 0=N at bU uF Lv;have gQ:∀ num,(bD (cH e.mine y.number (N+1)) num).getD 0<=((k+1:Nat):Int):=fun num=>by
       rw[dw];split
       ·simp only[Option.getD_some];omega
       ·have:=BY num;omega
      conv=>whnf
      cases td:bD e.mine y.number with
      | none=>
       have Ft:N=0:=by rw[<- hN,td];rfl
       have zL:=cr (kd:=aD) (vd:=aD) (N+1) td;refine⟨none,aP (kd:=aD) aO td 0,?_⟩;conv=>whnf
       refine ao (N+1) (by omega) (wrap_i64 (by omega)) ?_;conv=>whnf
       refine⟨none,aP (kd:=aD) aO td 0,?_⟩;conv=>whnf
       have lN:eJ aD aD e.mine ++ [(i64 y.number,i64 (N+1))]=eJ aD aD (cH e.mine y.number (N+1)):=zL;rw[lN];obtain⟨iz,_,AL,_⟩:=a8 (kd:=aD) (vd:=aD) aO (show bD (cH e.mine y.number (N+1)) y.number=some (N+1) by rw[dw,if_pos rfl]) 0;refine⟨_,AL,?_⟩;conv=>whnf
       refine af (fun h5=>?_) (fun h5=>?_)
       ·have h5:1<N+1:=of_decide_eq_true h5
        rw[if_pos (.inl (by omega))]at bU;conv=>whnf
        refine ae (wrap_i64 (by(try dsimp only);omega)) ?_;conv=>whnf
        subst bU;exact⟨_,⟨lI,fe,by simp only;omega,by simp only;omega,gQ⟩,(Wk.sub ⟨rfl,rfl,rfl,rfl,rfl,rfl,rfl,rfl,rfl,rfl,rfl,rfl,rfl,rfl,rfl,rfl,rfl,trivial⟩ ⟨rfl,rfl,rfl,rfl,rfl,rfl,rfl,rfl,rfl,rfl,rfl,rfl,trivial⟩)⟩
       ·have h5:¬ 1<N+1:=of_decide_eq_false h5
        conv=>whnf
        refine aB (ds:=[ax conf,i64 y.number]) (Dj conf y.number (by omega)) rfl 1 (az (bH rfl (by simp[cS])) rfl) ?_;conv=>whnf
        refine af (fun h6=>?_) (fun h6=>?_)
        ·have h6:y.number∈conf:=of_decide_eq_true h6
         rw[if_pos (.inr h6)]at bU;conv=>whnf
         refine ae (wrap_i64 (by(try dsimp only);omega)) ?_;conv=>whnf
         subst bU;exact⟨_,⟨lI,fe,by simp only;omega,by simp only;omega,gQ⟩,(Wk.sub ⟨rfl,rfl,rfl,rfl,rfl,rfl,rfl,rfl,rfl,rfl,rfl,rfl,rfl,rfl,rfl,rfl,rfl,trivial⟩ ⟨rfl,rfl,rfl,rfl,rfl,rfl,rfl,rfl,rfl,rfl,rfl,rfl,trivial⟩)⟩
        ·have h6:¬ y.number∈conf:=of_decide_eq_false h6
         rw[if_neg (fun h=>h.elim (fun h=>h5 (by omega)) h6)]at bU;conv=>whnf
         cases iO:bD e.first y.number with
         | none=>
          rw[iO]at bU;simp only at bU;have FE:=cr (kd:=aD) (vd:=c8.d) (⟨i,k⟩:c8) iO;refine⟨none,aP (kd:=aD) aO iO 0,?_⟩;conv=>whnf
          refine⟨none,aP (kd:=aD) aO iO 0,?_⟩;conv=>whnf
          have rT:eJ aD c8.d e.first ++ [(i64 y.number,c8.d ⟨i,k⟩)]=eJ aD c8.d (cH e.first y.number ⟨i,k⟩):=FE
          refine ae (wrap_i64 (by(try dsimp only);omega)) ?_;conv=>whnf
          subst bU;refine⟨_,⟨lI,fe,by simp only;omega,by simp only;omega,gQ⟩,?_⟩;simp only;rw[<- rT];exact(Wk.sub ⟨rfl,rfl,rfl,rfl,rfl,rfl,rfl,rfl,rfl,rfl,rfl,rfl,rfl,rfl,rfl,rfl,rfl,trivial⟩ ⟨rfl,rfl,rfl,rfl,rfl,rfl,rfl,rfl,rfl,rfl,rfl,rfl,trivial⟩)
         | some r0=>
          rw[iO]at bU;simp only at bU;obtain⟨j0,m0,c0,x0,DI,eE,zt,-,lJ⟩:=hE.fst _ _ iO;obtain⟨iy,_,mw,_⟩:=a8 (kd:=aD) (vd:=c8.d) aO iO 0;refine⟨_,mw,?_⟩;conv=>whnf
          subst DI;have AH:=(List.getElem?_eq_some_iff.1 eE.fG).1;have zI:=(List.getElem?_eq_some_iff.1 eE.book).1;refine bh c0.cells ⟨by show(0:Int)<=((j0:Nat):Int);omega,by show(l.aj.map au.cells)[((j0:Nat):Int).toNat]?=_;rw[Int.toNat_natCast,List.getElem?_map,eE.book];rfl⟩ ?_;conv=>whnf
          refine bh x0.cells ⟨by show(0:Int)<=((m0:Nat):Int);omega,by show(c0.ar.map aW.cells)[((m0:Nat):Int).toNat]?=_;rw[Int.toNat_natCast,List.getElem?_map,eE.fG];rfl⟩ ?_;conv=>whnf
          have B4:=(hR.book c0 (List.mem_of_getElem? eE.book)).fG x0 (List.mem_of_getElem? eE.fG);have CI:j0<i:=by
           rcases lJ with lJ|⟨BX,lJ⟩
           ·exact lJ
           ·have iN:=eE.book
            rw[BX]at iN;have mO:c0=b:=Option.some.inj (iN.symm.trans hx);have h7:=(hE.mine y.number).2.2 ⟨m0,lJ,mO▸zt⟩;rw[hN]at h7;omega
          have wc:=hI.pers.2 j0 c0 eE.book CI;refine ao (y.shown-x0.shown) rfl (wrap_i64 (by omega)) ?_;conv=>whnf
          refine af (fun _=>?_) (fun h=>absurd h (by
           show ¬ ((decide (0<=((j0:Nat):Int))&&decide (((j0:Nat):Int)<((x.pers.length:Nat):Int)))=false);have:=hI.pers.1;simp;omega))
          conv=>whnf
          refine cD [.vs ((eQ j0 c0).map ck.cells)] (by
           show(cv x.pers)[0+((j0:Nat):Int).toNat]?=_;unfold cv;rw[Int.toNat_natCast,Nat.zero_add,List.getElem?_map,wc];rfl) ?_
          conv=>whnf
          refine bh (ck.cells ⟨j0,(bE c0 m0:Nat)⟩) ⟨by show(0:Int)<=((m0:Nat):Int);omega,by show((eQ j0 c0).map ck.cells)[((m0:Nat):Int).toNat]?=_;rw[Int.toNat_natCast,List.getElem?_map,fD AH];rfl⟩ ?_;conv=>whnf
          refine ao (-(y.shown-x0.shown)) (by omega) (wrap_i64 (by omega)) ?_;conv=>whnf
          refine ag rfl ?_;conv=>whnf
          refine ag (by simp[aK.len,aJ]) ?_;conv=>whnf
          refine aQ (decide_eq_true (by
           show((aJ ST).length+2)*40<=140737488355328;simp[aJ];omega)) ?_
          conv=>whnf
          refine ae (wrap_i64 (by(try dsimp only);omega)) ?_;conv=>whnf
          rw[gZ eE wc,eg eE]at bU;subst bU;refine⟨_,⟨lI,fe,by simp only[List.length_append,List.length_cons,List.length_nil];omega,by simp only;omega,gQ⟩,?_⟩;have FK:∀ p q:cc,aJ (ST ++ [p,q])=aJ ST++aJ [p,q]:=fun p q=>by unfold aJ;rw[List.map_append]
          simp only[FK];refine(Wk.move 174 900000 rfl rfl).trans (Wk.sub ⟨rfl,rfl,rfl,rfl,rfl,rfl,rfl,rfl,rfl,rfl,rfl,rfl,rfl,rfl,rfl,rfl,rfl,trivial⟩ ⟨rfl,rfl,rfl,?_,rfl,rfl,rfl,rfl,rfl,rfl,rfl,rfl,trivial⟩);show some (Obj.box (Cells.vv [.d (i64 l.near),.d (bF l.aj),.sl 900000 5 0 ((aJ ST).length+2),.sl 900001 1 0 x.pers.length,.d (i64 e.many)]))=_;simp[aJ]
      | some n0=>
       have Ft:N=n0:=by rw[<- hN,td];rfl
       obtain⟨ix,_,mf,ub,_⟩:=a8 (kd:=aD) (vd:=aD) aO td 0;refine⟨_,mf,?_⟩;conv=>whnf
       refine ao (N+1) (by rw[Ft]) (wrap_i64 (by omega)) ?_;conv=>whnf
       refine⟨_,mf,?_⟩;conv=>whnf
       have lN:(eJ aD aD e.mine).set (0+ix,aD n0).fst (i64 y.number,i64 (N+1))=eJ aD aD (cH e.mine y.number (N+1)):=by
        show(eJ aD aD e.mine).set (0+ix) _=_;rw[Nat.zero_add];exact ub (N+1)
       rw[lN];obtain⟨iz,_,AL,_⟩:=a8 (kd:=aD) (vd:=aD) aO (show bD (cH e.mine y.number (N+1)) y.number=some (N+1) by rw[dw,if_pos rfl]) 0;refine⟨_,AL,?_⟩;conv=>whnf
       refine af (fun h5=>?_) (fun h5=>?_)
       ·have h5:1<N+1:=of_decide_eq_true h5
        rw[if_pos (.inl (by omega))]at bU;conv=>whnf
        refine ae (wrap_i64 (by(try dsimp only);omega)) ?_;conv=>whnf
        subst bU;exact⟨_,⟨lI,fe,by simp only;omega,by simp only;omega,gQ⟩,(Wk.sub ⟨rfl,rfl,rfl,rfl,rfl,rfl,rfl,rfl,rfl,rfl,rfl,rfl,rfl,rfl,rfl,rfl,rfl,trivial⟩ ⟨rfl,rfl,rfl,rfl,rfl,rfl,rfl,rfl,rfl,rfl,rfl,rfl,trivial⟩)⟩
       ·have h5:¬ 1<N+1:=of_decide_eq_false h5
        conv=>whnf
        refine aB (ds:=[ax conf,i64 y.number]) (Dj conf y.number (by omega)) rfl 1 (az (bH rfl (by simp[cS])) rfl) ?_;conv=>whnf
        refine af (fun h6=>?_) (fun h6=>?_)
        ·have h6:y.number∈conf:=of_decide_eq_true h6
         rw[if_pos (.inr h6)]at bU;conv=>whnf
         refine ae (wrap_i64 (by(try dsimp only);omega)) ?_;conv=>whnf
         subst bU;exact⟨_,⟨lI,fe,by simp only;omega,by simp only;omega,gQ⟩,(Wk.sub ⟨rfl,rfl,rfl,rfl,rfl,rfl,rfl,rfl,rfl,rfl,rfl,rfl,rfl,rfl,rfl,rfl,rfl,trivial⟩ ⟨rfl,rfl,rfl,rfl,rfl,rfl,rfl,rfl,rfl,rfl,rfl,rfl,trivial⟩)⟩
        ·have h6:¬ y.number∈conf:=of_decide_eq_false h6
         rw[if_neg (fun h=>h.elim (fun h=>h5 (by omega)) h6)]at bU;conv=>whnf
         cases iO:bD e.first y.number with
         | none=>
          rw[iO]at bU;simp only at bU;have FE:=cr (kd:=aD) (vd:=c8.d) (⟨i,k⟩:c8) iO;refine⟨none,aP (kd:=aD) aO iO 0,?_⟩;conv=>whnf
          refine⟨none,aP (kd:=aD) aO iO 0,?_⟩;conv=>whnf
          have rT:eJ aD c8.d e.first ++ [(i64 y.number,c8.d ⟨i,k⟩)]=eJ aD c8.d (cH e.first y.number ⟨i,k⟩):=FE
          refine ae (wrap_i64 (by(try dsimp only);omega)) ?_;conv=>whnf
          subst bU;refine⟨_,⟨lI,fe,by simp only;omega,by simp only;omega,gQ⟩,?_⟩;simp only;rw[<- rT];exact(Wk.sub ⟨rfl,rfl,rfl,rfl,rfl,rfl,rfl,rfl,rfl,rfl,rfl,rfl,rfl,rfl,rfl,rfl,rfl,trivial⟩ ⟨rfl,rfl,rfl,rfl,rfl,rfl,rfl,rfl,rfl,rfl,rfl,rfl,trivial⟩)
         | some r0=>
          rw[iO]at bU;simp only at bU;obtain⟨j0,m0,c0,x0,DI,eE,zt,-,lJ⟩:=hE.fst _ _ iO;obtain⟨iy,_,mw,_⟩:=a8 (kd:=aD) (vd:=c8.d) aO iO 0;refine⟨_,mw,?_⟩;conv=>whnf
          subst DI;have AH:=(List.getElem?_eq_some_iff.1 eE.fG).1;have zI:=(List.getElem?_eq_some_iff.1 eE.book).1;refine bh c0.cells ⟨by show(0:Int)<=((j0:Nat):Int);omega,by show(l.aj.map au.cells)[((j0:Nat):Int).toNat]?=_;rw[Int.toNat_natCast,List.getElem?_map,eE.book];rfl⟩ ?_;conv=>whnf
          refine bh x0.cells ⟨by show(0:Int)<=((m0:Nat):Int);omega,by show(c0.ar.map aW.cells)[((m0:Nat):Int).toNat]?=_;rw[Int.toNat_natCast,List.getElem?_map,eE.fG];rfl⟩ ?_;conv=>whnf
          have B4:=(hR.book c0 (List.mem_of_getElem? eE.book)).fG x0 (List.mem_of_getElem? eE.fG);have CI:j0<i:=by
           rcases lJ with lJ|⟨BX,lJ⟩
           ·exact lJ
           ·have iN:=eE.book
            rw[BX]at iN;have mO:c0=b:=Option.some.inj (iN.symm.trans hx);have h7:=(hE.mine y.number).2.2 ⟨m0,lJ,mO▸zt⟩;rw[hN]at h7;omega
          have wc:=hI.pers.2 j0 c0 eE.book CI;refine ao (y.shown-x0.shown) rfl (wrap_i64 (by omega)) ?_;conv=>whnf
          refine af (fun _=>?_) (fun h=>absurd h (by
           show ¬ ((decide (0<=((j0:Nat):Int))&&decide (((j0:Nat):Int)<((x.pers.length:Nat):Int)))=false);have:=hI.pers.1;simp;omega))
          conv=>whnf
          refine cD [.vs ((eQ j0 c0).map ck.cells)] (by
           show(cv x.pers)[0+((j0:Nat):Int).toNat]?=_;unfold cv;rw[Int.toNat_natCast,Nat.zero_add,List.getElem?_map,wc];rfl) ?_
          conv=>whnf
          refine bh (ck.cells ⟨j0,(bE c0 m0:Nat)⟩) ⟨by show(0:Int)<=((m0:Nat):Int);omega,by show((eQ j0 c0).map ck.cells)[((m0:Nat):Int).toNat]?=_;rw[Int.toNat_natCast,List.getElem?_map,fD AH];rfl⟩ ?_;conv=>whnf
          refine ao (-(y.shown-x0.shown)) (by omega) (wrap_i64 (by omega)) ?_;conv=>whnf
          refine ag rfl ?_;conv=>whnf
          refine ag (by simp[aK.len,aJ]) ?_;conv=>whnf
          refine aQ (decide_eq_true (by
           show((aJ ST).length+2)*40<=140737488355328;simp[aJ];omega)) ?_
          conv=>whnf
          refine ae (wrap_i64 (by(try dsimp only);omega)) ?_;conv=>whnf
          rw[gZ eE wc,eg eE]at bU;subst bU;refine⟨_,⟨lI,fe,by simp only[List.length_append,List.length_cons,List.length_nil];omega,by simp only;omega,gQ⟩,?_⟩;have FK:∀ p q:cc,aJ (ST ++ [p,q])=aJ ST++aJ [p,q]:=fun p q=>by unfold aJ;rw[List.map_append]
          simp only[FK];refine(Wk.move 174 900000 rfl rfl).trans (Wk.sub ⟨rfl,rfl,rfl,rfl,rfl,rfl,rfl,rfl,rfl,rfl,rfl,rfl,rfl,rfl,rfl,rfl,rfl,trivial⟩ ⟨rfl,rfl,rfl,?_,rfl,rfl,rfl,rfl,rfl,rfl,rfl,rfl,trivial⟩);show some (Obj.box (Cells.vv [.d (i64 l.near),.d (bF l.aj),.sl 900000 5 0 ((aJ ST).length+2),.sl 900001 1 0 x.pers.length,.d (i64 e.many)]))=_;simp[aJ]
     ·rw[if_neg h3]at bU
      have QQ:y.kind=1:=by omega
      have ht:bL y = .ifc 214 (.agg [.str y.word]):=by unfold bL;rw[if_pos QQ]
      rw[ht];conv=>whnf
      refine ae (wrap_i64 (by(try dsimp only);omega)) ?_;conv=>whnf
      subst bU;exact⟨_,⟨lI,fe,by simp only;omega,by simp only;omega,fun num=>by have:=BY num;simp only;omega⟩,(Wk.sub ⟨rfl,rfl,rfl,rfl,rfl,rfl,rfl,rfl,rfl,rfl,rfl,rfl,rfl,rfl,rfl,rfl,rfl,trivial⟩ ⟨rfl,rfl,rfl,rfl,rfl,rfl,rfl,rfl,rfl,rfl,rfl,rfl,trivial⟩)⟩
   ·have h1:k=0:=by have:=of_decide_eq_false h1;omega
    rw[if_pos h1]at hST;conv=>whnf
    refine dO.Nw ?_;refine ai (zS y) rfl rfl ?_;refine⟨⟨[(2,.sl 1000000 1 0 conf.length),(3,.ptr 3 0),(4,.ptr 4 0),(7,.ptr 7 0),(8,.mp 26),(9,.clo 168 [.ptr 7 0,.ptr 4 0]),(29,.d (bF l.aj)),(30,.d (i64 l.aj.length)),(31,.d (i64 i)),(10,.d (i64 i)),(11,.ptr 11 0),(12,.ptr 12 0),(13,.sl 55 2 0 (e.of ++ [e.now]).length),(14,.mp 43),(15,.d (i64 k)),(16,.ptr 16 0),(45,.d (kJ b.ar)),(46,.d (i64 b.ar.length)),(47,.d (i64 k)),(85,.d (bL y))],[(3,.box (.dd l.cells)),(4,.box (.dd [i64 wider])),(7,.box (.vv [.ptr 25 0])),(25,.box (.vv [.d (i64 l.near),.d (bF l.aj),.sl 900000 5 0 ST.length,.sl 900001 1 0 x.pers.length,.d (i64 e.many)])),(900000,.arr 5 (.dd (aJ ST))),(900001,.arr 1 (.dd (cv x.pers))),(26,.map (eJ aD c8.d e.first)),(11,.box (.dd b.cells)),(12,.box (.dd e.now.cells)),(16,.box (.dd y.cells)),(43,.map (eJ aD aD e.mine)),(55,.arr 2 (.dd (cF (e.of ++ [e.now])))),(1000000,.arr 1 (.dd (cS conf)))],st⟩,Wk.sub ⟨rfl,rfl,rfl,rfl,rfl,rfl,rfl,rfl,rfl,rfl,rfl,rfl,?_,rfl,rfl,rfl,rfl,rfl,rfl,rfl,trivial⟩ ⟨rfl,rfl,rfl,?_,?_,rfl,rfl,rfl,rfl,rfl,rfl,?_,rfl,trivial⟩,?_⟩
    ·show some (V.sl 55 2 0 ((cF e.of).length+1))=_
     simp[cF]
    ·rw[<- hST];rfl
    ·rw[<- hST];rfl
    ·show some (Obj.arr 2 (aK.dd (cF e.of ++ [e.now.cells])))=_
     simp[cF]
    have RJ:ST.length<=e.steps.length+1:=by rw[<- hST];simp
    by_cases h2:y.kind=2
    ·rw[if_pos h2]at bU
     have ht:bL y = .ifc 288 (.agg []):=by unfold bL;rw[if_neg (by omega),if_pos h2]
     rw[ht];have U5:=l5 b k;have Z7:=nN b;have Ht:=hB.ar;have IU:e.now.n=(bE b k:Nat):=by rw[hE.now]
     conv=>whnf
     refine ae (wrap_i64 (by(try dsimp only);omega)) ?_;conv=>whnf
     refine aY (AY l wider hw ST (by omega) x.pers e.many (by omega) ⟨e.now.book,e.now.n+1⟩ b.set hB.set) [7,4,25,900000,900001] rfl ?lent rfl ?_;case lent=>exact⟨_,_,rfl,bK rfl ⟨⟨rfl,rfl⟩,trivial⟩,_,_,rfl,rfl,_,_,rfl,bK rfl ⟨rfl,rfl,⟨rfl,rfl,rfl,rfl⟩,⟨rfl,rfl,rfl,rfl⟩,rfl,trivial⟩,_,_,rfl,rfl,_,_,rfl,rfl,rfl⟩
     conv=>whnf
     refine ae (wrap_i64 (by(try dsimp only);omega)) ?_;conv=>whnf
     subst bU;refine⟨_,⟨lI,fe,?_,?_,fun num=>by have:=BY num;simp only;omega⟩,?_⟩
     ·simp[dP];omega
     ·simp only;omega
     ·exact(Wk.move 106208 900000 rfl rfl).trans (Wk.sub ⟨rfl,rfl,rfl,rfl,rfl,rfl,rfl,rfl,rfl,rfl,rfl,rfl,rfl,rfl,rfl,rfl,rfl,trivial⟩ ⟨rfl,rfl,rfl,rfl,rfl,rfl,rfl,rfl,rfl,rfl,rfl,rfl,trivial⟩)
    ·rw[if_neg h2]at bU
     by_cases h3:y.kind=3
     ·rw[if_pos h3]at bU
      have ht:bL y = .ifc 228 (.agg [.str y.word,i64 y.number]):=by unfold bL;rw[if_neg (by omega),if_neg h2,if_pos h3]
      rw[ht];have uF:=BY y.number;have Lv:=(hE.mine y.number).1;generalize hN:(bD e.mine y.number).getD 0=N at bU uF Lv;have gQ:∀ num,(bD (cH e.mine y.number (N+1)) num).getD 0<=((k+1:Nat):Int):=fun num=>by
       rw[dw];split
       ·simp only[Option.getD_some];omega
       ·have:=BY num;omega
      conv=>whnf
      cases td:bD e.mine y.number with
      | none=>
       have Ft:N=0:=by rw[<- hN,td];rfl
       have zL:=cr (kd:=aD) (vd:=aD) (N+1) td;refine⟨none,aP (kd:=aD) aO td 0,?_⟩;conv=>whnf
       refine ao (N+1) (by omega) (wrap_i64 (by omega)) ?_;conv=>whnf
       refine⟨none,aP (kd:=aD) aO td 0,?_⟩;conv=>whnf
       have lN:eJ aD aD e.mine ++ [(i64 y.number,i64 (N+1))]=eJ aD aD (cH e.mine y.number (N+1)):=zL;rw[lN];obtain⟨iz,_,AL,_⟩:=a8 (kd:=aD) (vd:=aD) aO (show bD (cH e.mine y.number (N+1)) y.number=some (N+1) by rw[dw,if_pos rfl]) 0;refine⟨_,AL,?_⟩;conv=>whnf
       refine af (fun h5=>?_) (fun h5=>?_)
       ·have h5:1<N+1:=of_decide_eq_true h5
        rw[if_pos (.inl (by omega))]at bU;conv=>whnf
        refine ae (wrap_i64 (by(try dsimp only);omega)) ?_;conv=>whnf
        subst bU;exact⟨_,⟨lI,fe,by simp only;omega,by simp only;omega,gQ⟩,(Wk.sub ⟨rfl,rfl,rfl,rfl,rfl,rfl,rfl,rfl,rfl,rfl,rfl,rfl,rfl,rfl,rfl,rfl,rfl,trivial⟩ ⟨rfl,rfl,rfl,rfl,rfl,rfl,rfl,rfl,rfl,rfl,rfl,rfl,trivial⟩)⟩
       ·have h5:¬ 1<N+1:=of_decide_eq_false h5
        conv=>whnf
        refine aB (ds:=[ax conf,i64 y.number]) (Dj conf y.number (by omega)) rfl 1 (az (bH rfl (by simp[cS])) rfl) ?_;conv=>whnf
        refine af (fun h6=>?_) (fun h6=>?_)
        ·have h6:y.number∈conf:=of_decide_eq_true h6
         rw[if_pos (.inr h6)]at bU;conv=>whnf
         refine ae (wrap_i64 (by(try dsimp only);omega)) ?_;conv=>whnf
         subst bU;exact⟨_,⟨lI,fe,by simp only;omega,by simp only;omega,gQ⟩,(Wk.sub ⟨rfl,rfl,rfl,rfl,rfl,rfl,rfl,rfl,rfl,rfl,rfl,rfl,rfl,rfl,rfl,rfl,rfl,trivial⟩ ⟨rfl,rfl,rfl,rfl,rfl,rfl,rfl,rfl,rfl,rfl,rfl,rfl,trivial⟩)⟩
        ·have h6:¬ y.number∈conf:=of_decide_eq_false h6
         rw[if_neg (fun h=>h.elim (fun h=>h5 (by omega)) h6)]at bU;conv=>whnf
         cases iO:bD e.first y.number with
         | none=>
          rw[iO]at bU;simp only at bU;have FE:=cr (kd:=aD) (vd:=c8.d) (⟨i,k⟩:c8) iO;refine⟨none,aP (kd:=aD) aO iO 0,?_⟩;conv=>whnf
          refine⟨none,aP (kd:=aD) aO iO 0,?_⟩;conv=>whnf
          have rT:eJ aD c8.d e.first ++ [(i64 y.number,c8.d ⟨i,k⟩)]=eJ aD c8.d (cH e.first y.number ⟨i,k⟩):=FE
          refine ae (wrap_i64 (by(try dsimp only);omega)) ?_;conv=>whnf
          subst bU;refine⟨_,⟨lI,fe,by simp only;omega,by simp only;omega,gQ⟩,?_⟩;simp only;rw[<- rT];exact(Wk.sub ⟨rfl,rfl,rfl,rfl,rfl,rfl,rfl,rfl,rfl,rfl,rfl,rfl,rfl,rfl,rfl,rfl,rfl,trivial⟩ ⟨rfl,rfl,rfl,rfl,rfl,rfl,rfl,rfl,rfl,rfl,rfl,rfl,trivial⟩)
         | some r0=>
          rw[iO]at bU;simp only at bU;obtain⟨j0,m0,c0,x0,DI,eE,zt,-,lJ⟩:=hE.fst _ _ iO;obtain⟨iy,_,mw,_⟩:=a8 (kd:=aD) (vd:=c8.d) aO iO 0;refine⟨_,mw,?_⟩;conv=>whnf
          subst DI;have AH:=(List.getElem?_eq_some_iff.1 eE.fG).1;have zI:=(List.getElem?_eq_some_iff.1 eE.book).1;refine bh c0.cells ⟨by show(0:Int)<=((j0:Nat):Int);omega,by show(l.aj.map au.cells)[((j0:Nat):Int).toNat]?=_;rw[Int.toNat_natCast,List.getElem?_map,eE.book];rfl⟩ ?_;conv=>whnf
          refine bh x0.cells ⟨by show(0:Int)<=((m0:Nat):Int);omega,by show(c0.ar.map aW.cells)[((m0:Nat):Int).toNat]?=_;rw[Int.toNat_natCast,List.getElem?_map,eE.fG];rfl⟩ ?_;conv=>whnf
          have B4:=(hR.book c0 (List.mem_of_getElem? eE.book)).fG x0 (List.mem_of_getElem? eE.fG);have CI:j0<i:=by
           rcases lJ with lJ|⟨BX,lJ⟩
           ·exact lJ
           ·have iN:=eE.book
            rw[BX]at iN;have mO:c0=b:=Option.some.inj (iN.symm.trans hx);have h7:=(hE.mine y.number).2.2 ⟨m0,lJ,mO▸zt⟩;rw[hN]at h7;omega
          have wc:=hI.pers.2 j0 c0 eE.book CI;refine ao (y.shown-x0.shown) rfl (wrap_i64 (by omega)) ?_;conv=>whnf
          refine af (fun _=>?_) (fun h=>absurd h (by
           show ¬ ((decide (0<=((j0:Nat):Int))&&decide (((j0:Nat):Int)<((x.pers.length:Nat):Int)))=false);have:=hI.pers.1;simp;omega))
          conv=>whnf
          refine cD [.vs ((eQ j0 c0).map ck.cells)] (by
           show(cv x.pers)[0+((j0:Nat):Int).toNat]?=_;unfold cv;rw[Int.toNat_natCast,Nat.zero_add,List.getElem?_map,wc];rfl) ?_
          conv=>whnf
          refine bh (ck.cells ⟨j0,(bE c0 m0:Nat)⟩) ⟨by show(0:Int)<=((m0:Nat):Int);omega,by show((eQ j0 c0).map ck.cells)[((m0:Nat):Int).toNat]?=_;rw[Int.toNat_natCast,List.getElem?_map,fD AH];rfl⟩ ?_;conv=>whnf
          refine ao (-(y.shown-x0.shown)) (by omega) (wrap_i64 (by omega)) ?_;conv=>whnf
          refine ag rfl ?_;conv=>whnf
          refine ag (by simp[aK.len,aJ]) ?_;conv=>whnf
          refine aQ (decide_eq_true (by
           show((aJ ST).length+2)*40<=140737488355328;simp[aJ];omega)) ?_
          conv=>whnf
          refine ae (wrap_i64 (by(try dsimp only);omega)) ?_;conv=>whnf
          rw[gZ eE wc,eg eE]at bU;subst bU;refine⟨_,⟨lI,fe,by simp only[List.length_append,List.length_cons,List.length_nil];omega,by simp only;omega,gQ⟩,?_⟩;have FK:∀ p q:cc,aJ (ST ++ [p,q])=aJ ST++aJ [p,q]:=fun p q=>by unfold aJ;rw[List.map_append]
          simp only[FK];refine(Wk.move 174 900000 rfl rfl).trans (Wk.sub ⟨rfl,rfl,rfl,rfl,rfl,rfl,rfl,rfl,rfl,rfl,rfl,rfl,rfl,rfl,rfl,rfl,rfl,trivial⟩ ⟨rfl,rfl,rfl,?_,rfl,rfl,rfl,rfl,rfl,rfl,rfl,rfl,trivial⟩);show some (Obj.box (Cells.vv [.d (i64 l.near),.d (bF l.aj),.sl 900000 5 0 ((aJ ST).length+2),.sl 900001 1 0 x.pers.length,.d (i64 e.many)]))=_;simp[aJ]
      | some n0=>
       have Ft:N=n0:=by rw[<- hN,td];rfl
       obtain⟨ix,_,mf,ub,_⟩:=a8 (kd:=aD) (vd:=aD) aO td 0;refine⟨_,mf,?_⟩;conv=>whnf
       refine ao (N+1) (by rw[Ft]) (wrap_i64 (by omega)) ?_;conv=>whnf
       refine⟨_,mf,?_⟩;conv=>whnf
       have lN:(eJ aD aD e.mine).set (0+ix,aD n0).fst (i64 y.number,i64 (N+1))=eJ aD aD (cH e.mine y.number (N+1)):=by
        show(eJ aD aD e.mine).set (0+ix) _=_;rw[Nat.zero_add];exact ub (N+1)
       rw[lN];obtain⟨iz,_,AL,_⟩:=a8 (kd:=aD) (vd:=aD) aO (show bD (cH e.mine y.number (N+1)) y.number=some (N+1) by rw[dw,if_pos rfl]) 0;refine⟨_,AL,?_⟩;conv=>whnf
       refine af (fun h5=>?_) (fun h5=>?_)
       ·have h5:1<N+1:=of_decide_eq_true h5
        rw[if_pos (.inl (by omega))]at bU;conv=>whnf
        refine ae (wrap_i64 (by(try dsimp only);omega)) ?_;conv=>whnf
        subst bU;exact⟨_,⟨lI,fe,by simp only;omega,by simp only;omega,gQ⟩,(Wk.sub ⟨rfl,rfl,rfl,rfl,rfl,rfl,rfl,rfl,rfl,rfl,rfl,rfl,rfl,rfl,rfl,rfl,rfl,trivial⟩ ⟨rfl,rfl,rfl,rfl,rfl,rfl,rfl,rfl,rfl,rfl,rfl,rfl,trivial⟩)⟩
       ·have h5:¬ 1<N+1:=of_decide_eq_false h5
        conv=>whnf
        refine aB (ds:=[ax conf,i64 y.number]) (Dj conf y.number (by omega)) rfl 1 (az (bH rfl (by simp[cS])) rfl) ?_;conv=>whnf
        refine af (fun h6=>?_) (fun h6=>?_)
        ·have h6:y.number∈conf:=of_decide_eq_true h6
         rw[if_pos (.inr h6)]at bU;conv=>whnf
         refine ae (wrap_i64 (by(try dsimp only);omega)) ?_;conv=>whnf
         subst bU;exact⟨_,⟨lI,fe,by simp only;omega,by simp only;omega,gQ⟩,(Wk.sub ⟨rfl,rfl,rfl,rfl,rfl,rfl,rfl,rfl,rfl,rfl,rfl,rfl,rfl,rfl,rfl,rfl,rfl,trivial⟩ ⟨rfl,rfl,rfl,rfl,rfl,rfl,rfl,rfl,rfl,rfl,rfl,rfl,trivial⟩)⟩
        ·have h6:¬ y.number∈conf:=of_decide_eq_false h6
         rw[if_neg (fun h=>h.elim (fun h=>h5 (by omega)) h6)]at bU;conv=>whnf
         cases iO:bD e.first y.number with
         | none=>
          rw[iO]at bU;simp only at bU;have FE:=cr (kd:=aD) (vd:=c8.d) (⟨i,k⟩:c8) iO;refine⟨none,aP (kd:=aD) aO iO 0,?_⟩;conv=>whnf
          refine⟨none,aP (kd:=aD) aO iO 0,?_⟩;conv=>whnf
          have rT:eJ aD c8.d e.first ++ [(i64 y.number,c8.d ⟨i,k⟩)]=eJ aD c8.d (cH e.first y.number ⟨i,k⟩):=FE
          refine ae (wrap_i64 (by(try dsimp only);omega)) ?_;conv=>whnf
          subst bU;refine⟨_,⟨lI,fe,by simp only;omega,by simp only;omega,gQ⟩,?_⟩;simp only;rw[<- rT];exact(Wk.sub ⟨rfl,rfl,rfl,rfl,rfl,rfl,rfl,rfl,rfl,rfl,rfl,rfl,rfl,rfl,rfl,rfl,rfl,trivial⟩ ⟨rfl,rfl,rfl,rfl,rfl,rfl,rfl,rfl,rfl,rfl,rfl,rfl,trivial⟩)
         | some r0=>
          rw[iO]at bU;simp only at bU;obtain⟨j0,m0,c0,x0,DI,eE,zt,-,lJ⟩:=hE.fst _ _ iO;obtain⟨iy,_,mw,_⟩:=a8 (kd:=aD) (vd:=c8.d) aO iO 0;refine⟨_,mw,?_⟩;conv=>whnf
          subst DI;have AH:=(List.getElem?_eq_some_iff.1 eE.fG).1;have zI:=(List.getElem?_eq_some_iff.1 eE.book).1;refine bh c0.cells ⟨by show(0:Int)<=((j0:Nat):Int);omega,by show(l.aj.map au.cells)[((j0:Nat):Int).toNat]?=_;rw[Int.toNat_natCast,List.getElem?_map,eE.book];rfl⟩ ?_;conv=>whnf
          refine bh x0.cells ⟨by show(0:Int)<=((m0:Nat):Int);omega,by show(c0.ar.map aW.cells)[((m0:Nat):Int).toNat]?=_;rw[Int.toNat_natCast,List.getElem?_map,eE.fG];rfl⟩ ?_;conv=>whnf
          have B4:=(hR.book c0 (List.mem_of_getElem? eE.book)).fG x0 (List.mem_of_getElem? eE.fG);have CI:j0<i:=by
           rcases lJ with lJ|⟨BX,lJ⟩
           ·exact lJ
           ·have iN:=eE.book
            rw[BX]at iN;have mO:c0=b:=Option.some.inj (iN.symm.trans hx);have h7:=(hE.mine y.number).2.2 ⟨m0,lJ,mO▸zt⟩;rw[hN]at h7;omega
          have wc:=hI.pers.2 j0 c0 eE.book CI;refine ao (y.shown-x0.shown) rfl (wrap_i64 (by omega)) ?_;conv=>whnf
          refine af (fun _=>?_) (fun h=>absurd h (by
           show ¬ ((decide (0<=((j0:Nat):Int))&&decide (((j0:Nat):Int)<((x.pers.length:Nat):Int)))=false);have:=hI.pers.1;simp;omega))
          conv=>whnf
          refine cD [.vs ((eQ j0 c0).map ck.cells)] (by
           show(cv x.pers)[0+((j0:Nat):Int).toNat]?=_;unfold cv;rw[Int.toNat_natCast,Nat.zero_add,List.getElem?_map,wc];rfl) ?_
          conv=>whnf
          refine bh (ck.cells ⟨j0,(bE c0 m0:Nat)⟩) ⟨by show(0:Int)<=((m0:Nat):Int);omega,by show((eQ j0 c0).map ck.cells)[((m0:Nat):Int).toNat]?=_;rw[Int.toNat_natCast,List.getElem?_map,fD AH];rfl⟩ ?_;conv=>whnf
          refine ao (-(y.shown-x0.shown)) (by omega) (wrap_i64 (by omega)) ?_;conv=>whnf
          refine ag rfl ?_;conv=>whnf
          refine ag (by simp[aK.len,aJ]) ?_;conv=>whnf
          refine aQ (decide_eq_true (by
           show((aJ ST).length+2)*40<=140737488355328;simp[aJ];omega)) ?_
          conv=>whnf
          refine ae (wrap_i64 (by(try dsimp only);omega)) ?_;conv=>whnf
          rw[gZ eE wc,eg eE]at bU;subst bU;refine⟨_,⟨lI,fe,by simp only[List.length_append,List.length_cons,List.length_nil];omega,by simp only;omega,gQ⟩,?_⟩;have FK:∀ p q:cc,aJ (ST ++ [p,q])=aJ ST++aJ [p,q]:=fun p q=>by unfold aJ;rw[List.map_append]
          simp only[FK];refine(Wk.move 174 900000 rfl rfl).trans (Wk.sub ⟨rfl,rfl,rfl,rfl,rfl,rfl,rfl,rfl,rfl,rfl,rfl,rfl,rfl,rfl,rfl,rfl,rfl,trivial⟩ ⟨rfl,rfl,rfl,?_,rfl,rfl,rfl,rfl,rfl,rfl,rfl,rfl,trivial⟩);show some (Obj.box (Cells.vv [.d (i64 l.near),.d (bF l.aj),.sl 900000 5 0 ((aJ ST).length+2),.sl 900001 1 0 x.pers.length,.d (i64 e.many)]))=_;simp[aJ]
     ·rw[if_neg h3]at bU
      have QQ:y.kind=1:=by omega
      have ht:bL y = .ifc 214 (.agg [.str y.word]):=by unfold bL;rw[if_pos QQ]
      rw[ht];conv=>whnf
      refine ae (wrap_i64 (by(try dsimp only);omega)) ?_;conv=>whnf
      subst bU;exact⟨_,⟨lI,fe,by simp only;omega,by simp only;omega,fun num=>by have:=BY num;simp only;omega⟩,(Wk.sub ⟨rfl,rfl,rfl,rfl,rfl,rfl,rfl,rfl,rfl,rfl,rfl,rfl,rfl,rfl,rfl,rfl,rfl,trivial⟩ ⟨rfl,rfl,rfl,rfl,rfl,rfl,rfl,rfl,rfl,rfl,rfl,rfl,trivial⟩)⟩
  ·rintro e ⟨hE,fe,zz,Zk,BY⟩
   conv=>whnf
   refine af (fun h=>absurd h (by simp)) (fun _=>?_);conv=>whnf
   refine ag rfl ?_;conv=>whnf
   refine ag (by simp[aK.len,cv]) ?_;conv=>whnf
   have eV:(true && !dF 185 ((aG (cv x.pers) ++ [[V.sl 55 2 0 e.of.length]]).flatten))=true:=by
    rw[eh];rfl
   refine aQ eV ?_;conv=>whnf
   refine aQ (decide_eq_true (by
    show((cv x.pers).length+1)*24<=140737488355328;have:=hI.pers.1;simp[cv];omega)) ?_
   conv=>whnf
   refine fN [55,185] (by
    show bJ ((aG (cv x.pers) ++ [[V.sl 55 2 0 e.of.length]]).flatten)++([185] ++ [])=_;rw[dq];rfl) ?_
   conv=>whnf
   refine ao ((i+1:Nat):Int) (by omega) (wrap_i64 (by omega)) ?_;conv=>whnf
   have fe:e=ER:=fe;subst fe;have LA:e.of.length=b.ar.length:=by rw[hE.of];simp
   refine⟨⟨e.steps,e.many,e.first,x.pers ++ [e.of]⟩,⟨by rw[<- hy]at uD;exact uD,by rw[<- hy]at JT;exact JT,by simp only;have:=hB.ar;omega,by simp only;have:=hB.ar;omega⟩,?_⟩;refine(Wk.iB 1 [55] 185 (sz:=1) (vs:=aG (cv x.pers) ++ [[.sl 55 2 0 e.of.length]]) (ds:=cv x.pers ++ [[.vs (cF e.of)]]) ?_ (dK (dL (az (bH rfl (by simp[cF])) rfl)) _)).trans ((Wk.move 185 900001 rfl rfl).trans (Wk.sub ⟨rfl,rfl,rfl,rfl,rfl,rfl,rfl,rfl,rfl,trivial⟩ ⟨rfl,rfl,rfl,?_,rfl,?_,rfl,rfl,trivial⟩))
   ·rfl
   ·show some (Obj.box (Cells.vv [.d (i64 l.near),.d (bF l.aj),.sl 900000 5 0 e.steps.length,.sl 900001 1 0 ((cv x.pers).length+1),.d (i64 e.many)]))=_
    simp[cv]
   ·show some (Obj.arr 1 (aK.dd (cv x.pers ++ [[.vs (cF e.of)]])))=_
    unfold cv cF;rw[List.map_append];rfl
 ·rintro x ⟨uD,hI,jA,uF⟩
  have uD:x=Nc:=uD;subst uD;conv=>whnf
  refine af (fun h=>absurd h (by simp)) (fun _=>?_);conv=>whnf
  have hv:dA (ek [(25,.box (.vv [.d (i64 l.near),.d (bF l.aj),.sl 900000 5 0 x.steps.length,.sl 900001 1 0 x.pers.length,.d (i64 x.many)])),(900000,.arr 5 (.dd (aJ x.steps))),(900001,.arr 1 (.dd (cv x.pers)))] 2) (.ptr 25 0)=some (ew l x):=
   Bj rfl (ln (a:=[i64 l.near,bF l.aj]) (az (dW (es':=aJ x.steps) rfl rfl (by simp[aJ])) (az (dW (es':=cv x.pers) rfl rfl (by simp[cv])) rfl)))
  refine nY ((Wk.Tn 2 [25,900000,900001]).trans (Wk.sub (e':=dy 0 [.d (ew l x)]) (h':=[(1000000,.arr 1 (.dd (cS conf)))]) ⟨congrArg some (MH hv),trivial⟩ ⟨rfl,trivial⟩)) rfl rfl ?_;exact aC [] [.d (ew l x)] [(1000000,.arr 1 (.dd (cS conf)))] rfl ⟨rfl,trivial⟩ rfl ⟨⟨rfl,rfl⟩,rfl⟩
theorem VX(p:List Int)(hp:p.length<=1000):o9 Tryz.prog 116 [.sl 1000000 1 0 p.length] [(1000000,.arr 1 (.dd (cS p)))] fun v h'=>v = .d (ax p)/\h' = [(1000000,.arr 1 (.dd (cS p)))]:=by
 intro σ Y s;refine dQ mixed ak Tryz.func116 rfl (ft:=Py) (args:=[.sl 1000000 1 0 p.length]) (show nS Py Tryz.f116 1=true from by decide +kernel) ?_;conv=>whnf
 refine⟨fun b hb=>?_⟩
 cases b with
 | true=>
  have wb:p = []:=by
   cases p with
   | nil=>rfl
   | cons a r=>exact absurd (hb (by simp)) (by simp)
  subst wb;conv=>whnf
  refine gy ?_;exact aC [] [.d (.vs [])] [(1000000,.arr 1 (.dd (cS [])))] rfl ⟨rfl,trivial⟩ rfl ⟨⟨rfl,rfl⟩,rfl⟩
 | false=>
  have rR:(cS p).length=p.length:=by simp[cS]
  conv=>whnf
  refine ag (by simp[aK.len,cS]) ?_;conv=>whnf
  refine ag rfl ?_;conv=>whnf
  refine aQ (by
   show(mz 1 (p.map fun n=>[i64 n])&&true)=true;rw[vz (fun x=>⟨rfl,rfl⟩)];rfl) ?_
  conv=>whnf
  refine aQ (decide_eq_true (by
   show(0+(cS p).length)*8<=140737488355328;omega)) ?_
  conv=>whnf
  refine nY ((Wk.Tn 1 [7]).trans (Wk.sub (e':=dy 0 [.d (ax p)]) (h':=[(1000000,.arr 1 (.dd (cS p)))]) ⟨congrArg some (H2 (dW (es':=cS p) rfl rfl (by simp[aK.len,rR]))),trivial⟩ ⟨rfl,trivial⟩)) rfl rfl ?_;exact aC [] [.d (ax p)] [(1000000,.arr 1 (.dd (cS p)))] rfl ⟨rfl,trivial⟩ rfl ⟨⟨rfl,rfl⟩,rfl⟩
theorem LU(x:List Int):R6 (vw x).1 (vw x).2=true:=by
 have h:oT (.arr 1 (.dd (cS x)))=true:=by
  simp only[oT,aK.bm];rw[dt];exact sq _
 show(sI (br 1000000 64) [1000000]&&sI (br 1000000 64) [1000000]&&(jw [.sl 1000000 1 0 x.length]&&(oT (.arr 1 (.dd (cS x)))&&true)))=true;rw[h];rfl
theorem Gz(l:aM):(wU l).length<=100:=by
 unfold wU;refine Nat.le_trans (List.length_filter_le _ _) ?_;simp
theorem I6{of:List Int}{q:List Int}(h:q∈yD of):q.length<=of.length:=by
 unfold yD at h;obtain⟨n,hn,h⟩:=List.mem_flatMap.1 h;have:=I5 h;rw[List.mem_range'_1]at hn;omega
set_option maxHeartbeats 4000000 in
theorem aaj(l:aM):bq Tryz.prog 48 [l.d] (.tup [ax (G9 l).1,i64 (G9 l).2]):=by
 unfold G9;refine aI mixed ak Tryz.func48 rfl (ft:=Yl) 1 (by decide +kernel) (by rfl) fun {σ} Y st=>?_;conv=>whnf
 by_cases hc:bB l=0
 ·rw[if_pos hc]
  have hR:=fk hc;have wF:=hR.aj;refine ai (kN l 0 0 0 (jJ hc)) rfl rfl ?_;conv=>whnf
  refine qv (VW l hR Y st) [] rfl rfl rfl rfl ?_;rintro v h1 s' ⟨⟨rfl,m1,m2,hC,rfl⟩,rfl⟩;refine⟨rfl,?_⟩;conv=>whnf
  generalize hS:wU l=S;refine dh (T:=tys) ak (by exact an mixed ak (by decide +kernel)) (α:=Nat×List Int) (fun z=>⟨[(1,.ptr 1 0),(2,.ptr 2 0),(3,.ptr 3 0),(7,.d (.mv (eJ aD aD m1))),(9,.sl 38 1 0 z.2.length),(28,.d (i64 z.1))],[(1,.box (.dd l.cells)),(2,.box (.dd [.nils])),(3,.box (.dd [i64 0])),(38,.arr 1 (.dd (cS z.2)))],s'⟩) (fun z=>z.1<=100/\z.2.length<=z.1/\z.2++(((List.range' z.1 (100-z.1)).map fun(n:Nat)=>(n:Int)).filter fun n=>decide (1<B5 l n))=S) (fun z=>100-z.1) (0,[]) ?_ ⟨by simp,by simp,hS⟩ ?_
  ·exact(Wk.born 9 38 1 rfl rfl rfl).trans (Wk.sub (by repeat' first|constructor|simp[PX.get]) (by repeat' first|constructor|simp[PX.get]))
  rintro ⟨n,acc⟩ ⟨hn,pf,dn⟩;simp only at hn pf dn;conv=>whnf
  refine af (fun h1=>?_) (fun h1=>?_)
  ·have h1:n<100:=by have:=of_decide_eq_true h1;simp only at this;omega
   obtain⟨m,zx⟩:∃ m,100-n=m+1:=⟨99-n,by omega⟩;have FC:100-(n+1)=m:=by omega
   rw[zx,List.range'_succ,List.map_cons,List.filter_cons]at dn;have fF:eF m1 n=(B5 l n:Nat):=hC.Xp n;have mX:¬ 1<B5 l n->acc++((List.range' (n+1) m).map fun(n:Nat)=>(n:Int)).filter (fun n=>decide (1<B5 l n))=S:=fun h=>by rw[if_neg (by simpa using h)]at dn;exact dn
   conv=>whnf
   cases hg:bD m1 n with
   | none=>
    have h0:B5 l n=0:=by unfold eF at fF;rw[hg]at fF;simp only[Option.getD_none]at fF;omega
    refine⟨none,aP (kd:=aD) aO hg 0,?_⟩;conv=>whnf
    refine ao (((n+1:Nat):Int)) (by(try dsimp only);omega) (wrap_i64 (by(try dsimp only);omega)) ?_;conv=>whnf
    exact⟨(n+1,acc),by simp only;omega,⟨by simp only;omega,by simp only;omega,by simp only;rw[FC];exact mX (by omega)⟩,(Wk.sub (by repeat' first|constructor|simp[PX.get]) (by repeat' first|constructor|simp[PX.get]))⟩
   | some v=>
    have h0:(B5 l n:Int)=v:=by unfold eF at fF;rw[hg]at fF;simp only[Option.getD_some]at fF;omega
    obtain⟨ix,_,mf,_⟩:=a8 (kd:=aD) (vd:=aD) aO hg 0;refine⟨_,mf,?_⟩;conv=>whnf
    refine af (fun h2=>?_) (fun h2=>?_)
    ·have h2:1<v:=of_decide_eq_true h2
     rw[if_pos (by simp;omega)]at dn;conv=>whnf
     refine ag rfl ?_;conv=>whnf
     refine ag (by simp[aK.len,cS]) ?_;conv=>whnf
     refine aQ (decide_eq_true (by
      show((cS acc).length+1)*8<=140737488355328;simp[cS];omega)) ?_
     conv=>whnf
     refine ao (((n+1:Nat):Int)) (by(try dsimp only);omega) (wrap_i64 (by(try dsimp only);omega)) ?_;conv=>whnf
     refine⟨(n+1,acc ++ [(n:Int)]),by simp only;omega,⟨by simp only;omega,by simp only[List.length_append,List.length_singleton];omega,by simp only;rw[FC,List.append_assoc];exact dn⟩,Wk.sub ⟨rfl,rfl,rfl,rfl,?_,rfl,trivial⟩ ⟨rfl,rfl,rfl,?_,trivial⟩⟩
     ·show some (V.sl 38 1 0 ((cS acc).length+1))=_
      simp[cS]
     ·show some (Obj.arr 1 (.dd (cS acc ++ [[i64 n]])))=_
      simp[cS]
    ·have h2:¬ 1<v:=of_decide_eq_false h2
     conv=>whnf
     refine ao (((n+1:Nat):Int)) (by(try dsimp only);omega) (wrap_i64 (by(try dsimp only);omega)) ?_;conv=>whnf
     exact⟨(n+1,acc),by simp only;omega,⟨by simp only;omega,by simp only;omega,by simp only;rw[FC];exact mX (by omega)⟩,(Wk.sub (by repeat' first|constructor|simp[PX.get]) (by repeat' first|constructor|simp[PX.get]))⟩
  ·have h1:¬ n<100:=by have:=of_decide_eq_false h1;simp only at this;omega
   rw[show 100-n=0 by omega]at dn;have dn:acc=S:=by simpa using dn
   subst dn;have hSl:acc.length<=100:=by rw[<- hS];exact Gz l
   conv=>whnf
   refine gp (ds:=[ax acc]) (aax acc) 1 [38] (az (bH rfl (by simp[cS])) rfl) rfl ?_;conv=>whnf
   refine iK.wk (st':=⟨[(1,.ptr 1 0),(2,.ptr 2 0),(3,.ptr 3 0),(41,.d (.clo 171 [.ref [ax acc]]))],[(1,.box (.dd l.cells)),(2,.box (.dd [.nils])),(3,.box (.dd [i64 0]))],s'⟩) (Wk.sub ⟨rfl,rfl,rfl,rfl,trivial⟩ ⟨rfl,rfl,rfl,trivial⟩) ?_;refine fV ak (by exact an mixed ak (by decide +kernel)) (by exact an mixed ak (by decide +kernel)) rfl 1500000 1600000 [1,2,3] (by exact JS acc (by omega))
    (fun(_:Unit)=>([(1500000,.box (.dd l.cells)),(1500001,.box (.dd [.nils])),(1500002,.box (.dd [i64 0]))],s'))
    (fun rest _=>(∀ p∈rest,p.length<=100)/\(yD acc).find? (gK l 0)=rest.find? (gK l 0)) () rfl rfl rfl ⟨fun p hp=>by have:=I6 hp;omega,rfl⟩ ?_ ?_
   ·rintro p rest _ ⟨ua,he⟩ Q yd hQ
    refine⟨⟨rfl,LU _⟩,?_⟩;have hp:=ua p (by simp);rw[List.find?_cons]at he;conv=>whnf
    refine aY (VR l hR 0 (by omega) p (by omega)) [1600000] rfl ⟨_,_,rfl,rfl,rfl⟩ rfl ?_;conv=>whnf
    refine ai (Cj) rfl rfl ?_;conv=>whnf
    obtain⟨m,hm⟩:=HY l hR 0 (by omega) p;refine ai (ds:=[ew l (bG l 0 p),ck.right.d]) hm rfl rfl ?_
    cases hf:gK l 0 p with
    | true=>
     rw[hf]at he;simp only at he;conv=>whnf
     refine aY (VX p (by omega)) [1600000] rfl ⟨_,_,rfl,rfl,rfl⟩ rfl ?_;conv=>whnf
     refine⟨[(1500000,.box (.dd l.cells)),(1500001,.box (.dd [ax p])),(1500002,.box (.dd [i64 0]))],s',(Wk.sub trivial (by repeat' first|constructor|simp[PX.get])),rfl,hQ _ _ _ ?_⟩;rw[he];conv=>whnf
     exact ab 0 rfl ⟨⟨rfl,rfl⟩,rfl⟩
    | false=>
     rw[hf]at he;simp only at he;conv=>whnf
     exact⟨(),(Wk.sub trivial (by repeat' first|constructor|simp[PX.get])),rfl,yd () ⟨fun q hq=>ua q (by simp[hq]),he⟩⟩
   ·rintro _ ⟨_,he⟩
    rw[List.find?_nil]at he;rw[he];conv=>whnf
    refine gy ?_;exact ab 0 rfl ⟨⟨rfl,rfl⟩,rfl⟩
 ·rw[if_neg hc]
  refine ai (kN l _ _ _ (jI l)) rfl rfl ?_;conv=>whnf
  generalize bB l=E at hc;refine af (fun _=>?_) (fun h=>absurd hc (by simpa using h));conv=>whnf
  refine gy ?_;exact ab 0 rfl ⟨⟨rfl,rfl⟩,rfl⟩
end Go.PX
namespace Go.PX
open Go.Proofs
open Go.RowKit
deriving instance DecidableEq for aW
deriving instance DecidableEq for au
deriving instance DecidableEq for aM
theorem aai(a b:List c8)(ha:a.length<1000000):bq Tryz.prog 55 [oa a,oa b] (.bool (decide (a=b))):=by
 refine aI mixed ak Tryz.func55 rfl (ft:=Yr) 2 (by decide +kernel) (by rfl) fun {σ} Y st=>?_;conv=>whnf
 refine af (fun h0=>?_) (fun h0=>?_)
 ·have h0:a.length≠b.length:=by
   intro e;simp[e]at h0
  conv=>whnf
  rw[decide_eq_false (by rintro rfl;exact h0 rfl)];exact ab 0 rfl ⟨⟨rfl,rfl⟩,rfl⟩
 ·have h0:a.length=b.length:=by
   have:=h0;simp at this;omega
  conv=>whnf
  refine dh (T:=tys) ak (by exact an mixed ak (by decide +kernel)) (α:=Nat) (fun i=>⟨[(0,.d (oa a)),(1,.d (oa b)),(5,.d (i64 i))],[],st⟩) (fun i=>i<=a.length/\a.take i=b.take i) (fun i=>a.length-i) 0
   (Wk.sub ⟨rfl,rfl,rfl,trivial⟩ trivial) (by simp) ?_
  rintro i ⟨hi,he⟩;conv=>whnf
  refine af (fun hc=>?_) (fun hc=>?_)
  ·have hc:i<a.length:=by simpa using hc
   have pb:i<b.length:=by omega
   conv=>whnf
   refine bh a[i].cells (by simp[hc]) ?_;conv=>whnf
   refine bh b[i].cells (by simp[pb]) ?_;conv=>whnf
   refine af (fun h1=>?_) (fun h1=>?_)
   ·conv=>whnf
    have h1:a[i]≠b[i]:=by
     intro e;rw[e]at h1;simp at h1
    rw[decide_eq_false (by rintro rfl;exact h1 rfl)];exact ab 0 rfl ⟨⟨rfl,rfl⟩,rfl⟩
   ·have h1:a[i]=b[i]:=by
     cases hx:a[i]with
     | mk x y=>
      cases hy:b[i]with
      | mk u v=>
       rw[hx,hy]at h1;simpa using h1
    refine ae (wrap_i64 (by(try dsimp only);omega)) ?_;conv=>whnf
    exact⟨i+1,by omega,⟨hc,by rw[List.take_succ_eq_append_getElem hc,List.take_succ_eq_append_getElem pb,he,h1]⟩,Wk.sub ⟨rfl,rfl,rfl,trivial⟩ trivial⟩
  ·have hc:¬ i<a.length:=by simpa using hc
   conv=>whnf
   rw[List.take_of_length_le (by omega),List.take_of_length_le (by omega)]at he;rw[decide_eq_true he];exact ab 0 rfl ⟨⟨rfl,rfl⟩,rfl⟩
structure SY(l:aM):Prop where
 aj:l.aj.length<1000000
 ar:∀ b∈l.aj,b.ar.length<1000000
set_option maxHeartbeats 4000000 in
theorem aan(a b:aM)(ha:SY a):bq Tryz.prog 56 [a.d,b.d] (.bool (decide (a=b))):=by
 refine aI mixed ak Tryz.func56 rfl (ft:=Ys) 2 (by decide +kernel) (by rfl) fun {σ} Y st=>?_;conv=>whnf
 have zx:=ha.aj;refine af (fun h0=>?_) (fun h0=>?_)
 ·have h0:a.near≠b.near:=by
   intro e;simp[e]at h0
  conv=>whnf
  rw[decide_eq_false (by rintro rfl;exact h0 rfl)];exact ab 0 rfl ⟨⟨rfl,rfl⟩,rfl⟩
 have B0:a.near=b.near:=by simpa using h0
 conv=>whnf
 refine af (fun h0=>?_) (fun h0=>?_)
 ·have h0:a.aj.length≠b.aj.length:=by
   intro e;simp[e]at h0
  conv=>whnf
  rw[decide_eq_false (by rintro rfl;exact h0 rfl)];exact ab 0 rfl ⟨⟨rfl,rfl⟩,rfl⟩
 have AH:a.aj.length=b.aj.length:=by
  have:=h0;simp at this;omega
 conv=>whnf
 refine dh (T:=tys) ak (by exact an mixed ak (by decide +kernel)) (α:=Nat) (fun i=>⟨[(2,.ptr 2 0),(3,.ptr 3 0),(5,.d (i64 i))],[(2,.box (.dd a.cells)),(3,.box (.dd b.cells))],st⟩) (fun i=>i<=a.aj.length/\a.aj.take i=b.aj.take i) (fun i=>a.aj.length-i) 0
  (Wk.sub (by repeat' first|constructor|simp[PX.get]) (by repeat' first|constructor|simp[PX.get])) (by simp) ?_
 rintro i ⟨hi,he⟩;conv=>whnf
 refine af (fun hc=>?_) (fun hc=>?_)
 ·have hc:i<a.aj.length:=by simpa using hc
  have pb:i<b.aj.length:=by omega
  have ua:=ha.ar a.aj[i] (List.getElem_mem hc);have eW:a.aj[i]≠b.aj[i]->a≠b:=by rintro h rfl;exact h rfl
  have bU:a.aj[i]=b.aj[i]->a.aj.take (i+1)=b.aj.take (i+1):=fun h1=>by rw[List.take_succ_eq_append_getElem hc,List.take_succ_eq_append_getElem pb,he,h1]
  generalize hx:a.aj[i]=x at *;generalize hy:b.aj[i]=y at *;conv=>whnf
  refine bh x.cells (by simp[hc,hx]) ?_;conv=>whnf
  refine bh y.cells (by simp[pb,hy]) ?_;conv=>whnf
  refine af (fun h1=>?_) (fun h1=>?_)
  ·have h1:x≠y:=by rintro rfl;simp at h1
   conv=>whnf
   rw[decide_eq_false (eW h1)];exact ab 0 rfl ⟨⟨rfl,rfl⟩,rfl⟩
  have n1:x.name=y.name:=by simpa using h1
  conv=>whnf
  refine af (fun h1=>?_) (fun h1=>?_)
  ·have h1:x≠y:=by rintro rfl;simp at h1
   conv=>whnf
   rw[decide_eq_false (eW h1)];exact ab 0 rfl ⟨⟨rfl,rfl⟩,rfl⟩
  have n2:x.off=y.off:=by
   cases h4:x.off with
   | mk p q=>
    cases h5:y.off with
    | mk u v=>
     rw[h4,h5]at h1;simpa using h1
  conv=>whnf
  refine af (fun h1=>?_) (fun h1=>?_)
  ·have h1:x≠y:=by rintro rfl;simp at h1
   conv=>whnf
   rw[decide_eq_false (eW h1)];exact ab 0 rfl ⟨⟨rfl,rfl⟩,rfl⟩
  have n3:x.set=y.set:=by
   cases h4:x.set with
   | mk p q=>
    cases h5:y.set with
    | mk u v=>
     rw[h4,h5]at h1;simpa using h1
  conv=>whnf
  refine af (fun h1=>?_) (fun h1=>?_)
  ·have h1:x≠y:=by rintro rfl;simp at h1
   conv=>whnf
   rw[decide_eq_false (eW h1)];exact ab 0 rfl ⟨⟨rfl,rfl⟩,rfl⟩
  have Nt:x.ar.length=y.ar.length:=by
   have:=h1;simp at this;omega
  conv=>whnf
  refine dh (T:=tys) ak (by exact an mixed ak (by decide +kernel)) (α:=Nat) (fun k=>⟨[(2,.ptr 2 0),(3,.ptr 3 0),(5,.d (i64 i)),(6,.ptr 6 0),(7,.ptr 7 0),(8,.d (i64 k))],[(2,.box (.dd a.cells)),(3,.box (.dd b.cells)),(6,.box (.dd x.cells)),(7,.box (.dd y.cells))],st⟩) (fun k=>k<=x.ar.length/\x.ar.take k=y.ar.take k) (fun k=>x.ar.length-k) 0
   (Wk.sub (by repeat' first|constructor|simp[PX.get]) (by repeat' first|constructor|simp[PX.get])) (by simp) ?_
  rintro k ⟨hk,W9⟩;conv=>whnf
  refine af (fun nr=>?_) (fun nr=>?_)
  ·have nr:k<x.ar.length:=by simpa using nr
   have hc3:k<y.ar.length:=by omega
   conv=>whnf
   refine bh x.ar[k].cells (by simp[nr]) ?_;conv=>whnf
   refine bh y.ar[k].cells (by simp[hc3]) ?_;conv=>whnf
   refine af (fun h1=>?_) (fun h1=>?_)
   ·conv=>whnf
    have h1:x.ar[k]≠y.ar[k]:=by
     intro e;rw[e]at h1;simp at h1
    rw[decide_eq_false (eW (by rintro rfl;exact h1 rfl))];exact ab 0 rfl ⟨⟨rfl,rfl⟩,rfl⟩
   ·have h1:x.ar[k]=y.ar[k]:=by
     cases hx:x.ar[k]with
     | mk p q r s=>
      cases hy:y.ar[k]with
      | mk u v w z=>
       rw[hx,hy]at h1;simpa using h1
    refine ae (wrap_i64 (by(try dsimp only);omega)) ?_;conv=>whnf
    exact⟨k+1,by omega,⟨nr,by rw[List.take_succ_eq_append_getElem nr,List.take_succ_eq_append_getElem hc3,W9,h1]⟩,(Wk.sub (by repeat' first|constructor|simp[PX.get]) (by repeat' first|constructor|simp[PX.get]))⟩
  ·have nr:¬ k<x.ar.length:=by simpa using nr
   rw[List.take_of_length_le (by omega),List.take_of_length_le (by omega)]at W9;have RR:x=y:=by
    cases x;cases y
    simp only at n1 n2 n3 W9;rw[n1,n2,n3,W9]
   conv=>whnf
   refine ae (wrap_i64 (by(try dsimp only);omega)) ?_;conv=>whnf
   exact⟨i+1,by omega,⟨hc,bU RR⟩,(Wk.sub (by repeat' first|constructor|simp[PX.get]) (by repeat' first|constructor|simp[PX.get]))⟩
 ·have hc:¬ i<a.aj.length:=by simpa using hc
  rw[List.take_of_length_le (by omega),List.take_of_length_le (by omega)]at he;have CG:a=b:=by
   cases a;cases b
   simp only at B0 he;rw[B0,he]
  conv=>whnf
  rw[decide_eq_true CG];exact ab 0 rfl ⟨⟨rfl,rfl⟩,rfl⟩
def exA:List aW:=[⟨100,1,⟨#[111,114,105,101,110,116]⟩,0⟩,⟨110,3,⟨#[115,117,110,107]⟩,1⟩,⟨130,2,⟨#[]⟩,0⟩,⟨125,1,⟨#[116,117,103]⟩,0⟩]
def exB:List aW:=[⟨90,3,⟨#[115,117,110,107]⟩,1⟩,⟨95,1,⟨#[111,114,105,101,110,116]⟩,0⟩,⟨112,1,⟨#[116,117,103]⟩,0⟩]
def Th(p q:Span):List au:=[⟨⟨#[98,114,105,100,103,101]⟩,p,⟨0,2⟩,exA⟩,⟨⟨#[100,101,99,107]⟩,q,⟨0,0⟩,exB⟩]
def lF:aM:=⟨5,Th ⟨-10,10⟩ ⟨-20,20⟩⟩
def tD:aM:=⟨5,Th ⟨0,10⟩ ⟨5,20⟩⟩
def Sy:ByteArray:=⟨#[110,101,97,114,32,53,10,98,111,111,107,32,98,114,105,100,103,101,32,45,49,48,32,49,48,32,48,32,50,10,112,97,115,115,32,49,48,48,32,111,114,105,101,110,116,10,114,101,112,111,114,116,32,49,49,48,32,115,117,110,107,32,49,10,115,101,116,32,49,51,48,10,112,97,115,115,32,49,50,53,32,116,117,103,10,98,111,111,107,32,100,101,99,107,32,45,50,48,32,50,48,32,48,32,48,10,114,101,112,111,114,116,32,57,48,32,115,117,110,107,32,49,10,112,97,115,115,32,57,53,32,111,114,105,101,110,116,10,112,97,115,115,32,49,49,50,32,116,117,103,10]⟩
theorem OX:bq Tryz.prog 52 [] (.str Sy):=by
 refine aI mixed ak Tryz.func52 rfl (ft:=Yo) 0 (by decide +kernel) (by rfl) fun {σ} Y st=>?_;conv=>whnf
 exact ab 0 rfl ⟨⟨rfl,rfl⟩,rfl⟩
theorem OS(a b:Int):bq Tryz.prog 44 [i64 a,i64 b] (c8.d ⟨a,b⟩):=by
 refine aI mixed ak Tryz.func44 rfl (ft:=Yj) 2 (by decide +kernel) (by rfl) fun {σ} Y st=>?_;conv=>whnf
 exact ab 0 rfl ⟨⟨rfl,rfl⟩,rfl⟩
theorem qW(a b:Int):bq Tryz.prog 54 [i64 a,i64 b] (Span.d ⟨a,b⟩):=by
 refine aI mixed ak Tryz.func54 rfl (ft:=Yq) 2 (by decide +kernel) (by rfl) fun {σ} Y st=>?_;conv=>whnf
 exact ab 0 rfl ⟨⟨rfl,rfl⟩,rfl⟩
def exH:Heap:=[(2000000,.arr 6 (.dd (lF.aj.map au.cells)))]
theorem VP:o9 Tryz.prog 41 [] [] (fun v h'=>v = .agg [.d (i64 5),.sl 2000000 6 0 2]/\h'=exH):=by
 intro σ Y st;refine dQ mixed ak Tryz.func41 rfl (ft:=QO) (args:=[]) (h:=[]) (show nS QO Tryz.f41 0=true from by decide +kernel) ?_;conv=>whnf
 repeat' (first
  | (refine ai (qW _ _) rfl rfl ?_;conv=>whnf)
  | (refine aB (qW _ _) rfl 1 rfl ?_;conv=>whnf)
  | (refine aH (qW _ _) rfl rfl ?_;conv=>whnf)
  | (refine a7 (qW _ _) rfl 1 rfl ?_;conv=>whnf)
  | (refine ae (wrap_i64 (by(try dsimp only);omega)) ?_;conv=>whnf)
  | (refine aw (by assumption) ?_;conv=>whnf)
  | (refine ag (by first|rfl|assumption|(simp[aK.len];done)|(simp[aK.len];omega)) ?_;conv=>whnf)
  | (refine aQ (by first|(exact decide_eq_true (by(try simp only[List.length_map]);omega))|(simp[aK.len,aK.cons,V.cells,aK.bm,aG];done)|(simp[aK.len,aK.cons,V.cells,aK.bm,aG];omega)) ?_;conv=>whnf)
  | fail)
 refine nY (l':=[.agg [.d (i64 5),.sl 15 6 0 2]]) (h':=[(15,.arr 6 (.dd (lF.aj.map au.cells)))]) ((Wk.iB 1 [7,13] 15 (sz:=6) (ds:=lF.aj.map au.cells) rfl rfl).trans (Wk.sub ⟨rfl,trivial⟩ ⟨rfl,trivial⟩)) rfl rfl ?_;exact aC [15] [.agg [.d (i64 5),.sl 2000000 6 0 2]] exH rfl ⟨rfl,trivial⟩ rfl ⟨⟨rfl,rfl⟩,rfl⟩
theorem OR:bq Tryz.prog 41 [] lF.d:=by
 refine aI mixed ak Tryz.func41 rfl (ft:=QO) 0 (by decide +kernel) (by rfl) fun {σ} Y st=>?_;conv=>whnf
 repeat' (first
  | (refine ai (qW _ _) rfl rfl ?_;conv=>whnf)
  | (refine aB (qW _ _) rfl 1 rfl ?_;conv=>whnf)
  | (refine aH (qW _ _) rfl rfl ?_;conv=>whnf)
  | (refine a7 (qW _ _) rfl 1 rfl ?_;conv=>whnf)
  | (refine ae (wrap_i64 (by(try dsimp only);omega)) ?_;conv=>whnf)
  | (refine aw (by assumption) ?_;conv=>whnf)
  | (refine ag (by first|rfl|assumption|(simp[aK.len];done)|(simp[aK.len];omega)) ?_;conv=>whnf)
  | (refine aQ (by first|(exact decide_eq_true (by(try simp only[List.length_map]);omega))|(simp[aK.len,aK.cons,V.cells,aK.bm,aG];done)|(simp[aK.len,aK.cons,V.cells,aK.bm,aG];omega)) ?_;conv=>whnf)
  | fail)
 exact ab 2 rfl ⟨⟨rfl,rfl⟩,rfl⟩
theorem OW:bq Tryz.prog 42 [] tD.d:=by
 refine aI mixed ak Tryz.func42 rfl (ft:=Yh) 0 (by decide +kernel) (by rfl) fun {σ} Y st=>?_;conv=>whnf
 refine aY VP [] rfl rfl rfl ?_;conv=>whnf
 repeat' (first
  | (refine ai (qW _ _) rfl rfl ?_;conv=>whnf)
  | (refine aB (qW _ _) rfl 1 rfl ?_;conv=>whnf)
  | (refine aH (qW _ _) rfl rfl ?_;conv=>whnf)
  | (refine a7 (qW _ _) rfl 1 rfl ?_;conv=>whnf)
  | (refine ae (wrap_i64 (by(try dsimp only);omega)) ?_;conv=>whnf)
  | (refine aw (by assumption) ?_;conv=>whnf)
  | (refine ag (by first|rfl|assumption|(simp[aK.len];done)|(simp[aK.len];omega)) ?_;conv=>whnf)
  | (refine aQ (by first|(exact decide_eq_true (by(try simp only[List.length_map]);omega))|(simp[aK.len,aK.cons,V.cells,aK.bm,aG];done)|(simp[aK.len,aK.cons,V.cells,aK.bm,aG];omega)) ?_;conv=>whnf)
  | fail)
 exact ab 2 rfl ⟨⟨rfl,rfl⟩,rfl⟩
theorem x1:Dh lF=(true,0):=by decide +kernel
theorem x2:Dh tD=(false,0):=by decide +kernel
theorem x3:yL lF 0=([⟨5,10⟩,⟨0,2⟩],0):=by decide +kernel
theorem x4:pX lF ⟨1,2⟩=(⟨122,127⟩,0):=by decide +kernel
theorem x5:n7 lF ⟨0,3⟩ ⟨1,2⟩=(⟨-3,2⟩,0,0):=by decide +kernel
theorem x6:n7 lF ⟨0,0⟩ ⟨1,1⟩=(⟨15,15⟩,1,0):=by decide +kernel
theorem x7:H4 lF ⟨0,3⟩=([⟨1,2⟩],0):=by decide +kernel
theorem x8:D9 tD=(8,0):=by decide +kernel
theorem x9:G9 tD=([1],0):=by decide +kernel
theorem x10:MG lF=([],[],0):=by decide +kernel
theorem x11:CA lF=(Sy,0):=by decide +kernel
theorem x12:vK Sy=(lF,0):=by decide +kernel
theorem x13:(yL tD 0).2=9:=by decide +kernel
theorem w1:bq Tryz.prog 40 [lF.d] (.tup [.bool true,i64 0]):=bq.cast (VM lF) (by rw[x1])
theorem w2:bq Tryz.prog 40 [tD.d] (.tup [.bool false,i64 0]):=bq.cast (VM tD) (by rw[x2])
theorem w3:bq Tryz.prog 43 [lF.d,i64 0] (.tup [iD [⟨5,10⟩,⟨0,2⟩],i64 0]):=bq.cast (Sa lF 0) (by rw[x3])
theorem w4:bq Tryz.prog 12 [lF.d,c8.d ⟨1,2⟩] (.tup [Span.d ⟨122,127⟩,i64 0]):=bq.cast (OQ lF ⟨1,2⟩) (by rw[x4])
theorem w5:bq Tryz.prog 45 [lF.d,c8.d ⟨0,3⟩,c8.d ⟨1,2⟩] (.tup [Span.d ⟨-3,2⟩,i64 0,i64 0]):=bq.cast (VN lF ⟨0,3⟩ ⟨1,2⟩) (by rw[x5])
theorem w6:bq Tryz.prog 45 [lF.d,c8.d ⟨0,0⟩,c8.d ⟨1,1⟩] (.tup [Span.d ⟨15,15⟩,i64 1,i64 0]):=bq.cast (VN lF ⟨0,0⟩ ⟨1,1⟩) (by rw[x6])
theorem w7:bq Tryz.prog 46 [lF.d,c8.d ⟨0,3⟩] (.tup [oa [⟨1,2⟩],i64 0]):=bq.cast (aah lF ⟨0,3⟩) (by rw[x7])
theorem w8:bq Tryz.prog 47 [tD.d] (.tup [i64 8,i64 0]):=bq.cast (VO tD) (by rw[x8])
theorem w9:bq Tryz.prog 48 [tD.d] (.tup [ax [1],i64 0]):=bq.cast (aaj tD) (by rw[x9])
theorem Xx:bq Tryz.prog 49 [lF.d] (.tup [ax [],ax [],i64 0]):=bq.cast (aak lF) (by rw[x10])
theorem Xy:bq Tryz.prog 50 [lF.d] (.tup [.str Sy,i64 0]):=bq.cast (aal lF) (by rw[x11])
theorem Xz:bq Tryz.prog 51 [.str Sy] (.tup [lF.d,i64 0]):=bq.cast (aam Sy) (by rw[x12])
theorem XA:bq Tryz.prog 43 [tD.d,i64 0] (.tup [iD (yL tD 0).1,i64 9]):=bq.cast (Sa tD 0) (by rw[x13])
theorem QK:SY lF:=⟨by decide,by decide⟩
theorem XB:bq Tryz.prog 56 [lF.d,lF.d] (.bool true):=bq.cast (aan lF lF QK) (by simp)
theorem XC:bq Tryz.prog 38 [ax [1],ax [1]] (.bool true):=bq.cast (ID [1] [1] (by decide)) (by simp)
theorem XD:bq Tryz.prog 53 [iD [⟨5,10⟩,⟨0,2⟩],iD [⟨5,10⟩,⟨0,2⟩]] (.bool true):=bq.cast (XR [⟨5,10⟩,⟨0,2⟩] [⟨5,10⟩,⟨0,2⟩] (by decide)) (by simp)
theorem XE:bq Tryz.prog 55 [oa [⟨1,2⟩],oa [⟨1,2⟩]] (.bool true):=bq.cast (aai [⟨1,2⟩] [⟨1,2⟩] (by decide)) (by simp)
set_option maxHeartbeats 8000000 in
theorem Jw:bq Tryz.prog 8 [] (.bool true):=by
 refine aI mixed ak Tryz.func8 rfl (ft:=ft8) 0 (by decide +kernel) (by rfl) fun {σ} Y st=>?_;conv=>whnf
 repeat' (first
  | (refine ai (w1) rfl rfl ?_;conv=>whnf)
  | (refine aB (w1) rfl 1 rfl ?_;conv=>whnf)
  | (refine aH (w1) rfl rfl ?_;conv=>whnf)
  | (refine a7 (w1) rfl 1 rfl ?_;conv=>whnf)
  | (refine ai (OR) rfl rfl ?_;conv=>whnf)
  | (refine aB (OR) rfl 1 rfl ?_;conv=>whnf)
  | (refine aH (OR) rfl rfl ?_;conv=>whnf)
  | (refine a7 (OR) rfl 1 rfl ?_;conv=>whnf)
  | (refine ai (OW) rfl rfl ?_;conv=>whnf)
  | (refine aB (OW) rfl 1 rfl ?_;conv=>whnf)
  | (refine aH (OW) rfl rfl ?_;conv=>whnf)
  | (refine a7 (OW) rfl 1 rfl ?_;conv=>whnf)
  | (refine ai (OX) rfl rfl ?_;conv=>whnf)
  | (refine aB (OX) rfl 1 rfl ?_;conv=>whnf)
  | (refine aH (OX) rfl rfl ?_;conv=>whnf)
  | (refine a7 (OX) rfl 1 rfl ?_;conv=>whnf)
  | (refine ai (OS _ _) rfl rfl ?_;conv=>whnf)
  | (refine aB (OS _ _) rfl 1 rfl ?_;conv=>whnf)
  | (refine aH (OS _ _) rfl rfl ?_;conv=>whnf)
  | (refine a7 (OS _ _) rfl 1 rfl ?_;conv=>whnf)
  | (refine ai (qW _ _) rfl rfl ?_;conv=>whnf)
  | (refine aB (qW _ _) rfl 1 rfl ?_;conv=>whnf)
  | (refine aH (qW _ _) rfl rfl ?_;conv=>whnf)
  | (refine a7 (qW _ _) rfl 1 rfl ?_;conv=>whnf)
  | (refine ai (w2) rfl rfl ?_;conv=>whnf)
  | (refine aB (w2) rfl 1 rfl ?_;conv=>whnf)
  | (refine aH (w2) rfl rfl ?_;conv=>whnf)
  | (refine a7 (w2) rfl 1 rfl ?_;conv=>whnf)
  | (refine ai (w3) rfl rfl ?_;conv=>whnf)
  | (refine aB (w3) rfl 1 rfl ?_;conv=>whnf)
  | (refine aH (w3) rfl rfl ?_;conv=>whnf)
  | (refine a7 (w3) rfl 1 rfl ?_;conv=>whnf)
  | (refine ai (w4) rfl rfl ?_;conv=>whnf)
  | (refine aB (w4) rfl 1 rfl ?_;conv=>whnf)
  | (refine aH (w4) rfl rfl ?_;conv=>whnf)
  | (refine a7 (w4) rfl 1 rfl ?_;conv=>whnf)
  | (refine ai (w5) rfl rfl ?_;conv=>whnf)
  | (refine aB (w5) rfl 1 rfl ?_;conv=>whnf)
  | (refine aH (w5) rfl rfl ?_;conv=>whnf)
  | (refine a7 (w5) rfl 1 rfl ?_;conv=>whnf)
  | (refine ai (w6) rfl rfl ?_;conv=>whnf)
  | (refine aB (w6) rfl 1 rfl ?_;conv=>whnf)
  | (refine aH (w6) rfl rfl ?_;conv=>whnf)
  | (refine a7 (w6) rfl 1 rfl ?_;conv=>whnf)
  | (refine ai (w7) rfl rfl ?_;conv=>whnf)
  | (refine aB (w7) rfl 1 rfl ?_;conv=>whnf)
  | (refine aH (w7) rfl rfl ?_;conv=>whnf)
  | (refine a7 (w7) rfl 1 rfl ?_;conv=>whnf)
  | (refine ai (w8) rfl rfl ?_;conv=>whnf)
  | (refine aB (w8) rfl 1 rfl ?_;conv=>whnf)
  | (refine aH (w8) rfl rfl ?_;conv=>whnf)
  | (refine a7 (w8) rfl 1 rfl ?_;conv=>whnf)
  | (refine ai (w9) rfl rfl ?_;conv=>whnf)
  | (refine aB (w9) rfl 1 rfl ?_;conv=>whnf)
  | (refine aH (w9) rfl rfl ?_;conv=>whnf)
  | (refine a7 (w9) rfl 1 rfl ?_;conv=>whnf)
  | (refine ai (Xx) rfl rfl ?_;conv=>whnf)
  | (refine aB (Xx) rfl 1 rfl ?_;conv=>whnf)
  | (refine aH (Xx) rfl rfl ?_;conv=>whnf)
  | (refine a7 (Xx) rfl 1 rfl ?_;conv=>whnf)
  | (refine ai (Xy) rfl rfl ?_;conv=>whnf)
  | (refine aB (Xy) rfl 1 rfl ?_;conv=>whnf)
  | (refine aH (Xy) rfl rfl ?_;conv=>whnf)
  | (refine a7 (Xy) rfl 1 rfl ?_;conv=>whnf)
  | (refine ai (Xz) rfl rfl ?_;conv=>whnf)
  | (refine aB (Xz) rfl 1 rfl ?_;conv=>whnf)
  | (refine aH (Xz) rfl rfl ?_;conv=>whnf)
  | (refine a7 (Xz) rfl 1 rfl ?_;conv=>whnf)
  | (refine ai (XA) rfl rfl ?_;conv=>whnf)
  | (refine aB (XA) rfl 1 rfl ?_;conv=>whnf)
  | (refine aH (XA) rfl rfl ?_;conv=>whnf)
  | (refine a7 (XA) rfl 1 rfl ?_;conv=>whnf)
  | (refine ai (XC) rfl rfl ?_;conv=>whnf)
  | (refine aB (XC) rfl 1 rfl ?_;conv=>whnf)
  | (refine aH (XC) rfl rfl ?_;conv=>whnf)
  | (refine a7 (XC) rfl 1 rfl ?_;conv=>whnf)
  | (refine ai (XD) rfl rfl ?_;conv=>whnf)
  | (refine aB (XD) rfl 1 rfl ?_;conv=>whnf)
  | (refine aH (XD) rfl rfl ?_;conv=>whnf)
  | (refine a7 (XD) rfl 1 rfl ?_;conv=>whnf)
  | (refine ai (XE) rfl rfl ?_;conv=>whnf)
  | (refine aB (XE) rfl 1 rfl ?_;conv=>whnf)
  | (refine aH (XE) rfl rfl ?_;conv=>whnf)
  | (refine a7 (XE) rfl 1 rfl ?_;conv=>whnf)
  | (refine ai (XB) rfl rfl ?_;conv=>whnf)
  | (refine aB (XB) rfl 1 rfl ?_;conv=>whnf)
  | (refine aH (XB) rfl rfl ?_;conv=>whnf)
  | (refine a7 (XB) rfl 1 rfl ?_;conv=>whnf)
  | (refine ae (wrap_i64 (by(try dsimp only);omega)) ?_;conv=>whnf)
  | (refine aw (by assumption) ?_;conv=>whnf)
  | (refine ag (by first|rfl|assumption|(simp[aK.len];done)|(simp[aK.len];omega)) ?_;conv=>whnf)
  | (refine aQ (by first|(exact decide_eq_true (by(try simp only[List.length_map]);omega))|(simp[aK.len,aK.cons,V.cells,aK.bm,aG];done)|(simp[aK.len,aK.cons,V.cells,aK.bm,aG];omega)) ?_;conv=>whnf)
  | fail)
 exact ab 0 rfl ⟨⟨rfl,rfl⟩,rfl⟩
theorem y1:yL lF 1=([⟨-15,-10⟩],0):=by decide +kernel
theorem y2:pX lF ⟨0,0⟩=(⟨90,95⟩,0):=by decide +kernel
theorem y3:pX lF ⟨0,3⟩=(⟨123,125⟩,0):=by decide +kernel
theorem y6:D9 lF=(0,0):=by decide +kernel
theorem z1:bq Tryz.prog 43 [lF.d,i64 1] (.tup [iD [⟨-15,-10⟩],i64 0]):=bq.cast (Sa lF 1) (by rw[y1])
theorem z2:bq Tryz.prog 12 [lF.d,c8.d ⟨0,0⟩] (.tup [Span.d ⟨90,95⟩,i64 0]):=bq.cast (OQ lF ⟨0,0⟩) (by rw[y2])
theorem z3:bq Tryz.prog 12 [lF.d,c8.d ⟨0,3⟩] (.tup [Span.d ⟨123,125⟩,i64 0]):=bq.cast (OQ lF ⟨0,3⟩) (by rw[y3])
theorem z6:bq Tryz.prog 47 [lF.d] (.tup [i64 0,i64 0]):=bq.cast (VO lF) (by rw[y6])
end Go.PX
