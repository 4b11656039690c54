import Derived.Test.YtmbefpmbnhdbpaaGreatDoorPxN
import Derived.Test.YtmbefpmbnhdbpaaGreatDoorPxM
set_option linter.all false
set_option maxRecDepth 10000
namespace Go.PX
open Go.Proofs
theorem Aj{l:aM}{wider:Int}{conf:List Int}{i:Nat}{b:au}{s:qw}(hb:l.aj[i]?=some b)(h:zB l wider conf i s):Bo l wider conf i 0 b s.pers ⟨s.steps++dP wider ⟨i,0⟩ b.off,s.many+1,s.first,⟨i,0⟩,[],[]⟩:=by
 refine⟨rfl,rfl,fun num=>⟨Int.le_refl 0,fun h=>absurd h (by show ¬ ((1:Int)<=0);decide),fun⟨m,hm,_⟩=>absurd hm (Nat.not_lt_zero m)⟩,fun num r hr=>?_,fun j m c y num hy hf hc ha=>?_,fun e he=>?_,fun j c hc hj e he=>?_,fun j c n hc hn JW e he=>?_,fun j m c x z hx hz ha=>?_⟩
 ·obtain⟨j,m,c,x,h1,h2,h3,h4,h5⟩:=h.fst num r hr
  exact⟨j,m,c,x,h1,h2,h3,h4,.inl h5⟩
 ·rcases ha with ha|⟨_,ha⟩
  ·obtain⟨r,h1,h2⟩:=h.Nd j m c y num hy hf hc ha
   exact⟨r,h1,h2.imp id (vV.mono fun e he=>List.mem_append_left _ he)⟩
  ·exact absurd ha (Nat.not_lt_zero m)
 ·rcases List.mem_append.1 he with he|he
  ·exact h.sub e he
  ·exact .off i b hb e he
 ·rcases Nat.lt_or_ge j i with dN|AF
  ·exact List.mem_append_left _ (h.off j c hc dN e he)
  ·have:j=i:=by omega
   subst this;have mO:c=b:=Option.some.inj (hc.symm.trans hb);subst mO;exact List.mem_append_right _ he
 ·rcases JW with⟨hj,E1⟩|⟨_,E1⟩
  ·exact List.mem_append_left _ (h.set j c n hc hn hj E1 e he)
  ·rw[yV]at E1;omega
 ·rcases ha with ha|⟨_,ha⟩
  ·exact List.mem_append_left _ (h.ord j m c x z hx hz ha)
  ·omega
def cF(l:List ck):List (List D):=l.map ck.cells
set_option maxHeartbeats 4000000 in
theorem VQ(l:aM)(hR:pn l)(wider:Int)(hw:0<=wider/\wider<=1048576)(conf:List Int)(hc:conf.length<1000000):bq Tryz.prog 107 [l.d,i64 wider,ax conf] (ew l (bG l wider conf)):=by
 refine aI mixed ak Tryz.func107 rfl (ft:=KZ) 3 (by decide +kernel) (by rfl) fun {σ} Y st=>?_;conv=>whnf
 have wF:=hR.aj;unfold bG;generalize hRES:lV l wider conf 0 l.aj ⟨[],0,[],[]⟩=Nc;have Nf:zB l wider conf 0 ⟨[],0,[],[]⟩:=⟨⟨rfl,fun j c _ hj=>absurd hj (Nat.not_lt_zero j)⟩,fun num r hr=>(by cases hr),fun j m c y num _ _ _ hj=>absurd hj (Nat.not_lt_zero j),fun e he=>(by cases he),fun j c _ hj=>absurd hj (Nat.not_lt_zero j),fun j c n _ _ hj=>absurd hj (Nat.not_lt_zero j),fun j m c x z _ _ hj=>absurd hj (Nat.not_lt_zero j)⟩;refine bx (T:=tys) ak (by exact an mixed ak (by decide +kernel)) l.aj (fun i (x:qw)=>⟨[(2,.d (ax conf)),(3,.ptr 3 0),(4,.ptr 4 0),(7,.ptr 7 0),(8,.mp 26),(9,.clo 168 [.ptr 7 0,.ptr 4 0]),(29,.d (bF l.aj)),(30,.d (i64 l.aj.length)),(31,.d (i64 i))],[(3,.box (.dd l.cells)),(4,.box (.dd [i64 wider])),(7,.box (.vv [.ptr 25 0])),(25,.box (.vv [.d (i64 l.near),.d (bF l.aj),.sl 900000 5 0 x.steps.length,.sl 900001 1 0 x.pers.length,.d (i64 x.many)])),(900000,.arr 5 (.dd (aJ x.steps))),(900001,.arr 1 (.dd (cv x.pers))),(26,.map (eJ aD c8.d x.first))],st⟩)
  (fun i r x=>lV l wider conf i r x=Nc/\zB l wider conf i x/\x.steps.length<=26*i/\(0<=x.many/\x.many<=9*i)) ⟨[],0,[],[]⟩ ?wk ⟨hRES,Nf,by simp,by simp⟩ ?_ ?_
 case wk=>
  refine(Wk.sL 25 900000 5 [i64 l.near,bF l.aj] [.nils,i64 0] rfl rfl rfl rfl rfl).trans ((Wk.Ku 25 900001 1 [.d (i64 l.near),.d (bF l.aj),.sl 900000 5 0 0] [.d (i64 0)] rfl rfl rfl rfl).trans (Wk.sub (by repeat' first|constructor|simp[PX.get]) (by repeat' first|constructor|simp[PX.get])))
 ·rintro i b r x hx hi wK ⟨uD,hI,jA,uF⟩
  rw[lV]at uD;have hB:=hR.book b (List.mem_of_getElem? hx);have JT:=xq hx hI;generalize hy:pB l wider conf i b x=y at uD JT;unfold pB at hy;conv=>whnf
  refine af (fun _=>?_) (fun h=>absurd hi (by simpa using h));conv=>whnf
  refine aw hx ?_;conv=>whnf
  refine aY (AY l wider hw x.steps (by omega) x.pers x.many (by omega) ⟨i,0⟩ b.off hB.off) [7,4,25,900000,900001] rfl ?lent rfl ?_;case lent=>exact⟨_,_,rfl,bK rfl ⟨⟨rfl,rfl⟩,trivial⟩,_,_,rfl,rfl,_,_,rfl,bK rfl ⟨rfl,rfl,⟨rfl,rfl,rfl,rfl⟩,⟨rfl,rfl,rfl,rfl⟩,rfl,trivial⟩,_,_,rfl,rfl,_,_,rfl,rfl,rfl⟩
  conv=>whnf
  have YN:=Aj hx hI;generalize hER:lD l wider conf i b x.pers 0 b.ar ⟨x.steps++dP wider ⟨i,0⟩ b.off,x.many+1,x.first,⟨i,0⟩,[],[]⟩=ER at hy;simp only at hy;refine bx (T:=tys) ak (by exact an mixed ak (by decide +kernel)) b.ar (fun k (e:CR)=>⟨[(2,.d (ax conf)),(3,.ptr 3 0),(4,.ptr 4 0),(7,.ptr 7 0),(8,.mp 26),(9,.clo 168 [.ptr 7 0,.ptr 4 0]),(29,.d (bF l.aj)),(30,.d (i64 l.aj.length)),(31,.d (i64 i)),(10,.d (i64 i)),(11,.ptr 11 0),(12,.ptr 12 0),(13,.sl 55 2 0 e.of.length),(14,.mp 43),(45,.d (kJ b.ar)),(46,.d (i64 b.ar.length)),(47,.d (i64 k))],[(3,.box (.dd l.cells)),(4,.box (.dd [i64 wider])),(7,.box (.vv [.ptr 25 0])),(25,.box (.vv [.d (i64 l.near),.d (bF l.aj),.sl 900000 5 0 e.steps.length,.sl 900001 1 0 x.pers.length,.d (i64 e.many)])),(900000,.arr 5 (.dd (aJ e.steps))),(900001,.arr 1 (.dd (cv x.pers))),(26,.map (eJ aD c8.d e.first)),(11,.box (.dd b.cells)),(12,.box (.dd e.now.cells)),(43,.map (eJ aD aD e.mine)),(55,.arr 2 (.dd (cF e.of)))],st⟩)
   (fun k r e=>Bo l wider conf i k b x.pers e/\lD l wider conf i b x.pers k r e=ER/\e.steps.length<=26*i+2+3*k/\(0<=e.many/\e.many<=9*i+1+k) /\ ∀ num,(bD e.mine num).getD 0<=k) ⟨x.steps++dP wider ⟨i,0⟩ b.off,x.many+1,x.first,⟨i,0⟩,[],[]⟩ ?wk2 ⟨YN,hER,by simp[dP];omega,by simp only;omega,fun num=>by show(0:Int)<=_;omega⟩ ?_ ?_
  case wk2=>
   refine(Wk.born 13 55 2 rfl rfl rfl).trans ((Wk.move 102688 900000 rfl rfl).trans (Wk.sub (by repeat' first|constructor|simp[PX.get]) (by repeat' first|constructor|simp[PX.get])))
  ·rintro k y r e I1 hk hr3 ⟨hE,fe,zz,Zk,BY⟩
   rw[lD]at fe;have lI:=BG hI.pers.2 hx I1 hE;generalize bU:vZ l wider conf i b x.pers k y e=e2 at fe lI;unfold vZ at bU;simp only at bU;have YS:=MR hx I1 hE;generalize hST:(if k=0 then e.steps else e.steps ++ [(⟨((e.of ++ [e.now])[k-1]?).getD .right,e.now,y.shown-((b.ar[k-1]?).getD ⟨0,0,.empty,0⟩).shown⟩:cc)])=ST at bU YS;conv=>whnf
   refine af (fun _=>?_) (fun h=>absurd hk (by simpa using h));conv=>whnf
   refine aw I1 ?_;conv=>whnf
   refine ag rfl ?_;conv=>whnf
   have LA:e.of.length=k:=by rw[hE.of];simp
   have hk8:k<8:=by have:=hB.ar;omega
   have hy0:=hB.fG y (List.mem_of_getElem? I1);refine ag (by simp[aK.len,cF]) ?_;conv=>whnf
   refine aQ (decide_eq_true (by
    show((cF e.of).length+1)*16<=140737488355328;have:=hB.ar;simp[cF];omega)) ?_
   conv=>whnf
   refine af (fun h1=>?_) (fun h1=>?_)
   ·have h1:0<k:=by have:=of_decide_eq_true h1;omega
    conv=>whnf
    refine ao ((k-1:Nat):Int) (by omega) (wrap_i64 (by omega)) ?_;conv=>whnf
    obtain⟨z,hz⟩:∃ z,b.ar[k-1]?=some z:=⟨_,List.getElem?_eq_getElem (by omega)⟩;have Xm:=hB.fG z (List.mem_of_getElem? hz);have Lz:(e.of ++ [e.now])[k-1]?=some ⟨i,bE b (k-1)⟩:=by
     rw[List.getElem?_append_left (by omega),hE.of,List.getElem?_map,List.getElem?_range (by omega)];rfl
    refine af (fun _=>?_) (fun h=>absurd h (by
     show ¬ ((decide (0<=((k-1:Nat):Int))&&decide (((k-1:Nat):Int)<(((cF e.of).length+1:Nat):Int)))=false);simp[cF,LA];omega))
    conv=>whnf
    refine cD (ck.cells ⟨i,bE b (k-1)⟩) (by
     show(cF e.of ++ [e.now.cells])[0+((k-1:Nat):Int).toNat]?=_;have:cF e.of ++ [e.now.cells]=cF (e.of ++ [e.now]):=by simp[cF]
     rw[this,Int.toNat_natCast,Nat.zero_add];unfold cF;rw[List.getElem?_map,Lz];rfl) ?_
    conv=>whnf
    refine ao ((k-1:Nat):Int) (by omega) (wrap_i64 (by omega)) ?_;conv=>whnf
    refine bh z.cells ⟨by omega,by rw[Int.toNat_natCast,List.getElem?_map,hz];rfl⟩ ?_;conv=>whnf
    refine ae (wrap_i64 (by(try dsimp only);omega)) ?_;conv=>whnf
    refine ag rfl ?_;conv=>whnf
    refine ag (by simp[aK.len,aJ]) ?_;conv=>whnf
    refine aQ (decide_eq_true (by
     show((aJ e.steps).length+1)*40<=140737488355328;simp[aJ];omega)) ?_
    conv=>whnf
    rw[if_neg (by omega),Lz,hz]at hST;simp only[Option.getD_some]at hST;refine dO.Nw ?_;refine ai (zS y) rfl rfl ?_;refine⟨⟨[(2,.d (ax conf)),(3,.ptr 3 0),(4,.ptr 4 0),(7,.ptr 7 0),(8,.mp 26),(9,.clo 168 [.ptr 7 0,.ptr 4 0]),(29,.d (bF l.aj)),(30,.d (i64 l.aj.length)),(31,.d (i64 i)),(10,.d (i64 i)),(11,.ptr 11 0),(12,.ptr 12 0),(13,.sl 55 2 0 (e.of ++ [e.now]).length),(14,.mp 43),(15,.d (i64 k)),(16,.ptr 16 0),(45,.d (kJ b.ar)),(46,.d (i64 b.ar.length)),(47,.d (i64 k)),(85,.d (bL y))],[(3,.box (.dd l.cells)),(4,.box (.dd [i64 wider])),(7,.box (.vv [.ptr 25 0])),(25,.box (.vv [.d (i64 l.near),.d (bF l.aj),.sl 900000 5 0 ST.length,.sl 900001 1 0 x.pers.length,.d (i64 e.many)])),(900000,.arr 5 (.dd (aJ ST))),(900001,.arr 1 (.dd (cv x.pers))),(26,.map (eJ aD c8.d e.first)),(11,.box (.dd b.cells)),(12,.box (.dd e.now.cells)),(16,.box (.dd y.cells)),(43,.map (eJ aD aD e.mine)),(55,.arr 2 (.dd (cF (e.of ++ [e.now]))))],st⟩,(Wk.move 81 900000 rfl rfl).trans (Wk.sub ⟨rfl,rfl,rfl,rfl,rfl,rfl,rfl,rfl,rfl,rfl,rfl,rfl,?_,rfl,rfl,rfl,rfl,rfl,rfl,rfl,trivial⟩ ⟨rfl,rfl,rfl,?_,?_,rfl,rfl,rfl,rfl,rfl,rfl,?_,trivial⟩),?_⟩
    ·show some (V.sl 55 2 0 ((cF e.of).length+1))=_
     simp[cF]
    ·show some (Obj.box (Cells.vv [.d (i64 l.near),.d (bF l.aj),.sl 900000 5 0 ((aJ e.steps).length+1),.sl 900001 1 0 x.pers.length,.d (i64 e.many)]))=_
     rw[<- hST];simp[aJ]
    ·rw[<- hST]
     show some (Obj.arr 5 (aK.dd (aJ e.steps ++ [[i64 i,i64 (bE b (k-1):Nat),i64 e.now.book,i64 e.now.n,i64 (y.shown-z.shown)]])))=_;unfold aJ;rw[List.map_append];rfl
    ·show some (Obj.arr 2 (aK.dd (cF e.of ++ [e.now.cells])))=_
     simp[cF]
    have RJ:ST.length<=e.steps.length+1:=by rw[<- hST];simp
    by_cases h2:y.kind=2
    ·rw[if_pos h2]at bU
     have ht:bL y = .ifc 288 (.agg []):=by unfold bL;rw[if_neg (by omega),if_pos h2]
     rw[ht];have U5:=l5 b k;have Z7:=nN b;have Ht:=hB.ar;have IU:e.now.n=(bE b k:Nat):=by rw[hE.now]
     conv=>whnf
     refine ae (wrap_i64 (by(try dsimp only);omega)) ?_;conv=>whnf
     refine aY (AY l wider hw ST (by omega) x.pers e.many (by omega) ⟨e.now.book,e.now.n+1⟩ b.set hB.set) [7,4,25,900000,900001] rfl ?lent rfl ?_;case lent=>exact⟨_,_,rfl,bK rfl ⟨⟨rfl,rfl⟩,trivial⟩,_,_,rfl,rfl,_,_,rfl,bK rfl ⟨rfl,rfl,⟨rfl,rfl,rfl,rfl⟩,⟨rfl,rfl,rfl,rfl⟩,rfl,trivial⟩,_,_,rfl,rfl,_,_,rfl,rfl,rfl⟩
     conv=>whnf
     refine ae (wrap_i64 (by(try dsimp only);omega)) ?_;conv=>whnf
     subst bU;refine⟨_,⟨lI,fe,?_,?_,fun num=>by have:=BY num;simp only;omega⟩,?_⟩
     ·simp[dP];omega
     ·simp only;omega
     ·exact(Wk.move 106208 900000 rfl rfl).trans (Wk.sub ⟨rfl,rfl,rfl,rfl,rfl,rfl,rfl,rfl,rfl,rfl,rfl,rfl,rfl,rfl,rfl,rfl,rfl,trivial⟩ ⟨rfl,rfl,rfl,rfl,rfl,rfl,rfl,rfl,rfl,rfl,rfl,trivial⟩)
    ·rw[if_neg h2]at bU
     by_cases h3:y.kind=3
     ·rw[if_pos h3]at bU
      have ht:bL y = .ifc 228 (.agg [.str y.word,i64 y.number]):=by unfold bL;rw[if_neg (by omega),if_neg h2,if_pos h3]
      rw[ht];have uF:=BY y.number;have Lv:=(hE.mine y.number).1;generalize hN:(bD e.mine y.number).getD 0=N at bU uF Lv;have gQ:∀ num,(bD (cH e.mine y.number (N+1)) num).getD 0<=((k+1:Nat):Int):=fun num=>by
       rw[dw];split
       ·simp only[Option.getD_some];omega
       ·have:=BY num;omega
      conv=>whnf
      cases td:bD e.mine y.number with
      | none=>
       have Ft:N=0:=by rw[<- hN,td];rfl
       have zL:=cr (kd:=aD) (vd:=aD) (N+1) td;refine⟨none,aP (kd:=aD) aO td 0,?_⟩;conv=>whnf
       refine ao (N+1) (by omega) (wrap_i64 (by omega)) ?_;conv=>whnf
       refine⟨none,aP (kd:=aD) aO td 0,?_⟩;conv=>whnf
       have lN:eJ aD aD e.mine ++ [(i64 y.number,i64 (N+1))]=eJ aD aD (cH e.mine y.number (N+1)):=zL;rw[lN];obtain⟨iz,_,AL,_⟩:=a8 (kd:=aD) (vd:=aD) aO (show bD (cH e.mine y.number (N+1)) y.number=some (N+1) by rw[dw,if_pos rfl]) 0;refine⟨_,AL,?_⟩;conv=>whnf
       refine af (fun h5=>?_) (fun h5=>?_)
       ·have h5:1<N+1:=of_decide_eq_true h5
        rw[if_pos (.inl (by omega))]at bU;conv=>whnf
        refine ae (wrap_i64 (by(try dsimp only);omega)) ?_;conv=>whnf
        subst bU;exact⟨_,⟨lI,fe,by simp only;omega,by simp only;omega,gQ⟩,(Wk.sub ⟨rfl,rfl,rfl,rfl,rfl,rfl,rfl,rfl,rfl,rfl,rfl,rfl,rfl,rfl,rfl,rfl,rfl,trivial⟩ ⟨rfl,rfl,rfl,rfl,rfl,rfl,rfl,rfl,rfl,rfl,rfl,trivial⟩)⟩
       ·have h5:¬ 1<N+1:=of_decide_eq_false h5
        conv=>whnf
        refine ai (Dj conf y.number (by omega)) rfl rfl ?_;conv=>whnf
        refine af (fun h6=>?_) (fun h6=>?_)
        ·have h6:y.number∈conf:=of_decide_eq_true h6
         rw[if_pos (.inr h6)]at bU;conv=>whnf
         refine ae (wrap_i64 (by(try dsimp only);omega)) ?_;conv=>whnf
         subst bU;exact⟨_,⟨lI,fe,by simp only;omega,by simp only;omega,gQ⟩,(Wk.sub ⟨rfl,rfl,rfl,rfl,rfl,rfl,rfl,rfl,rfl,rfl,rfl,rfl,rfl,rfl,rfl,rfl,rfl,trivial⟩ ⟨rfl,rfl,rfl,rfl,rfl,rfl,rfl,rfl,rfl,rfl,rfl,trivial⟩)⟩
        ·have h6:¬ y.number∈conf:=of_decide_eq_false h6
         rw[if_neg (fun h=>h.elim (fun h=>h5 (by omega)) h6)]at bU;conv=>whnf
         cases iO:bD e.first y.number with
         | none=>
          rw[iO]at bU;simp only at bU;have FE:=cr (kd:=aD) (vd:=c8.d) (⟨i,k⟩:c8) iO;refine⟨none,aP (kd:=aD) aO iO 0,?_⟩;conv=>whnf
          refine⟨none,aP (kd:=aD) aO iO 0,?_⟩;conv=>whnf
          have rT:eJ aD c8.d e.first ++ [(i64 y.number,c8.d ⟨i,k⟩)]=eJ aD c8.d (cH e.first y.number ⟨i,k⟩):=FE
          refine ae (wrap_i64 (by(try dsimp only);omega)) ?_;conv=>whnf
          subst bU;refine⟨_,⟨lI,fe,by simp only;omega,by simp only;omega,gQ⟩,?_⟩;simp only;rw[<- rT];exact(Wk.sub ⟨rfl,rfl,rfl,rfl,rfl,rfl,rfl,rfl,rfl,rfl,rfl,rfl,rfl,rfl,rfl,rfl,rfl,trivial⟩ ⟨rfl,rfl,rfl,rfl,rfl,rfl,rfl,rfl,rfl,rfl,rfl,trivial⟩)
         | some r0=>
          rw[iO]at bU;simp only at bU;obtain⟨j0,m0,c0,x0,DI,eE,zt,-,lJ⟩:=hE.fst _ _ iO;obtain⟨iy,_,mw,_⟩:=a8 (kd:=aD) (vd:=c8.d) aO iO 0;refine⟨_,mw,?_⟩;conv=>whnf
          subst DI;have AH:=(List.getElem?_eq_some_iff.1 eE.fG).1;have zI:=(List.getElem?_eq_some_iff.1 eE.book).1;refine bh c0.cells ⟨by show(0:Int)<=((j0:Nat):Int);omega,by show(l.aj.map au.cells)[((j0:Nat):Int).toNat]?=_;rw[Int.toNat_natCast,List.getElem?_map,eE.book];rfl⟩ ?_;conv=>whnf
          refine bh x0.cells ⟨by show(0:Int)<=((m0:Nat):Int);omega,by show(c0.ar.map aW.cells)[((m0:Nat):Int).toNat]?=_;rw[Int.toNat_natCast,List.getElem?_map,eE.fG];rfl⟩ ?_;conv=>whnf
          have B4:=(hR.book c0 (List.mem_of_getElem? eE.book)).fG x0 (List.mem_of_getElem? eE.fG);have CI:j0<i:=by
           rcases lJ with lJ|⟨BX,lJ⟩
           ·exact lJ
           ·have iN:=eE.book
            rw[BX]at iN;have mO:c0=b:=Option.some.inj (iN.symm.trans hx);have h7:=(hE.mine y.number).2.2 ⟨m0,lJ,mO▸zt⟩;rw[hN]at h7;omega
          have wc:=hI.pers.2 j0 c0 eE.book CI;refine ao (y.shown-x0.shown) rfl (wrap_i64 (by omega)) ?_;conv=>whnf
          refine af (fun _=>?_) (fun h=>absurd h (by
           show ¬ ((decide (0<=((j0:Nat):Int))&&decide (((j0:Nat):Int)<((x.pers.length:Nat):Int)))=false);have:=hI.pers.1;simp;omega))
          conv=>whnf
          refine cD [.vs ((eQ j0 c0).map ck.cells)] (by
           show(cv x.pers)[0+((j0:Nat):Int).toNat]?=_;unfold cv;rw[Int.toNat_natCast,Nat.zero_add,List.getElem?_map,wc];rfl) ?_
          conv=>whnf
          refine bh (ck.cells ⟨j0,(bE c0 m0:Nat)⟩) ⟨by show(0:Int)<=((m0:Nat):Int);omega,by show((eQ j0 c0).map ck.cells)[((m0:Nat):Int).toNat]?=_;rw[Int.toNat_natCast,List.getElem?_map,fD AH];rfl⟩ ?_;conv=>whnf
          refine ao (-(y.shown-x0.shown)) (by omega) (wrap_i64 (by omega)) ?_;conv=>whnf
          refine ag rfl ?_;conv=>whnf
          refine ag (by simp[aK.len,aJ]) ?_;conv=>whnf
          refine aQ (decide_eq_true (by
           show((aJ ST).length+2)*40<=140737488355328;simp[aJ];omega)) ?_
          conv=>whnf
          refine ae (wrap_i64 (by(try dsimp only);omega)) ?_;conv=>whnf
          rw[gZ eE wc,eg eE]at bU;subst bU;refine⟨_,⟨lI,fe,by simp only[List.length_append,List.length_cons,List.length_nil];omega,by simp only;omega,gQ⟩,?_⟩;have FK:∀ p q:cc,aJ (ST ++ [p,q])=aJ ST++aJ [p,q]:=fun p q=>by unfold aJ;rw[List.map_append]
          simp only[FK];refine(Wk.move 174 900000 rfl rfl).trans (Wk.sub ⟨rfl,rfl,rfl,rfl,rfl,rfl,rfl,rfl,rfl,rfl,rfl,rfl,rfl,rfl,rfl,rfl,rfl,trivial⟩ ⟨rfl,rfl,rfl,?_,rfl,rfl,rfl,rfl,rfl,rfl,rfl,trivial⟩);show some (Obj.box (Cells.vv [.d (i64 l.near),.d (bF l.aj),.sl 900000 5 0 ((aJ ST).length+2),.sl 900001 1 0 x.pers.length,.d (i64 e.many)]))=_;simp[aJ]
      | some n0=>
       have Ft:N=n0:=by rw[<- hN,td];rfl
       obtain⟨ix,_,mf,ub,_⟩:=a8 (kd:=aD) (vd:=aD) aO td 0;refine⟨_,mf,?_⟩;conv=>whnf
       refine ao (N+1) (by rw[Ft]) (wrap_i64 (by omega)) ?_;conv=>whnf
       refine⟨_,mf,?_⟩;conv=>whnf
       have lN:(eJ aD aD e.mine).set (0+ix,aD n0).fst (i64 y.number,i64 (N+1))=eJ aD aD (cH e.mine y.number (N+1)):=by
        show(eJ aD aD e.mine).set (0+ix) _=_;rw[Nat.zero_add];exact ub (N+1)
       rw[lN];obtain⟨iz,_,AL,_⟩:=a8 (kd:=aD) (vd:=aD) aO (show bD (cH e.mine y.number (N+1)) y.number=some (N+1) by rw[dw,if_pos rfl]) 0;refine⟨_,AL,?_⟩;conv=>whnf
       refine af (fun h5=>?_) (fun h5=>?_)
       ·have h5:1<N+1:=of_decide_eq_true h5
        rw[if_pos (.inl (by omega))]at bU;conv=>whnf
        refine ae (wrap_i64 (by(try dsimp only);omega)) ?_;conv=>whnf
        subst bU;exact⟨_,⟨lI,fe,by simp only;omega,by simp only;omega,gQ⟩,(Wk.sub ⟨rfl,rfl,rfl,rfl,rfl,rfl,rfl,rfl,rfl,rfl,rfl,rfl,rfl,rfl,rfl,rfl,rfl,trivial⟩ ⟨rfl,rfl,rfl,rfl,rfl,rfl,rfl,rfl,rfl,rfl,rfl,trivial⟩)⟩
       ·have h5:¬ 1<N+1:=of_decide_eq_false h5
        conv=>whnf
        refine ai (Dj conf y.number (by omega)) rfl rfl ?_;conv=>whnf
        refine af (fun h6=>?_) (fun h6=>?_)
        ·have h6:y.number∈conf:=of_decide_eq_true h6
         rw[if_pos (.inr h6)]at bU;conv=>whnf
         refine ae (wrap_i64 (by(try dsimp only);omega)) ?_;conv=>whnf
         subst bU;exact⟨_,⟨lI,fe,by simp only;omega,by simp only;omega,gQ⟩,(Wk.sub ⟨rfl,rfl,rfl,rfl,rfl,rfl,rfl,rfl,rfl,rfl,rfl,rfl,rfl,rfl,rfl,rfl,rfl,trivial⟩ ⟨rfl,rfl,rfl,rfl,rfl,rfl,rfl,rfl,rfl,rfl,rfl,trivial⟩)⟩
        ·have h6:¬ y.number∈conf:=of_decide_eq_false h6
         rw[if_neg (fun h=>h.elim (fun h=>h5 (by omega)) h6)]at bU;conv=>whnf
         cases iO:bD e.first y.number with
         | none=>
          rw[iO]at bU;simp only at bU;have FE:=cr (kd:=aD) (vd:=c8.d) (⟨i,k⟩:c8) iO;refine⟨none,aP (kd:=aD) aO iO 0,?_⟩;conv=>whnf
          refine⟨none,aP (kd:=aD) aO iO 0,?_⟩;conv=>whnf
          have rT:eJ aD c8.d e.first ++ [(i64 y.number,c8.d ⟨i,k⟩)]=eJ aD c8.d (cH e.first y.number ⟨i,k⟩):=FE
          refine ae (wrap_i64 (by(try dsimp only);omega)) ?_;conv=>whnf
          subst bU;refine⟨_,⟨lI,fe,by simp only;omega,by simp only;omega,gQ⟩,?_⟩;simp only;rw[<- rT];exact(Wk.sub ⟨rfl,rfl,rfl,rfl,rfl,rfl,rfl,rfl,rfl,rfl,rfl,rfl,rfl,rfl,rfl,rfl,rfl,trivial⟩ ⟨rfl,rfl,rfl,rfl,rfl,rfl,rfl,rfl,rfl,rfl,rfl,trivial⟩)
         | some r0=>
          rw[iO]at bU;simp only at bU;obtain⟨j0,m0,c0,x0,DI,eE,zt,-,lJ⟩:=hE.fst _ _ iO;obtain⟨iy,_,mw,_⟩:=a8 (kd:=aD) (vd:=c8.d) aO iO 0;refine⟨_,mw,?_⟩;conv=>whnf
          subst DI;have AH:=(List.getElem?_eq_some_iff.1 eE.fG).1;have zI:=(List.getElem?_eq_some_iff.1 eE.book).1;refine bh c0.cells ⟨by show(0:Int)<=((j0:Nat):Int);omega,by show(l.aj.map au.cells)[((j0:Nat):Int).toNat]?=_;rw[Int.toNat_natCast,List.getElem?_map,eE.book];rfl⟩ ?_;conv=>whnf
          refine bh x0.cells ⟨by show(0:Int)<=((m0:Nat):Int);omega,by show(c0.ar.map aW.cells)[((m0:Nat):Int).toNat]?=_;rw[Int.toNat_natCast,List.getElem?_map,eE.fG];rfl⟩ ?_;conv=>whnf
          have B4:=(hR.book c0 (List.mem_of_getElem? eE.book)).fG x0 (List.mem_of_getElem? eE.fG);have CI:j0<i:=by
           rcases lJ with lJ|⟨BX,lJ⟩
           ·exact lJ
           ·have iN:=eE.book
            rw[BX]at iN;have mO:c0=b:=Option.some.inj (iN.symm.trans hx);have h7:=(hE.mine y.number).2.2 ⟨m0,lJ,mO▸zt⟩;rw[hN]at h7;omega
          have wc:=hI.pers.2 j0 c0 eE.book CI;refine ao (y.shown-x0.shown) rfl (wrap_i64 (by omega)) ?_;conv=>whnf
          refine af (fun _=>?_) (fun h=>absurd h (by
           show ¬ ((decide (0<=((j0:Nat):Int))&&decide (((j0:Nat):Int)<((x.pers.length:Nat):Int)))=false);have:=hI.pers.1;simp;omega))
          conv=>whnf
          refine cD [.vs ((eQ j0 c0).map ck.cells)] (by
           show(cv x.pers)[0+((j0:Nat):Int).toNat]?=_;unfold cv;rw[Int.toNat_natCast,Nat.zero_add,List.getElem?_map,wc];rfl) ?_
          conv=>whnf
          refine bh (ck.cells ⟨j0,(bE c0 m0:Nat)⟩) ⟨by show(0:Int)<=((m0:Nat):Int);omega,by show((eQ j0 c0).map ck.cells)[((m0:Nat):Int).toNat]?=_;rw[Int.toNat_natCast,List.getElem?_map,fD AH];rfl⟩ ?_;conv=>whnf
          refine ao (-(y.shown-x0.shown)) (by omega) (wrap_i64 (by omega)) ?_;conv=>whnf
          refine ag rfl ?_;conv=>whnf
          refine ag (by simp[aK.len,aJ]) ?_;conv=>whnf
          refine aQ (decide_eq_true (by
           show((aJ ST).length+2)*40<=140737488355328;simp[aJ];omega)) ?_
          conv=>whnf
          refine ae (wrap_i64 (by(try dsimp only);omega)) ?_;conv=>whnf
          rw[gZ eE wc,eg eE]at bU;subst bU;refine⟨_,⟨lI,fe,by simp only[List.length_append,List.length_cons,List.length_nil];omega,by simp only;omega,gQ⟩,?_⟩;have FK:∀ p q:cc,aJ (ST ++ [p,q])=aJ ST++aJ [p,q]:=fun p q=>by unfold aJ;rw[List.map_append]
          simp only[FK];refine(Wk.move 174 900000 rfl rfl).trans (Wk.sub ⟨rfl,rfl,rfl,rfl,rfl,rfl,rfl,rfl,rfl,rfl,rfl,rfl,rfl,rfl,rfl,rfl,rfl,trivial⟩ ⟨rfl,rfl,rfl,?_,rfl,rfl,rfl,rfl,rfl,rfl,rfl,trivial⟩);show some (Obj.box (Cells.vv [.d (i64 l.near),.d (bF l.aj),.sl 900000 5 0 ((aJ ST).length+2),.sl 900001 1 0 x.pers.length,.d (i64 e.many)]))=_;simp[aJ]
     ·rw[if_neg h3]at bU
      have QQ:y.kind=1:=by omega
      have ht:bL y = .ifc 214 (.agg [.str y.word]):=by unfold bL;rw[if_pos QQ]
      rw[ht];conv=>whnf
      refine ae (wrap_i64 (by(try dsimp only);omega)) ?_;conv=>whnf
      subst bU;exact⟨_,⟨lI,fe,by simp only;omega,by simp only;omega,fun num=>by have:=BY num;simp only;omega⟩,(Wk.sub ⟨rfl,rfl,rfl,rfl,rfl,rfl,rfl,rfl,rfl,rfl,rfl,rfl,rfl,rfl,rfl,rfl,rfl,trivial⟩ ⟨rfl,rfl,rfl,rfl,rfl,rfl,rfl,rfl,rfl,rfl,rfl,trivial⟩)⟩
   ·have h1:k=0:=by have:=of_decide_eq_false h1;omega
    rw[if_pos h1]at hST;conv=>whnf
    refine dO.Nw ?_;refine ai (zS y) rfl rfl ?_;refine⟨⟨[(2,.d (ax conf)),(3,.ptr 3 0),(4,.ptr 4 0),(7,.ptr 7 0),(8,.mp 26),(9,.clo 168 [.ptr 7 0,.ptr 4 0]),(29,.d (bF l.aj)),(30,.d (i64 l.aj.length)),(31,.d (i64 i)),(10,.d (i64 i)),(11,.ptr 11 0),(12,.ptr 12 0),(13,.sl 55 2 0 (e.of ++ [e.now]).length),(14,.mp 43),(15,.d (i64 k)),(16,.ptr 16 0),(45,.d (kJ b.ar)),(46,.d (i64 b.ar.length)),(47,.d (i64 k)),(85,.d (bL y))],[(3,.box (.dd l.cells)),(4,.box (.dd [i64 wider])),(7,.box (.vv [.ptr 25 0])),(25,.box (.vv [.d (i64 l.near),.d (bF l.aj),.sl 900000 5 0 ST.length,.sl 900001 1 0 x.pers.length,.d (i64 e.many)])),(900000,.arr 5 (.dd (aJ ST))),(900001,.arr 1 (.dd (cv x.pers))),(26,.map (eJ aD c8.d e.first)),(11,.box (.dd b.cells)),(12,.box (.dd e.now.cells)),(16,.box (.dd y.cells)),(43,.map (eJ aD aD e.mine)),(55,.arr 2 (.dd (cF (e.of ++ [e.now]))))],st⟩,Wk.sub ⟨rfl,rfl,rfl,rfl,rfl,rfl,rfl,rfl,rfl,rfl,rfl,rfl,?_,rfl,rfl,rfl,rfl,rfl,rfl,rfl,trivial⟩ ⟨rfl,rfl,rfl,?_,?_,rfl,rfl,rfl,rfl,rfl,rfl,?_,trivial⟩,?_⟩
    ·show some (V.sl 55 2 0 ((cF e.of).length+1))=_
     simp[cF]
    ·rw[<- hST];rfl
    ·rw[<- hST];rfl
    ·show some (Obj.arr 2 (aK.dd (cF e.of ++ [e.now.cells])))=_
     simp[cF]
    have RJ:ST.length<=e.steps.length+1:=by rw[<- hST];simp
    by_cases h2:y.kind=2
    ·rw[if_pos h2]at bU
     have ht:bL y = .ifc 288 (.agg []):=by unfold bL;rw[if_neg (by omega),if_pos h2]
     rw[ht];have U5:=l5 b k;have Z7:=nN b;have Ht:=hB.ar;have IU:e.now.n=(bE b k:Nat):=by rw[hE.now]
     conv=>whnf
     refine ae (wrap_i64 (by(try dsimp only);omega)) ?_;conv=>whnf
     refine aY (AY l wider hw ST (by omega) x.pers e.many (by omega) ⟨e.now.book,e.now.n+1⟩ b.set hB.set) [7,4,25,900000,900001] rfl ?lent rfl ?_;case lent=>exact⟨_,_,rfl,bK rfl ⟨⟨rfl,rfl⟩,trivial⟩,_,_,rfl,rfl,_,_,rfl,bK rfl ⟨rfl,rfl,⟨rfl,rfl,rfl,rfl⟩,⟨rfl,rfl,rfl,rfl⟩,rfl,trivial⟩,_,_,rfl,rfl,_,_,rfl,rfl,rfl⟩
     conv=>whnf
     refine ae (wrap_i64 (by(try dsimp only);omega)) ?_;conv=>whnf
     subst bU;refine⟨_,⟨lI,fe,?_,?_,fun num=>by have:=BY num;simp only;omega⟩,?_⟩
     ·simp[dP];omega
     ·simp only;omega
     ·exact(Wk.move 106208 900000 rfl rfl).trans (Wk.sub ⟨rfl,rfl,rfl,rfl,rfl,rfl,rfl,rfl,rfl,rfl,rfl,rfl,rfl,rfl,rfl,rfl,rfl,trivial⟩ ⟨rfl,rfl,rfl,rfl,rfl,rfl,rfl,rfl,rfl,rfl,rfl,trivial⟩)
    ·rw[if_neg h2]at bU
     by_cases h3:y.kind=3
     ·rw[if_pos h3]at bU
      have ht:bL y = .ifc 228 (.agg [.str y.word,i64 y.number]):=by unfold bL;rw[if_neg (by omega),if_neg h2,if_pos h3]
      rw[ht];have uF:=BY y.number;have Lv:=(hE.mine y.number).1;generalize hN:(bD e.mine y.number).getD 0=N at bU uF Lv;have gQ:∀ num,(bD (cH e.mine y.number (N+1)) num).getD 0<=((k+1:Nat):Int):=fun num=>by
       rw[dw];split
       ·simp only[Option.getD_some];omega
       ·have:=BY num;omega
      conv=>whnf
      cases td:bD e.mine y.number with
      | none=>
       have Ft:N=0:=by rw[<- hN,td];rfl
       have zL:=cr (kd:=aD) (vd:=aD) (N+1) td;refine⟨none,aP (kd:=aD) aO td 0,?_⟩;conv=>whnf
       refine ao (N+1) (by omega) (wrap_i64 (by omega)) ?_;conv=>whnf
       refine⟨none,aP (kd:=aD) aO td 0,?_⟩;conv=>whnf
       have lN:eJ aD aD e.mine ++ [(i64 y.number,i64 (N+1))]=eJ aD aD (cH e.mine y.number (N+1)):=zL;rw[lN];obtain⟨iz,_,AL,_⟩:=a8 (kd:=aD) (vd:=aD) aO (show bD (cH e.mine y.number (N+1)) y.number=some (N+1) by rw[dw,if_pos rfl]) 0;refine⟨_,AL,?_⟩;conv=>whnf
       refine af (fun h5=>?_) (fun h5=>?_)
       ·have h5:1<N+1:=of_decide_eq_true h5
        rw[if_pos (.inl (by omega))]at bU;conv=>whnf
        refine ae (wrap_i64 (by(try dsimp only);omega)) ?_;conv=>whnf
        subst bU;exact⟨_,⟨lI,fe,by simp only;omega,by simp only;omega,gQ⟩,(Wk.sub ⟨rfl,rfl,rfl,rfl,rfl,rfl,rfl,rfl,rfl,rfl,rfl,rfl,rfl,rfl,rfl,rfl,rfl,trivial⟩ ⟨rfl,rfl,rfl,rfl,rfl,rfl,rfl,rfl,rfl,rfl,rfl,trivial⟩)⟩
       ·have h5:¬ 1<N+1:=of_decide_eq_false h5
        conv=>whnf
        refine ai (Dj conf y.number (by omega)) rfl rfl ?_;conv=>whnf
        refine af (fun h6=>?_) (fun h6=>?_)
        ·have h6:y.number∈conf:=of_decide_eq_true h6
         rw[if_pos (.inr h6)]at bU;conv=>whnf
         refine ae (wrap_i64 (by(try dsimp only);omega)) ?_;conv=>whnf
         subst bU;exact⟨_,⟨lI,fe,by simp only;omega,by simp only;omega,gQ⟩,(Wk.sub ⟨rfl,rfl,rfl,rfl,rfl,rfl,rfl,rfl,rfl,rfl,rfl,rfl,rfl,rfl,rfl,rfl,rfl,trivial⟩ ⟨rfl,rfl,rfl,rfl,rfl,rfl,rfl,rfl,rfl,rfl,rfl,trivial⟩)⟩
        ·have h6:¬ y.number∈conf:=of_decide_eq_false h6
         rw[if_neg (fun h=>h.elim (fun h=>h5 (by omega)) h6)]at bU;conv=>whnf
         cases iO:bD e.first y.number with
         | none=>
          rw[iO]at bU;simp only at bU;have FE:=cr (kd:=aD) (vd:=c8.d) (⟨i,k⟩:c8) iO;refine⟨none,aP (kd:=aD) aO iO 0,?_⟩;conv=>whnf
          refine⟨none,aP (kd:=aD) aO iO 0,?_⟩;conv=>whnf
          have rT:eJ aD c8.d e.first ++ [(i64 y.number,c8.d ⟨i,k⟩)]=eJ aD c8.d (cH e.first y.number ⟨i,k⟩):=FE
          refine ae (wrap_i64 (by(try dsimp only);omega)) ?_;conv=>whnf
          subst bU;refine⟨_,⟨lI,fe,by simp only;omega,by simp only;omega,gQ⟩,?_⟩;simp only;rw[<- rT];exact(Wk.sub ⟨rfl,rfl,rfl,rfl,rfl,rfl,rfl,rfl,rfl,rfl,rfl,rfl,rfl,rfl,rfl,rfl,rfl,trivial⟩ ⟨rfl,rfl,rfl,rfl,rfl,rfl,rfl,rfl,rfl,rfl,rfl,trivial⟩)
         | some r0=>
          rw[iO]at bU;simp only at bU;obtain⟨j0,m0,c0,x0,DI,eE,zt,-,lJ⟩:=hE.fst _ _ iO;obtain⟨iy,_,mw,_⟩:=a8 (kd:=aD) (vd:=c8.d) aO iO 0;refine⟨_,mw,?_⟩;conv=>whnf
          subst DI;have AH:=(List.getElem?_eq_some_iff.1 eE.fG).1;have zI:=(List.getElem?_eq_some_iff.1 eE.book).1;refine bh c0.cells ⟨by show(0:Int)<=((j0:Nat):Int);omega,by show(l.aj.map au.cells)[((j0:Nat):Int).toNat]?=_;rw[Int.toNat_natCast,List.getElem?_map,eE.book];rfl⟩ ?_;conv=>whnf
          refine bh x0.cells ⟨by show(0:Int)<=((m0:Nat):Int);omega,by show(c0.ar.map aW.cells)[((m0:Nat):Int).toNat]?=_;rw[Int.toNat_natCast,List.getElem?_map,eE.fG];rfl⟩ ?_;conv=>whnf
          have B4:=(hR.book c0 (List.mem_of_getElem? eE.book)).fG x0 (List.mem_of_getElem? eE.fG);have CI:j0<i:=by
           rcases lJ with lJ|⟨BX,lJ⟩
           ·exact lJ
           ·have iN:=eE.book
            rw[BX]at iN;have mO:c0=b:=Option.some.inj (iN.symm.trans hx);have h7:=(hE.mine y.number).2.2 ⟨m0,lJ,mO▸zt⟩;rw[hN]at h7;omega
          have wc:=hI.pers.2 j0 c0 eE.book CI;refine ao (y.shown-x0.shown) rfl (wrap_i64 (by omega)) ?_;conv=>whnf
          refine af (fun _=>?_) (fun h=>absurd h (by
           show ¬ ((decide (0<=((j0:Nat):Int))&&decide (((j0:Nat):Int)<((x.pers.length:Nat):Int)))=false);have:=hI.pers.1;simp;omega))
          conv=>whnf
          refine cD [.vs ((eQ j0 c0).map ck.cells)] (by
           show(cv x.pers)[0+((j0:Nat):Int).toNat]?=_;unfold cv;rw[Int.toNat_natCast,Nat.zero_add,List.getElem?_map,wc];rfl) ?_
          conv=>whnf
          refine bh (ck.cells ⟨j0,(bE c0 m0:Nat)⟩) ⟨by show(0:Int)<=((m0:Nat):Int);omega,by show((eQ j0 c0).map ck.cells)[((m0:Nat):Int).toNat]?=_;rw[Int.toNat_natCast,List.getElem?_map,fD AH];rfl⟩ ?_;conv=>whnf
          refine ao (-(y.shown-x0.shown)) (by omega) (wrap_i64 (by omega)) ?_;conv=>whnf
          refine ag rfl ?_;conv=>whnf
          refine ag (by simp[aK.len,aJ]) ?_;conv=>whnf
          refine aQ (decide_eq_true (by
           show((aJ ST).length+2)*40<=140737488355328;simp[aJ];omega)) ?_
          conv=>whnf
          refine ae (wrap_i64 (by(try dsimp only);omega)) ?_;conv=>whnf
          rw[gZ eE wc,eg eE]at bU;subst bU;refine⟨_,⟨lI,fe,by simp only[List.length_append,List.length_cons,List.length_nil];omega,by simp only;omega,gQ⟩,?_⟩;have FK:∀ p q:cc,aJ (ST ++ [p,q])=aJ ST++aJ [p,q]:=fun p q=>by unfold aJ;rw[List.map_append]
          simp only[FK];refine(Wk.move 174 900000 rfl rfl).trans (Wk.sub ⟨rfl,rfl,rfl,rfl,rfl,rfl,rfl,rfl,rfl,rfl,rfl,rfl,rfl,rfl,rfl,rfl,rfl,trivial⟩ ⟨rfl,rfl,rfl,?_,rfl,rfl,rfl,rfl,rfl,rfl,rfl,trivial⟩);show some (Obj.box (Cells.vv [.d (i64 l.near),.d (bF l.aj),.sl 900000 5 0 ((aJ ST).length+2),.sl 900001 1 0 x.pers.length,.d (i64 e.many)]))=_;simp[aJ]
      | some n0=>
       have Ft:N=n0:=by rw[<- hN,td];rfl
       obtain⟨ix,_,mf,ub,_⟩:=a8 (kd:=aD) (vd:=aD) aO td 0;refine⟨_,mf,?_⟩;conv=>whnf
       refine ao (N+1) (by rw[Ft]) (wrap_i64 (by omega)) ?_;conv=>whnf
       refine⟨_,mf,?_⟩;conv=>whnf
       have lN:(eJ aD aD e.mine).set (0+ix,aD n0).fst (i64 y.number,i64 (N+1))=eJ aD aD (cH e.mine y.number (N+1)):=by
        show(eJ aD aD e.mine).set (0+ix) _=_;rw[Nat.zero_add];exact ub (N+1)
       rw[lN];obtain⟨iz,_,AL,_⟩:=a8 (kd:=aD) (vd:=aD) aO (show bD (cH e.mine y.number (N+1)) y.number=some (N+1) by rw[dw,if_pos rfl]) 0;refine⟨_,AL,?_⟩;conv=>whnf
       refine af (fun h5=>?_) (fun h5=>?_)
       ·have h5:1<N+1:=of_decide_eq_true h5
        rw[if_pos (.inl (by omega))]at bU;conv=>whnf
        refine ae (wrap_i64 (by(try dsimp only);omega)) ?_;conv=>whnf
        subst bU;exact⟨_,⟨lI,fe,by simp only;omega,by simp only;omega,gQ⟩,(Wk.sub ⟨rfl,rfl,rfl,rfl,rfl,rfl,rfl,rfl,rfl,rfl,rfl,rfl,rfl,rfl,rfl,rfl,rfl,trivial⟩ ⟨rfl,rfl,rfl,rfl,rfl,rfl,rfl,rfl,rfl,rfl,rfl,trivial⟩)⟩
       ·have h5:¬ 1<N+1:=of_decide_eq_false h5
        conv=>whnf
        refine ai (Dj conf y.number (by omega)) rfl rfl ?_;conv=>whnf
        refine af (fun h6=>?_) (fun h6=>?_)
        ·have h6:y.number∈conf:=of_decide_eq_true h6
         rw[if_pos (.inr h6)]at bU;conv=>whnf
         refine ae (wrap_i64 (by(try dsimp only);omega)) ?_;conv=>whnf
         subst bU;exact⟨_,⟨lI,fe,by simp only;omega,by simp only;omega,gQ⟩,(Wk.sub ⟨rfl,rfl,rfl,rfl,rfl,rfl,rfl,rfl,rfl,rfl,rfl,rfl,rfl,rfl,rfl,rfl,rfl,trivial⟩ ⟨rfl,rfl,rfl,rfl,rfl,rfl,rfl,rfl,rfl,rfl,rfl,trivial⟩)⟩
        ·have h6:¬ y.number∈conf:=of_decide_eq_false h6
         rw[if_neg (fun h=>h.elim (fun h=>h5 (by omega)) h6)]at bU;conv=>whnf
         cases iO:bD e.first y.number with
         | none=>
          rw[iO]at bU;simp only at bU;have FE:=cr (kd:=aD) (vd:=c8.d) (⟨i,k⟩:c8) iO;refine⟨none,aP (kd:=aD) aO iO 0,?_⟩;conv=>whnf
          refine⟨none,aP (kd:=aD) aO iO 0,?_⟩;conv=>whnf
          have rT:eJ aD c8.d e.first ++ [(i64 y.number,c8.d ⟨i,k⟩)]=eJ aD c8.d (cH e.first y.number ⟨i,k⟩):=FE
          refine ae (wrap_i64 (by(try dsimp only);omega)) ?_;conv=>whnf
          subst bU;refine⟨_,⟨lI,fe,by simp only;omega,by simp only;omega,gQ⟩,?_⟩;simp only;rw[<- rT];exact(Wk.sub ⟨rfl,rfl,rfl,rfl,rfl,rfl,rfl,rfl,rfl,rfl,rfl,rfl,rfl,rfl,rfl,rfl,rfl,trivial⟩ ⟨rfl,rfl,rfl,rfl,rfl,rfl,rfl,rfl,rfl,rfl,rfl,trivial⟩)
         | some r0=>
          rw[iO]at bU;simp only at bU;obtain⟨j0,m0,c0,x0,DI,eE,zt,-,lJ⟩:=hE.fst _ _ iO;obtain⟨iy,_,mw,_⟩:=a8 (kd:=aD) (vd:=c8.d) aO iO 0;refine⟨_,mw,?_⟩;conv=>whnf
          subst DI;have AH:=(List.getElem?_eq_some_iff.1 eE.fG).1;have zI:=(List.getElem?_eq_some_iff.1 eE.book).1;refine bh c0.cells ⟨by show(0:Int)<=((j0:Nat):Int);omega,by show(l.aj.map au.cells)[((j0:Nat):Int).toNat]?=_;rw[Int.toNat_natCast,List.getElem?_map,eE.book];rfl⟩ ?_;conv=>whnf
          refine bh x0.cells ⟨by show(0:Int)<=((m0:Nat):Int);omega,by show(c0.ar.map aW.cells)[((m0:Nat):Int).toNat]?=_;rw[Int.toNat_natCast,List.getElem?_map,eE.fG];rfl⟩ ?_;conv=>whnf
          have B4:=(hR.book c0 (List.mem_of_getElem? eE.book)).fG x0 (List.mem_of_getElem? eE.fG);have CI:j0<i:=by
           rcases lJ with lJ|⟨BX,lJ⟩
           ·exact lJ
           ·have iN:=eE.book
            rw[BX]at iN;have mO:c0=b:=Option.some.inj (iN.symm.trans hx);have h7:=(hE.mine y.number).2.2 ⟨m0,lJ,mO▸zt⟩;rw[hN]at h7;omega
          have wc:=hI.pers.2 j0 c0 eE.book CI;refine ao (y.shown-x0.shown) rfl (wrap_i64 (by omega)) ?_;conv=>whnf
          refine af (fun _=>?_) (fun h=>absurd h (by
           show ¬ ((decide (0<=((j0:Nat):Int))&&decide (((j0:Nat):Int)<((x.pers.length:Nat):Int)))=false);have:=hI.pers.1;simp;omega))
          conv=>whnf
          refine cD [.vs ((eQ j0 c0).map ck.cells)] (by
           show(cv x.pers)[0+((j0:Nat):Int).toNat]?=_;unfold cv;rw[Int.toNat_natCast,Nat.zero_add,List.getElem?_map,wc];rfl) ?_
          conv=>whnf
          refine bh (ck.cells ⟨j0,(bE c0 m0:Nat)⟩) ⟨by show(0:Int)<=((m0:Nat):Int);omega,by show((eQ j0 c0).map ck.cells)[((m0:Nat):Int).toNat]?=_;rw[Int.toNat_natCast,List.getElem?_map,fD AH];rfl⟩ ?_;conv=>whnf
          refine ao (-(y.shown-x0.shown)) (by omega) (wrap_i64 (by omega)) ?_;conv=>whnf
          refine ag rfl ?_;conv=>whnf
          refine ag (by simp[aK.len,aJ]) ?_;conv=>whnf
          refine aQ (decide_eq_true (by
           show((aJ ST).length+2)*40<=140737488355328;simp[aJ];omega)) ?_
          conv=>whnf
          refine ae (wrap_i64 (by(try dsimp only);omega)) ?_;conv=>whnf
          rw[gZ eE wc,eg eE]at bU;subst bU;refine⟨_,⟨lI,fe,by simp only[List.length_append,List.length_cons,List.length_nil];omega,by simp only;omega,gQ⟩,?_⟩;have FK:∀ p q:cc,aJ (ST ++ [p,q])=aJ ST++aJ [p,q]:=fun p q=>by unfold aJ;rw[List.map_append]
          simp only[FK];refine(Wk.move 174 900000 rfl rfl).trans (Wk.sub ⟨rfl,rfl,rfl,rfl,rfl,rfl,rfl,rfl,rfl,rfl,rfl,rfl,rfl,rfl,rfl,rfl,rfl,trivial⟩ ⟨rfl,rfl,rfl,?_,rfl,rfl,rfl,rfl,rfl,rfl,rfl,trivial⟩);show some (Obj.box (Cells.vv [.d (i64 l.near),.d (bF l.aj),.sl 900000 5 0 ((aJ ST).length+2),.sl 900001 1 0 x.pers.length,.d (i64 e.many)]))=_;simp[aJ]
     ·rw[if_neg h3]at bU
      have QQ:y.kind=1:=by omega
      have ht:bL y = .ifc 214 (.agg [.str y.word]):=by unfold bL;rw[if_pos QQ]
      rw[ht];conv=>whnf
      refine ae (wrap_i64 (by(try dsimp only);omega)) ?_;conv=>whnf
      subst bU;exact⟨_,⟨lI,fe,by simp only;omega,by simp only;omega,fun num=>by have:=BY num;simp only;omega⟩,(Wk.sub ⟨rfl,rfl,rfl,rfl,rfl,rfl,rfl,rfl,rfl,rfl,rfl,rfl,rfl,rfl,rfl,rfl,rfl,trivial⟩ ⟨rfl,rfl,rfl,rfl,rfl,rfl,rfl,rfl,rfl,rfl,rfl,trivial⟩)⟩
  ·rintro e ⟨hE,fe,zz,Zk,BY⟩
   conv=>whnf
   refine af (fun h=>absurd h (by simp)) (fun _=>?_);conv=>whnf
   refine ag rfl ?_;conv=>whnf
   refine ag (by simp[aK.len,cv]) ?_;conv=>whnf
   have eV:(true && !dF 185 ((aG (cv x.pers) ++ [[V.sl 55 2 0 e.of.length]]).flatten))=true:=by
    rw[eh];rfl
   refine aQ eV ?_;conv=>whnf
   refine aQ (decide_eq_true (by
    show((cv x.pers).length+1)*24<=140737488355328;have:=hI.pers.1;simp[cv];omega)) ?_
   conv=>whnf
   refine fN [55,185] (by
    show bJ ((aG (cv x.pers) ++ [[V.sl 55 2 0 e.of.length]]).flatten)++([185] ++ [])=_;rw[dq];rfl) ?_
   conv=>whnf
   refine ao ((i+1:Nat):Int) (by omega) (wrap_i64 (by omega)) ?_;conv=>whnf
   have fe:e=ER:=fe;subst fe;have LA:e.of.length=b.ar.length:=by rw[hE.of];simp
   refine⟨⟨e.steps,e.many,e.first,x.pers ++ [e.of]⟩,⟨by rw[<- hy]at uD;exact uD,by rw[<- hy]at JT;exact JT,by simp only;have:=hB.ar;omega,by simp only;have:=hB.ar;omega⟩,?_⟩;refine(Wk.iB 1 [55] 185 (sz:=1) (vs:=aG (cv x.pers) ++ [[.sl 55 2 0 e.of.length]]) (ds:=cv x.pers ++ [[.vs (cF e.of)]]) ?_ (dK (dL (az (bH rfl (by simp[cF])) rfl)) _)).trans ((Wk.move 185 900001 rfl rfl).trans (Wk.sub ⟨rfl,rfl,rfl,rfl,rfl,rfl,rfl,rfl,rfl,trivial⟩ ⟨rfl,rfl,rfl,?_,rfl,?_,rfl,trivial⟩))
   ·rfl
   ·show some (Obj.box (Cells.vv [.d (i64 l.near),.d (bF l.aj),.sl 900000 5 0 e.steps.length,.sl 900001 1 0 ((cv x.pers).length+1),.d (i64 e.many)]))=_
    simp[cv]
   ·show some (Obj.arr 1 (aK.dd (cv x.pers ++ [[.vs (cF e.of)]])))=_
    unfold cv cF;rw[List.map_append];rfl
 ·rintro x ⟨uD,hI,jA,uF⟩
  have uD:x=Nc:=uD;subst uD;conv=>whnf
  refine af (fun h=>absurd h (by simp)) (fun _=>?_);conv=>whnf
  refine ab 2 (ds:=[ew l x]) (az (Bj rfl (ln (a:=[i64 l.near,bF l.aj]) (az (dW (es':=aJ x.steps) rfl rfl (by simp[aJ])) (az (dW (es':=cv x.pers) rfl rfl (by simp[cv])) rfl)))) rfl) ⟨⟨rfl,rfl⟩,rfl⟩
theorem Mw(l:aM)(hR:pn l):bq Tryz.prog 107 [l.d,i64 0,.vs []] (ew l (bG l 0 [])):=VQ l hR 0 (by omega) [] (by simp)
theorem nW{P:Program}{σ:Type}{Y:Hd σ}{st:St σ}{d:Option Nat}{f:FuncId}{a b:V}{r:List V}{K:St σ->Prop}(hc:dO P Y st d f (a::b :: .d (.vs [])::r) K):dO P Y st d f (a::b :: .d .nils::r) K:=by
 refine ue (fun yv L F w l h=>?_) hc;obtain⟨x,l',rfl,h1,y,Vs,rfl,h2,z,l3,rfl,h3,h4⟩:=h;exact⟨x,_,rfl,h1,y,_,rfl,h2,z,_,rfl,bM.cO .nils z h3,h4⟩
theorem aau(l:aM)(x:qw)(hR:u3 x):bq Tryz.prog 67 [ew l x] (i64 (if s4 x (fU x .right)=true then 0 else 9)):=by
 refine aI mixed ak Tryz.func67 rfl (ft:=YA) 1 (by decide +kernel) (by rfl) fun {σ} Y st=>?_;conv=>whnf
 refine ai (Cj) rfl rfl ?_;conv=>whnf
 refine ai (OU l x hR .right) rfl rfl ?_
 cases h:s4 x (fU x .right) with
 | true=>
  simp only[if_true];conv=>whnf
  exact ab 0 rfl ⟨⟨rfl,rfl⟩,rfl⟩
 | false=>
  simp only[Bool.false_eq_true,if_false];conv=>whnf
  exact ab 0 rfl ⟨⟨rfl,rfl⟩,rfl⟩
theorem QB{l:aM}{i k:Nat}{b:au}{y:aW}(h:At l i k b y):(0:Int)<=(i:Int)/\(l.aj.map au.cells)[((i:Nat):Int).toNat]?=some b.cells:=
 ⟨by omega,by rw[Int.toNat_natCast,List.getElem?_map,h.book];rfl⟩
theorem QH{l:aM}{i k:Nat}{b:au}{y:aW}(h:At l i k b y):(0:Int)<=(k:Int)/\(b.ar.map aW.cells)[((k:Nat):Int).toNat]?=some y.cells:=
 ⟨by omega,by rw[Int.toNat_natCast,List.getElem?_map,h.fG];rfl⟩
theorem OV(l:aM)(x:qw){i k:Nat}{b:au}{y:aW}(h:At l i k b y):bq Tryz.prog 70 [ew l x,(c8.mk i k).d] y.d:=by
 refine aI mixed ak Tryz.func70 rfl (ft:=YD) 2 (by decide +kernel) (by rfl) fun {σ} Y st=>?_;conv=>whnf
 refine bh b.cells (QB h) ?_;conv=>whnf
 refine bh y.cells (QH h) ?_;conv=>whnf
 exact ab 0 rfl ⟨⟨rfl,rfl⟩,rfl⟩
theorem Gq{l:aM}{i k:Nat}{b:au}{y:aW}(h:At l i k b y):(0:Int)<=(i:Int)/\((bG l 0 []).pers.map fun r=>[D.vs (r.map ck.cells)])[((i:Nat):Int).toNat]?=some [D.vs ((eQ i b).map ck.cells)]:=
 ⟨by omega,by rw[Int.toNat_natCast,List.getElem?_map,(qF l 0 []).pers.2 i b h.book (CW h)];rfl⟩
theorem Gp{l:aM}{i k:Nat}{b:au}{y:aW}(h:At l i k b y):(0:Int)<=(k:Int)/\((eQ i b).map ck.cells)[((k:Nat):Int).toNat]?=some (ck.cells ⟨i,bE b k⟩):=
 ⟨by omega,by rw[Int.toNat_natCast,List.getElem?_map,fD (List.getElem?_eq_some_iff.1 h.fG).1];rfl⟩
theorem Il{l:aM}{i k j m:Nat}{b c:au}{y z:aW}(h:At l i k b y)(h':At l j m c z):lu l ⟨i,k⟩ ⟨j,m⟩=⟨(z.shown-y.shown)-(cK (bG l 0 []) ⟨j,bE c m⟩ ⟨i,bE b k⟩).hi,(z.shown-y.shown)-(cK (bG l 0 []) ⟨j,bE c m⟩ ⟨i,bE b k⟩).lo⟩:=by
 unfold lu;rw[kW h,kW h',eg h,eg h']
theorem VV(l:aM){i k j m:Nat}{b c:au}{y z:aW}(h:At l i k b y)(h':At l j m c z)(A B:Int)(hA : -4000000000<=A/\A<=4000000000)(hB : -4000000000<=B/\B<=4000000000)(hy:0<=y.shown/\y.shown<=20000)(hz:0<=z.shown/\z.shown<=20000)
  (QR:bq Tryz.prog 68 [ew l (bG l 0 []),ck.d ⟨j,bE c m⟩,ck.d ⟨i,bE b k⟩] (.agg [i64 A,i64 B])):bq Tryz.prog 110 [ew l (bG l 0 []),(c8.mk i k).d,(c8.mk j m).d] (.agg [i64 ((z.shown-y.shown)-B),i64 ((z.shown-y.shown)-A)]):=by
 refine aI mixed ak Tryz.func110 rfl (ft:=Tx) 3 (by decide +kernel) (by rfl) fun {σ} Y st=>?_;conv=>whnf
 refine bh _ (Gq h') ?_;conv=>whnf
 refine bh _ (Gp h') ?_;conv=>whnf
 refine bh _ (Gq h) ?_;conv=>whnf
 refine bh _ (Gp h) ?_;conv=>whnf
 refine aH (ds:=[ew l (bG l 0 []),ck.d ⟨j,bE c m⟩,ck.d ⟨i,bE b k⟩]) QR rfl rfl ?_;conv=>whnf
 refine aH (OV l _ h') rfl rfl ?_;conv=>whnf
 refine aH (OV l _ h) rfl rfl ?_;conv=>whnf
 refine ae (wrap_i64 (by(try dsimp only);omega)) ?_;conv=>whnf
 refine ae (wrap_i64 (by(try dsimp only);omega)) ?_;conv=>whnf
 refine ae (wrap_i64 (by(try dsimp only);omega)) ?_;conv=>whnf
 exact ab 0 rfl ⟨⟨rfl,rfl⟩,rfl⟩
theorem VU(l:aM)(hR:pn l)(hf:gK l 0 []=true){i k j m:Nat}{b c:au}{y z:aW}(h:At l i k b y)(h':At l j m c z):bq Tryz.prog 110 [ew l (bG l 0 []),(c8.mk i k).d,(c8.mk j m).d] (lu l ⟨i,k⟩ ⟨j,m⟩).d:=by
 rw[Il h h'];have hL:=uL hR (w:=0) (by omega) [];have hn:=jN (iG.2 ⟨i,k,b,y,rfl,h⟩);have CJ:=jN (iG.2 ⟨j,m,c,z,rfl,h'⟩);rw[kW h]at hn;rw[kW h']at CJ;have hb:=xm hL ⟨j,bE c m⟩ ⟨i,bE b k⟩;have kS:=xm hL ⟨i,bE b k⟩ ⟨j,bE c m⟩;have hy:=((hR.book b (List.mem_of_getElem? h.book)).fG y (List.mem_of_getElem? h.fG)).1;have hz:=((hR.book c (List.mem_of_getElem? h'.book)).fG z (List.mem_of_getElem? h'.fG)).1;exact fun {σ}=>bq.cast (fun {σ}=>VV l h h' (cK (bG l 0 []) ⟨j,bE c m⟩ ⟨i,bE b k⟩).lo (cK (bG l 0 []) ⟨j,bE c m⟩ ⟨i,bE b k⟩).hi ⟨by show -4000000000 <= -_;omega,by show -_<=4000000000;omega⟩ kS hy hz (fun {σ}=>VS l (bG l 0 []) hL ⟨j,bE c m⟩ ⟨i,bE b k⟩ (wE hf CJ) (wE hf hn))) rfl
def He(l:aM)(xs:List c8):D:=if gN l xs=0 then ew l (bG l 0 []) else .nilp
def oa(l:List c8):D:=.vs (l.map c8.cells)
theorem jI(l:aM):fK l=((fK l).1,(fK l).2.1,bB l):=rfl
theorem kN(l:aM)(p q e:Int)(h:fK l=(p,q,e)):bq Tryz.prog 106 [l.d] (.tup [i64 p,i64 q,i64 e]):=bq.cast (fun {σ}=>aaf l) (by rw[h];rfl)
theorem VT(l:aM)(xs:List c8)(hx:xs.length<1000000):bq Tryz.prog 66 [l.d,oa xs] (.tup [He l xs,i64 (gN l xs)]):=by
 unfold He gN;refine aI mixed ak Tryz.func66 rfl (ft:=Yz) 2 (by decide +kernel) (by rfl) fun {σ} Y st=>?_;conv=>whnf
 by_cases hc:bB l=0
 ·rw[if_pos hc]
  have hR:=fk hc;have wF:=hR.aj;refine ai (kN l 0 0 0 (jJ hc)) rfl rfl ?_;conv=>whnf
  generalize hE:(if xs.all (tk l)=true then (0:Int) else 4)=E;refine bx (T:=tys) ak (by exact an mixed ak (by decide +kernel)) xs (fun i (_:Unit)=>⟨[(2,.ptr 2 0),(20,.d (oa xs)),(21,.d (i64 xs.length)),(22,.d (i64 i))],[(2,.box (.dd l.cells))],st⟩) (fun i r _=>(if r.all (tk l)=true then (0:Int) else 4)=E) () (Wk.sub (by repeat' first|constructor|simp[PX.get]) ⟨(by first|rfl|simp[PX.get]),trivial⟩) hE ?_ ?_
  ·rintro i x r _ hxi hi hr he
   conv=>whnf
   refine af (fun _=>?_) (fun h=>absurd hi (by simpa using h));conv=>whnf
   refine aw hxi ?_;conv=>whnf
   refine ao ((l.aj.length:Int)-1) (by simp) (wrap_i64 (by omega)) ?_;conv=>whnf
   refine a7 (yP 0 ((l.aj.length:Int)-1) x.book) rfl 1 rfl ?_;rw[List.all_cons]at he;unfold tk at he
   cases h1:fP x.book 0 ((l.aj.length:Int)-1) with
   | true=>
    rw[h1]at he;simp only[Bool.not_true,Bool.false_and,Bool.false_eq_true,if_false]at he;conv=>whnf
    subst he;exact ab 0 rfl ⟨⟨rfl,rfl⟩,rfl⟩
   | false=>
    rw[h1]at he;simp only[Bool.not_false,Bool.true_and]at he;have h1:=dH.1 h1;obtain⟨b,hb⟩:∃ b,l.aj[x.book.toNat]?=some b:=⟨_,List.getElem?_eq_getElem (by omega)⟩;have Lb:mI l x.book=b:=by unfold mI;rw[hb];rfl
    rw[Lb]at he;have QX:=(hR.book b (List.mem_of_getElem? hb)).ar;conv=>whnf
    refine bh b.cells ⟨h1.1,by rw[List.getElem?_map,hb];rfl⟩ ?_;conv=>whnf
    refine ao ((b.ar.length:Int)-1) (by simp) (wrap_i64 (by omega)) ?_;conv=>whnf
    refine a7 (yP 0 ((b.ar.length:Int)-1) x.entry) rfl 1 rfl ?_
    cases h2:fP x.entry 0 ((b.ar.length:Int)-1) with
    | true=>
     rw[h2]at he;simp only[Bool.not_true,Bool.false_and,Bool.false_eq_true,if_false]at he;conv=>whnf
     subst he;exact ab 0 rfl ⟨⟨rfl,rfl⟩,rfl⟩
    | false=>
     rw[h2]at he;simp only[Bool.not_false,Bool.true_and]at he;conv=>whnf
     refine ae (wrap_i64 (by(try dsimp only);omega)) ?_;conv=>whnf
     exact⟨(),he,(Wk.sub (by repeat' first|constructor|simp[PX.get]) ⟨(by first|rfl|simp[PX.get]),trivial⟩)⟩
  ·rintro _ he
   have he:(0:Int)=E:=he;subst he;conv=>whnf
   refine af (fun h=>absurd h (by simp)) (fun _=>?_);conv=>whnf
   refine nW ?_;refine ai (Mw l hR) rfl rfl ?_;conv=>whnf
   rw[if_pos rfl];exact ab 0 rfl ⟨⟨rfl,rfl⟩,rfl⟩
 ·rw[if_neg hc]
  refine ai (kN l _ _ _ (jI l)) rfl rfl ?_;conv=>whnf
  generalize bB l=E at hc;refine af (fun _=>?_) (fun h=>absurd hc (by simpa using h));conv=>whnf
  rw[if_neg hc];exact ab 0 rfl ⟨⟨rfl,rfl⟩,rfl⟩
theorem Mx(l:aM)(hR:pn l):bq Tryz.prog 67 [ew l (bG l 0 [])] (i64 (if gK l 0 []=true then 0 else 9)):=aau l (bG l 0 []) (uL hR (by omega) [])
theorem HY(l:aM)(hR:pn l)(w:Int)(hw:0<=w/\w<=1048576)(conf:List Int):∃ m,bq Tryz.prog 108 [ew l (bG l w conf),ck.right.d] (.tup [m,.bool (gK l w conf)]):=⟨_,fun {σ}=>OU l (bG l w conf) (uL hR hw conf) .right⟩
theorem VM(l:aM):bq Tryz.prog 40 [l.d] (.tup [.bool (Dh l).1,i64 (Dh l).2]):=by
 unfold Dh;refine aI mixed ak Tryz.func40 rfl (ft:=Yg) 1 (by decide +kernel) (by rfl) fun {σ} Y st=>?_;conv=>whnf
 by_cases hc:bB l=0
 ·rw[if_pos hc]
  have hR:=fk hc;refine ai (kN l 0 0 0 (jJ hc)) rfl rfl ?_;conv=>whnf
  refine nW ?_;refine ai (Mw l hR) rfl rfl ?_;conv=>whnf
  refine ai (Cj) rfl rfl ?_;conv=>whnf
  obtain⟨m,hm⟩:=HY l hR 0 (by omega) [];refine ai (hm) rfl rfl ?_;conv=>whnf
  exact ab 0 rfl ⟨⟨rfl,rfl⟩,rfl⟩
 ·rw[if_neg hc]
  refine ai (kN l _ _ _ (jI l)) rfl rfl ?_;conv=>whnf
  generalize bB l=E at hc;refine af (fun _=>?_) (fun h=>absurd hc (by simpa using h));conv=>whnf
  exact ab 0 rfl ⟨⟨rfl,rfl⟩,rfl⟩
theorem XI{l:aM}(hR:pn l){i k:Nat}{b:au}{y:aW}(h:At l i k b y):0<=y.shown/\y.shown<=20000:=((hR.book b (List.mem_of_getElem? h.book)).fG y (List.mem_of_getElem? h.fG)).1
theorem LR{l:aM}{i k:Nat}{b:au}{y:aW}(h:At l i k b y):iF l ⟨i,k⟩=⟨y.shown-(cK (bG l 0 []) ⟨i,bE b k⟩ .right).hi,y.shown-(cK (bG l 0 []) ⟨i,bE b k⟩ .right).lo⟩:=by
 unfold iF;rw[kW h,eg h]
theorem Qj{l:aM}(hR:pn l)(hf:gK l 0 []=true){p q:ck}(hp:p∈dV l)(hq:q∈dV l):bq Tryz.prog 68 [ew l (bG l 0 []),p.d,q.d] (.agg [i64 (cK (bG l 0 []) p q).lo,i64 (cK (bG l 0 []) p q).hi]):=
 VS l (bG l 0 []) (uL hR (by omega) []) p q (wE hf hp) (wE hf hq)
theorem Kj{l:aM}(hR:pn l)(p q:ck):(-4000000000<=(cK (bG l 0 []) p q).lo/\(cK (bG l 0 []) p q).lo<=4000000000)/\(-4000000000<=(cK (bG l 0 []) p q).hi/\(cK (bG l 0 []) p q).hi<=4000000000):=by
 have h1:=xm (uL hR (w:=0) (by omega) []) p q;have h2:=xm (uL hR (w:=0) (by omega) []) q p;unfold cK;simp only;omega
theorem uk{l:aM}{xs:List c8}(h:gN l xs=0):bB l=0 /\ ∀ x∈xs,tk l x=true:=by
 unfold gN at h;split at h
 ·rename_i h1
  split at h
  ·rename_i h2;exact⟨h1,fun x hx=>List.all_eq_true.1 h2 x hx⟩
  ·cases h
 ·rename_i h1;exact absurd h h1
theorem Gj{l:aM}{xs:List c8}(hx:xs.length<1000000)(h:gN l xs=0):bq Tryz.prog 66 [l.d,oa xs] (.tup [ew l (bG l 0 []),i64 0]):=
 bq.cast (fun {σ}=>VT l xs hx) (by unfold He;rw[if_pos h,h])
theorem Gi{l:aM}{xs:List c8}(hx:xs.length<1000000)(h:gN l xs≠0):bq Tryz.prog 66 [l.d,oa xs] (.tup [.nilp,i64 (gN l xs)]):=
 bq.cast (fun {σ}=>VT l xs hx) (by unfold He;rw[if_neg h])
theorem C0{l:aM}{xs:List c8}(h:gN l xs≠0):pG l xs=gN l xs/\pG l xs≠0:=by
 unfold pG;rw[if_neg h];exact⟨rfl,h⟩
theorem OQ(l:aM)(x:c8):bq Tryz.prog 12 [l.d,x.d] (.tup [(pX l x).1.d,i64 (pX l x).2]):=by
 by_cases hc:gN l [x]=0
 ·obtain⟨nT,cn⟩:=uk hc
  have hR:=fk nT;have tY:=cn x (by simp);obtain⟨i,k,b,y,rfl,hA⟩:=iG.1 tY;have e:pX l ⟨i,k⟩=if gK l 0 []=true then (iF l ⟨i,k⟩,0) else (⟨0,0⟩,9):=by
   unfold pX pG;rw[if_pos hc];cases gK l 0 []<;>rfl
  rw[e];refine aI mixed ak Tryz.func12 rfl (ft:=TE) 2 (by decide +kernel) (by rfl) fun {σ} Y st=>?_;conv=>whnf
  refine gp (ds:=[l.d,oa [⟨i,k⟩]]) (Gj (by simp) hc) 1 [13] rfl rfl ?_;conv=>whnf
  refine ai (Mx l hR) rfl rfl ?_;conv=>whnf
  cases hf:gK l 0 []with
  | false=>
   simp only[Bool.false_eq_true,if_false];conv=>whnf
   exact ab 0 rfl ⟨⟨rfl,rfl⟩,rfl⟩
  | true=>
   simp only[if_true];rw[LR hA];have hn:=jN tY;rw[kW hA]at hn;have QR:=fun {σ}=>@Qj l hR hf _ _ hn (jO l) σ;have EZ:=Kj hR ⟨i,bE b k⟩ .right;have hy:=XI hR hA;generalize (cK (bG l 0 []) ⟨i,bE b k⟩ .right)=S at QR EZ ⊢;conv=>whnf
   refine bh _ (Gq hA) ?_;conv=>whnf
   refine bh _ (Gp hA) ?_;conv=>whnf
   refine aH (ds:=[]) Cj rfl rfl ?_;conv=>whnf
   refine aH (ds:=[ew l (bG l 0 []),ck.d ⟨i,bE b k⟩,ck.right.d]) QR rfl rfl ?_;conv=>whnf
   refine aH (OV l _ hA) rfl rfl ?_;conv=>whnf
   refine ae (wrap_i64 (by(try dsimp only);omega)) ?_;conv=>whnf
   refine ae (wrap_i64 (by(try dsimp only);omega)) ?_;conv=>whnf
   exact ab 0 rfl ⟨⟨rfl,rfl⟩,rfl⟩
 ·obtain⟨e1,e2⟩:=C0 hc
  have e:pX l x=(⟨0,0⟩,gN l [x]):=by
   unfold pX;rw[if_neg e2,e1]
  rw[e];refine aI mixed ak Tryz.func12 rfl (ft:=TE) 2 (by decide +kernel) (by rfl) fun {σ} Y st=>?_;conv=>whnf
  refine gp (ds:=[l.d,oa [x]]) (Gi (by simp) hc) 1 [13] rfl rfl ?_;generalize gN l [x]=E at hc ⊢;conv=>whnf
  refine af (fun h=>absurd h (by simpa using hc)) (fun _=>?_);conv=>whnf
  refine af (fun _=>?_) (fun h=>absurd hc (by simpa using h));conv=>whnf
  exact ab 0 rfl ⟨⟨rfl,rfl⟩,rfl⟩
theorem VN(l:aM)(x z:c8):bq Tryz.prog 45 [l.d,x.d,z.d] (.tup [(n7 l x z).1.d,i64 (n7 l x z).2.1,i64 (n7 l x z).2.2]):=by
 by_cases hc:gN l [x,z]=0
 ·obtain⟨nT,cn⟩:=uk hc
  have hR:=fk nT;have tY:=cn x (by simp);have Y4:=cn z (by simp);obtain⟨i,k,b,y,rfl,hA⟩:=iG.1 tY;obtain⟨j,m,c,u,rfl,Uo⟩:=iG.1 Y4;have e:n7 l ⟨i,k⟩ ⟨j,m⟩=if gK l 0 []=true then (lu l ⟨i,k⟩ ⟨j,m⟩,Gd (lu l ⟨i,k⟩ ⟨j,m⟩),0) else (⟨0,0⟩,0,9):=by
   unfold n7 pG;rw[if_pos hc];cases gK l 0 []<;>rfl
  rw[e];refine aI mixed ak Tryz.func45 rfl (ft:=Uf) 3 (by decide +kernel) (by rfl) fun {σ} Y st=>?_;conv=>whnf
  refine gp (ds:=[l.d,oa [⟨i,k⟩,⟨j,m⟩]]) (Gj (by simp) hc) 1 [14] rfl rfl ?_;conv=>whnf
  refine ai (Mx l hR) rfl rfl ?_;conv=>whnf
  cases hf:gK l 0 []with
  | false=>
   simp only[Bool.false_eq_true,if_false];conv=>whnf
   exact ab 0 rfl ⟨⟨rfl,rfl⟩,rfl⟩
  | true=>
   simp only[if_true];have Un:=fun {σ}=>@VU l hR hf _ _ _ _ _ _ _ _ hA Uo σ;generalize lu l ⟨i,k⟩ ⟨j,m⟩=S at Un ⊢;conv=>whnf
   refine ai Un rfl rfl ?_;conv=>whnf
   unfold Gd;have hS:(S=⟨0,0⟩)↔(S.lo=0/\S.hi=0):=by cases S;simp
   generalize hB:(decide (S.lo=0)&&(decide (S.hi=0)&&true))=B
   cases B with
   | true=>
    rw[if_pos (hS.2 (by simpa using hB))];conv=>whnf
    exact ab 0 rfl ⟨⟨rfl,rfl⟩,rfl⟩
   | false=>
    rw[if_neg (fun h=>by have:=hS.1 h;rw[this.1,this.2]at hB;cases hB)];conv=>whnf
    refine af (fun h1=>?_) (fun h1=>?_)
    ·rw[if_pos (of_decide_eq_true h1)]
     conv=>whnf
     exact ab 0 rfl ⟨⟨rfl,rfl⟩,rfl⟩
    ·rw[if_neg (of_decide_eq_false h1)]
     conv=>whnf
     refine af (fun h2=>?_) (fun h2=>?_)
     ·rw[if_pos (of_decide_eq_true h2)]
      conv=>whnf
      exact ab 0 rfl ⟨⟨rfl,rfl⟩,rfl⟩
     ·rw[if_neg (of_decide_eq_false h2)]
      conv=>whnf
      exact ab 0 rfl ⟨⟨rfl,rfl⟩,rfl⟩
 ·obtain⟨e1,e2⟩:=C0 hc
  have e:n7 l x z=(⟨0,0⟩,0,gN l [x,z]):=by
   unfold n7;rw[if_neg e2,e1]
  rw[e];refine aI mixed ak Tryz.func45 rfl (ft:=Uf) 3 (by decide +kernel) (by rfl) fun {σ} Y st=>?_;conv=>whnf
  refine gp (ds:=[l.d,oa [x,z]]) (Gi (by simp) hc) 1 [14] rfl rfl ?_;generalize gN l [x,z]=E at hc ⊢;conv=>whnf
  refine af (fun h=>absurd h (by simpa using hc)) (fun _=>?_);conv=>whnf
  refine af (fun _=>?_) (fun h=>absurd hc (by simpa using h));conv=>whnf
  exact ab 0 rfl ⟨⟨rfl,rfl⟩,rfl⟩
theorem Sa(l:aM)(book:Int):bq Tryz.prog 43 [l.d,i64 book] (.tup [iD (yL l book).1,i64 (yL l book).2]):=by
 unfold yL;refine aI mixed ak Tryz.func43 rfl (ft:=Yi) 2 (by decide +kernel) (by rfl) fun {σ} Y st=>?_;conv=>whnf
 by_cases hc:bB l=0
 ·rw[if_pos hc]
  have hR:=fk hc;have wF:=hR.aj;refine ai (kN l 0 0 0 (jJ hc)) rfl rfl ?_;conv=>whnf
  refine ao ((l.aj.length:Int)-1) (by simp) (wrap_i64 (by omega)) ?_;conv=>whnf
  refine aB (yP 0 ((l.aj.length:Int)-1) book) rfl 1 rfl ?_
  cases h1:fP book 0 ((l.aj.length:Int)-1) with
  | true=>
   simp only[if_true];conv=>whnf
   refine gy ?_;exact ab 0 rfl ⟨⟨rfl,rfl⟩,rfl⟩
  | false=>
   simp only[Bool.false_eq_true,if_false];have h1:=dH.1 h1;obtain⟨i,rfl⟩:∃ i:Nat,book=i:=⟨book.toNat,by omega⟩;obtain⟨b,hb⟩:∃ b,l.aj[i]?=some b:=⟨_,List.getElem?_eq_getElem (by omega)⟩;have Lb:mI l i=b:=by unfold mI;rw[Int.toNat_natCast,hb];rfl
   conv=>whnf
   refine nW ?_;refine ai (Mw l hR) rfl rfl ?_;conv=>whnf
   refine ai (Cj) rfl rfl ?_;conv=>whnf
   obtain⟨m,hm⟩:=HY l hR 0 (by omega) [];refine ai (hm) rfl rfl ?_;conv=>whnf
   cases hf:gK l 0 []with
   | false=>
    simp only[Bool.false_eq_true,if_false];conv=>whnf
    refine gy ?_;exact ab 0 rfl ⟨⟨rfl,rfl⟩,rfl⟩
   | true=>
    simp only[if_true];unfold Qg;rw[Lb];conv=>whnf
    refine bh b.cells ⟨by omega,by rw[Int.toNat_natCast,List.getElem?_map,hb];rfl⟩ ?_;conv=>whnf
    have QX:=(hR.book b (List.mem_of_getElem? hb)).ar;have zz:=nN b;refine bx (T:=tys) ak (by exact an mixed ak (by decide +kernel)) b.ar (fun k (n:Nat)=>⟨[(1,.d (i64 i)),(4,.d .nils),(6,.d (ew l (bG l 0 []))),(9,.d (i64 n)),(46,.d (kJ b.ar)),(47,.d (i64 b.ar.length)),(48,.d (i64 k))],[],st⟩) (fun k r n=>n+dm r=dm b.ar) 0 ?_ (by simp) ?_ ?_
    ·exact(Wk.sub (by repeat' first|constructor|simp[PX.get]) trivial)
    ·rintro k y r n I1 hk hr he
     rw[sg]at he;conv=>whnf
     refine af (fun _=>?_) (fun h=>absurd hk (by simpa using h));conv=>whnf
     refine aw I1 ?_;conv=>whnf
     refine af (fun h2=>?_) (fun h2=>?_)
     ·rw[if_pos (of_decide_eq_true h2)]at he
      conv=>whnf
      refine ao (((n+1:Nat):Int)) (by(try dsimp only);omega) (wrap_i64 (by(try dsimp only);omega)) ?_;conv=>whnf
      refine ae (wrap_i64 (by(try dsimp only);omega)) ?_;conv=>whnf
      exact⟨n+1,by omega,(Wk.sub (by repeat' first|constructor|simp[PX.get]) trivial)⟩
     ·rw[if_neg (of_decide_eq_false h2)]at he
      conv=>whnf
      refine ae (wrap_i64 (by(try dsimp only);omega)) ?_;conv=>whnf
      exact⟨n,by omega,(Wk.sub (by repeat' first|constructor|simp[PX.get]) trivial)⟩
    ·rintro n he
     have he:n=dm b.ar:=he;subst he;conv=>whnf
     refine af (fun h=>absurd h (by simp)) (fun _=>?_);conv=>whnf
     generalize hN:dm b.ar=N at zz ⊢;generalize hF:(fun(n:Nat)=>cK (bG l 0 []) ⟨(i:Int),(n:Int)⟩ .right)=F;refine ao (((N+1:Nat):Int)) (by(try dsimp only);omega) (wrap_i64 (by(try dsimp only);omega)) ?_;conv=>whnf
     refine dh (T:=tys) ak (by exact an mixed ak (by decide +kernel)) (α:=Nat×List Span) (fun z=>⟨[(1,.d (i64 i)),(4,.sl 71 2 0 z.2.length),(6,.d (ew l (bG l 0 []))),(59,.d (i64 (N+1:Nat))),(60,.d (i64 z.1))],[(71,.arr 2 (.dd (z.2.map Span.cells)))],st⟩) (fun z=>z.1<=N+1/\z.2=(List.range z.1).map F) (fun z=>N+1-z.1) (0,[]) ?_ ⟨Nat.zero_le _,rfl⟩ ?_
     ·exact(Wk.born 4 71 2 rfl rfl rfl).trans (Wk.sub (by repeat' first|constructor|simp[PX.get]) ⟨(by first|rfl|simp[PX.get]),trivial⟩)
     rintro ⟨k,acc⟩ ⟨hk,dn⟩;simp only at hk dn;conv=>whnf
     refine af (fun h3=>?_) (fun h3=>?_)
     ·have h3:k<N+1:=by have:=of_decide_eq_true h3;simp only at this;omega
      have hn:=Em hb (n:=k) (by omega);have QR:=fun {σ}=>@Qj l hR hf _ _ hn (jO l) σ;have hFk:F k=cK (bG l 0 []) ⟨(i:Int),(k:Int)⟩ .right:=by rw[<- hF]
      rw[<- hFk]at QR;have pf:acc.length=k:=by rw[dn];simp
      conv=>whnf
      refine ai (Cj) rfl rfl ?_;conv=>whnf
      refine ai (ds:=[ew l (bG l 0 []),ck.d ⟨(i:Int),(k:Int)⟩,ck.right.d]) QR rfl rfl ?_;conv=>whnf
      refine ag rfl ?_;conv=>whnf
      refine ag (by simp[aK.len]) ?_;conv=>whnf
      refine aQ (decide_eq_true (by
       show((acc.map Span.cells).length+1)*16<=140737488355328;rw[List.length_map];omega)) ?_
      conv=>whnf
      refine ae (wrap_i64 (by(try dsimp only);omega)) ?_;conv=>whnf
      refine⟨(k+1,acc ++ [F k]),by simp only;omega,⟨by simp only;omega,by simp only;rw[List.range_succ,List.map_append,dn];rfl⟩,Wk.sub ⟨rfl,?_,rfl,rfl,rfl,trivial⟩ ⟨?_,trivial⟩⟩
      ·show some (V.sl 71 2 0 ((acc.map Span.cells).length+1))=_
       simp
      ·show some (Obj.arr 2 (.dd (acc.map Span.cells ++ [[i64 (F k).lo,i64 (F k).hi]])))=_
       simp[Span.cells]
     ·have h3:¬ k<N+1:=by have:=of_decide_eq_false h3;simp only at this;omega
      have gu:k=N+1:=by omega
      subst gu;subst dn;conv=>whnf
      refine ab 1 (ds:=[iD ((List.range (N+1)).map F),i64 0]) (az (bH rfl (by simp)) rfl) ⟨⟨rfl,rfl⟩,rfl⟩
 ·rw[if_neg hc]
  refine ai (kN l _ _ _ (jI l)) rfl rfl ?_;conv=>whnf
  generalize bB l=E at hc;refine af (fun _=>?_) (fun h=>absurd hc (by simpa using h));conv=>whnf
  refine gy ?_;exact ab 0 rfl ⟨⟨rfl,rfl⟩,rfl⟩
theorem aah(l:aM)(x:c8):bq Tryz.prog 46 [l.d,x.d] (.tup [oa (H4 l x).1,i64 (H4 l x).2]):=by
 unfold H4;by_cases hc:gN l [x]=0
 ·rw[if_pos hc]
  obtain⟨nT,cn⟩:=uk hc;have hR:=fk nT;have wF:=hR.aj;have tY:=cn x (by simp);obtain⟨xi,xk,xb,xy,rfl,hA⟩:=iG.1 tY;rw[eg hA];refine aI mixed ak Tryz.func46 rfl (ft:=Ug) 2 (by decide +kernel) (by rfl) fun {σ} Y st=>?_;conv=>whnf
  refine gp (ds:=[l.d,oa [⟨xi,xk⟩]]) (Gj (by simp) hc) 1 [20] rfl rfl ?_;conv=>whnf
  refine ai (OV l (bG l 0 []) hA) rfl rfl ?_;conv=>whnf
  refine ai (zS xy) rfl rfl ?_;conv=>whnf
  by_cases h1:xy.kind=1
  ·rw[if_pos h1]
   have ht:bL xy = .ifc 214 (.agg [.str xy.word]):=by unfold bL;rw[if_pos h1]
   rw[ht];conv=>whnf
   refine ai (Mx l hR) rfl rfl ?_;conv=>whnf
   cases hf:gK l 0 []with
   | false=>
    simp only[Bool.false_eq_true,if_false];conv=>whnf
    refine gy ?_;exact ab 0 rfl ⟨⟨rfl,rfl⟩,rfl⟩
   | true=>
    simp only[if_true];conv=>whnf
    generalize hT:sf l ⟨xi,xk⟩ 0 l.aj=T;refine bx (T:=tys) ak (by exact an mixed ak (by decide +kernel)) l.aj (fun i (acc:List c8)=>⟨[(2,.ptr 2 0),(3,.ptr 3 0),(4,.sl 100 2 0 acc.length),(6,.d (ew l (bG l 0 []))),(7,.ptr 7 0),(43,.d (bF l.aj)),(44,.d (i64 l.aj.length)),(45,.d (i64 i))],[(2,.box (.dd l.cells)),(3,.box (.dd (c8.mk xi xk).cells)),(7,.box (.dd [.str xy.word])),(100,.arr 2 (.dd (acc.map c8.cells)))],st⟩) (fun i r acc=>acc++sf l ⟨xi,xk⟩ i r=T/\acc.length<=8*i) [] ?_ ⟨hT,by simp⟩ ?_ ?_
    ·exact(Wk.born 4 100 2 rfl rfl rfl).trans (Wk.sub (by repeat' first|constructor|simp[PX.get]) (by repeat' first|constructor|simp[PX.get]))
    ·rintro i b r acc hb hi hr ⟨he,pf⟩
     rw[sf]at he;have hB:=hR.book b (List.mem_of_getElem? hb);have QX:=hB.ar;conv=>whnf
     refine af (fun _=>?_) (fun h=>absurd hi (by simpa using h));conv=>whnf
     refine aw hb ?_;conv=>whnf
     refine bx (T:=tys) ak (by exact an mixed ak (by decide +kernel)) b.ar (fun k (acc:List c8)=>⟨[(2,.ptr 2 0),(3,.ptr 3 0),(4,.sl 100 2 0 acc.length),(6,.d (ew l (bG l 0 []))),(7,.ptr 7 0),(9,.d (i64 i)),(43,.d (bF l.aj)),(44,.d (i64 l.aj.length)),(45,.d (i64 i)),(51,.d (kJ b.ar)),(52,.d (i64 b.ar.length)),(53,.d (i64 k))],[(2,.box (.dd l.cells)),(3,.box (.dd (c8.mk xi xk).cells)),(7,.box (.dd [.str xy.word])),(100,.arr 2 (.dd (acc.map c8.cells)))],st⟩) (fun k q acc=>acc++(A7 l ⟨xi,xk⟩ i k q++sf l ⟨xi,xk⟩ (i+1) r)=T/\acc.length<=8*i+k) acc ?_ ⟨he,by omega⟩ ?_ ?_
     ·exact(Wk.sub (by repeat' first|constructor|simp[PX.get]) (by repeat' first|constructor|simp[PX.get]))
     ·rintro k y q acc hy hk hq ⟨fF,pf⟩
      rw[A7]at fF;have Uo:At l i k b y:=⟨hb,hy⟩;have I1:=(hB.fG y (List.mem_of_getElem? hy)).2.1;conv=>whnf
      refine af (fun _=>?_) (fun h=>absurd hk (by simpa using h));conv=>whnf
      refine aw hy ?_;conv=>whnf
      refine ai (zS y) rfl rfl ?_;generalize hSB:MM l ⟨xi,xk⟩ i k y=SB at fF;unfold MM at hSB;simp only[eg hA]at hSB;by_cases k1:y.kind=1
      ·have IX:bL y = .ifc 214 (.agg [.str y.word]):=by unfold bL;rw[if_pos k1]
       rw[IX];rw[decide_eq_true k1,Bool.true_and]at hSB;conv=>whnf
       generalize hd:decide (((i:Nat):Int)=(c8.mk (xi:Nat) (xk:Nat)).book)=Dd at hSB ⊢
       cases Dd with
       | true=>
        simp only[Bool.not_true,Bool.false_and]at hSB;subst hSB;simp only[Bool.false_eq_true,if_false]at fF;conv=>whnf
        refine ae (wrap_i64 (by(try dsimp only);omega)) ?_;conv=>whnf
        exact⟨acc,⟨fF,by omega⟩,(Wk.sub (by repeat' first|constructor|simp[PX.get]) (by repeat' first|constructor|simp[PX.get]))⟩
       | false=>
        simp only[Bool.not_false,Bool.true_and]at hSB;conv=>whnf
        generalize hw:decide (y.word=xy.word)=Dw at hSB ⊢
        cases Dw with
        | false=>
         simp only[Bool.false_and]at hSB;subst hSB;simp only[Bool.false_eq_true,if_false]at fF;conv=>whnf
         refine ae (wrap_i64 (by(try dsimp only);omega)) ?_;conv=>whnf
         exact⟨acc,⟨fF,by omega⟩,(Wk.sub (by repeat' first|constructor|simp[PX.get]) (by repeat' first|constructor|simp[PX.get]))⟩
        | true=>
         simp only[Bool.true_and]at hSB;have Un:=fun {σ}=>@VU l hR hf _ _ _ _ _ _ _ _ hA Uo σ;generalize lu l ⟨xi,xk⟩ ⟨i,k⟩=S at Un hSB;conv=>whnf
         refine ai (ds:=[ew l (bG l 0 []),(c8.mk xi xk).d,(c8.mk i k).d]) Un rfl rfl ?_;conv=>whnf
         have B0:=hR.near;generalize hd1:decide (S.lo<=l.near)=D1 at hSB ⊢
         cases D1 with
         | false=>
          simp only[Bool.false_and]at hSB;subst hSB;simp only[Bool.false_eq_true,if_false]at fF;conv=>whnf
          refine ae (wrap_i64 (by(try dsimp only);omega)) ?_;conv=>whnf
          exact⟨acc,⟨fF,by omega⟩,(Wk.sub (by repeat' first|constructor|simp[PX.get]) (by repeat' first|constructor|simp[PX.get]))⟩
         | true=>
          simp only[Bool.true_and]at hSB;conv=>whnf
          refine ao (-l.near) (by omega) (wrap_i64 (by omega)) ?_;conv=>whnf
          generalize SF:decide (-l.near<=S.hi)=D2 at hSB ⊢
          cases D2 with
          | false=>
           subst hSB;simp only[Bool.false_eq_true,if_false]at fF;conv=>whnf
           refine ae (wrap_i64 (by(try dsimp only);omega)) ?_;conv=>whnf
           exact⟨acc,⟨fF,by omega⟩,(Wk.sub (by repeat' first|constructor|simp[PX.get]) (by repeat' first|constructor|simp[PX.get]))⟩
          | true=>
           subst hSB;simp only[if_true]at fF;conv=>whnf
           refine ag rfl ?_;conv=>whnf
           refine ag (by simp[aK.len]) ?_;conv=>whnf
           refine aQ (decide_eq_true (by
            show((acc.map c8.cells).length+1)*16<=140737488355328;rw[List.length_map];omega)) ?_
           conv=>whnf
           refine ae (wrap_i64 (by(try dsimp only);omega)) ?_;conv=>whnf
           refine⟨acc ++ [⟨i,k⟩],⟨by rw[List.append_assoc];exact fF,by simp;omega⟩,Wk.sub ⟨rfl,rfl,?_,rfl,rfl,rfl,rfl,rfl,rfl,rfl,rfl,rfl,trivial⟩ ⟨rfl,rfl,rfl,?_,trivial⟩⟩
           ·show some (V.sl 100 2 0 ((acc.map c8.cells).length+1))=_
            simp
           ·show some (Obj.arr 2 (.dd (acc.map c8.cells ++ [[i64 i,i64 k]])))=_
            simp[c8.cells]
      ·rw[decide_eq_false k1,Bool.false_and,Bool.and_false]at hSB
       subst hSB;simp only[Bool.false_eq_true,if_false]at fF;by_cases k2:y.kind=2
       ·have IX:bL y = .ifc 288 (.agg []):=by unfold bL;rw[if_neg k1,if_pos k2]
        rw[IX];conv=>whnf
        generalize hd:decide (((i:Nat):Int)=(c8.mk (xi:Nat) (xk:Nat)).book)=Dd
        cases Dd with
        | true=>
         conv=>whnf
         refine ae (wrap_i64 (by(try dsimp only);omega)) ?_;conv=>whnf
         exact⟨acc,⟨fF,by omega⟩,(Wk.sub (by repeat' first|constructor|simp[PX.get]) (by repeat' first|constructor|simp[PX.get]))⟩
        | false=>
         conv=>whnf
         refine ae (wrap_i64 (by(try dsimp only);omega)) ?_;conv=>whnf
         exact⟨acc,⟨fF,by omega⟩,(Wk.sub (by repeat' first|constructor|simp[PX.get]) (by repeat' first|constructor|simp[PX.get]))⟩
       ·have IX:bL y = .ifc 228 (.agg [.str y.word,i64 y.number]):=by unfold bL;rw[if_neg k1,if_neg k2,if_pos (by omega)]
        rw[IX];conv=>whnf
        generalize hd:decide (((i:Nat):Int)=(c8.mk (xi:Nat) (xk:Nat)).book)=Dd
        cases Dd with
        | true=>
         conv=>whnf
         refine ae (wrap_i64 (by(try dsimp only);omega)) ?_;conv=>whnf
         exact⟨acc,⟨fF,by omega⟩,(Wk.sub (by repeat' first|constructor|simp[PX.get]) (by repeat' first|constructor|simp[PX.get]))⟩
        | false=>
         conv=>whnf
         refine ae (wrap_i64 (by(try dsimp only);omega)) ?_;conv=>whnf
         exact⟨acc,⟨fF,by omega⟩,(Wk.sub (by repeat' first|constructor|simp[PX.get]) (by repeat' first|constructor|simp[PX.get]))⟩
     ·rintro acc ⟨fF,pf⟩
      rw[A7,List.nil_append]at fF;conv=>whnf
      refine af (fun h=>absurd h (by simp)) (fun _=>?_);conv=>whnf
      refine ae (wrap_i64 (by(try dsimp only);omega)) ?_;conv=>whnf
      exact⟨acc,⟨fF,by omega⟩,(Wk.sub (by repeat' first|constructor|simp[PX.get]) (by repeat' first|constructor|simp[PX.get]))⟩
    ·rintro acc ⟨he,pf⟩
     rw[sf,List.append_nil]at he;subst he;conv=>whnf
     refine af (fun h=>absurd h (by simp)) (fun _=>?_);conv=>whnf
     refine ab 1 (ds:=[oa acc,i64 0]) (az (bH rfl (by simp)) rfl) ⟨⟨rfl,rfl⟩,rfl⟩
  ·rw[if_neg h1]
   have hk:=(hR.book xb (List.mem_of_getElem? hA.book)).fG xy (List.mem_of_getElem? hA.fG);by_cases h2:xy.kind=2
   ·have ht:bL xy = .ifc 288 (.agg []):=by unfold bL;rw[if_neg h1,if_pos h2]
    rw[ht];conv=>whnf
    refine gy ?_;exact ab 0 rfl ⟨⟨rfl,rfl⟩,rfl⟩
   ·have ht:bL xy = .ifc 228 (.agg [.str xy.word,i64 xy.number]):=by unfold bL;rw[if_neg h1,if_neg h2,if_pos (by omega)]
    rw[ht];conv=>whnf
    refine gy ?_;exact ab 0 rfl ⟨⟨rfl,rfl⟩,rfl⟩
 ·rw[if_neg hc]
  refine aI mixed ak Tryz.func46 rfl (ft:=Ug) 2 (by decide +kernel) (by rfl) fun {σ} Y st=>?_;conv=>whnf
  refine gp (ds:=[l.d,oa [x]]) (Gi (by simp) hc) 1 [20] rfl rfl ?_;generalize gN l [x]=E at hc ⊢;conv=>whnf
  refine af (fun _=>?_) (fun h=>absurd hc (by simpa using h));conv=>whnf
  refine gy ?_;exact ab 0 rfl ⟨⟨rfl,rfl⟩,rfl⟩
end Go.PX
