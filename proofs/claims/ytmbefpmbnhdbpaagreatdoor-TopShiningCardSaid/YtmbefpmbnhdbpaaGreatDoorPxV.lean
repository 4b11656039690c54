import Derived.Test.YtmbefpmbnhdbpaaGreatDoorPxU
import Derived.Test.YtmbefpmbnhdbpaaGreatDoorPxR
import Derived.Test.YtmbefpmbnhdbpaaGreatDoorPxS
set_option linter.all false
set_option maxRecDepth 10000
namespace Go.PX
open Go.Proofs
theorem NY{g:Nat->Option DO}{i o:Nat}{d:D}(hv:dP g (.ptr i o)=some d):iJ g (.ptr i o) = .d d:=by
 simp[iJ,hv]
set_option maxHeartbeats 4000000 in
theorem X8(l:aN)(hR:qh l)(wider:Int)(hw:0<=wider/\wider<=1048576)(conf:List Int)(hc:conf.length<1000000):tH Tryz.prog 107 [.d l.d,.d (i64 wider),.sl 1000000 1 0 conf.length] [(1000000,.arr 1 (.dd (dn conf)))] fun v h'=>v = .d (eO l (bI l wider conf))/\h' = [(1000000,.arr 1 (.dd (dn conf)))]:=by
 intro σ Y st;refine ez mixed av Tryz.func107 rfl (ft:=Mq) (args:=[.d l.d,.d (i64 wider),.sl 1000000 1 0 conf.length]) (show oQ Mq Tryz.f107 3=true from by decide +kernel) ?_;conv=>whnf
 have xV:=hR.an;unfold bI;generalize hRES:mV l wider conf 0 l.an ⟨[],0,[],[]⟩=Ot;have Ov:AN l wider conf 0 ⟨[],0,[],[]⟩:=⟨⟨rfl,fun j c _ hj=>absurd hj (Nat.not_lt_zero j)⟩,fun num r hr=>(by cases hr),fun j m c y num _ _ _ hj=>absurd hj (Nat.not_lt_zero j),fun e he=>(by cases he),fun j c _ hj=>absurd hj (Nat.not_lt_zero j),fun j c n _ _ hj=>absurd hj (Nat.not_lt_zero j),fun j m c x z _ _ hj=>absurd hj (Nat.not_lt_zero j)⟩;refine bB (T:=tys) av (by exact aj mixed av (by decide +kernel)) l.an (fun i (x:rL)=>⟨[(2,.sl 1000000 1 0 conf.length),(3,.ptr 3 0),(4,.ptr 4 0),(7,.ptr 7 0),(8,.mp 26),(9,.clo 168 [.ptr 7 0,.ptr 4 0]),(29,.d (bF l.an)),(30,.d (i64 l.an.length)),(31,.d (i64 i))],[(3,.box (.dd l.cells)),(4,.box (.dd [i64 wider])),(7,.box (.vv [.ptr 25 0])),(25,.box (.vv [.d (i64 l.near),.d (bF l.an),.sl 900000 5 0 x.steps.length,.sl 900001 1 0 x.pers.length,.d (i64 x.many)])),(900000,.arr 5 (.dd (aH x.steps))),(900001,.arr 1 (.dd (cN x.pers))),(26,.map (eZ aD dt.d x.first)),(1000000,.arr 1 (.dd (dn conf)))],st⟩)
  (fun i r x=>mV l wider conf i r x=Ot/\AN l wider conf i x/\x.steps.length<=26*i/\(0<=x.many/\x.many<=9*i)) ⟨[],0,[],[]⟩ ?wk ⟨hRES,Ov,by simp,by simp⟩ ?_ ?_
 case wk=>
  refine(Wk.tT 25 900000 5 [i64 l.near,bF l.an] [.nils,i64 0] rfl rfl rfl rfl rfl).trans ((Wk.LR 25 900001 1 [.d (i64 l.near),.d (bF l.an),.sl 900000 5 0 0] [.d (i64 0)] rfl rfl rfl rfl).trans aw)
 ·rintro i b r x hx hi D7 ⟨vF,hI,ja,vH⟩
  rw[mV]at vF;have hB:=hR.book b (List.mem_of_getElem? hx);have DX:=yB hx hI;generalize hy:qp l wider conf i b x=y at vF DX;unfold qp at hy;conv=>whnf
  refine ag (fun _=>?_) (fun h=>absurd hi (by simpa using h));conv=>whnf
  refine aG hx ?_;conv=>whnf
  refine bH (B3 l wider hw x.steps (by omega) x.pers x.many (by omega) ⟨i,0⟩ b.off hB.off) [7,4,25,900000,900001] rfl ?lent rfl ?_;case lent=>exact⟨_,_,rfl,bS rfl ⟨⟨rfl,rfl⟩,trivial⟩,_,_,rfl,rfl,_,_,rfl,bS rfl ⟨rfl,rfl,⟨rfl,rfl,rfl,rfl⟩,⟨rfl,rfl,rfl,rfl⟩,rfl,trivial⟩,_,_,rfl,rfl,_,_,rfl,rfl,rfl⟩
  conv=>whnf
  have hE0:=Bq hx hI;generalize hER:mD l wider conf i b x.pers 0 b.ar ⟨x.steps++ek wider ⟨i,0⟩ b.off,x.many+1,x.first,⟨i,0⟩,[],[]⟩=ER at hy;simp only at hy;refine bB (T:=tys) av (by exact aj mixed av (by decide +kernel)) b.ar (fun k (e:Eb)=>⟨[(2,.sl 1000000 1 0 conf.length),(3,.ptr 3 0),(4,.ptr 4 0),(7,.ptr 7 0),(8,.mp 26),(9,.clo 168 [.ptr 7 0,.ptr 4 0]),(29,.d (bF l.an)),(30,.d (i64 l.an.length)),(31,.d (i64 i)),(10,.d (i64 i)),(11,.ptr 11 0),(12,.ptr 12 0),(13,.sl 55 2 0 e.of.length),(14,.mp 43),(45,.d (lF b.ar)),(46,.d (i64 b.ar.length)),(47,.d (i64 k))],[(3,.box (.dd l.cells)),(4,.box (.dd [i64 wider])),(7,.box (.vv [.ptr 25 0])),(25,.box (.vv [.d (i64 l.near),.d (bF l.an),.sl 900000 5 0 e.steps.length,.sl 900001 1 0 x.pers.length,.d (i64 e.many)])),(900000,.arr 5 (.dd (aH e.steps))),(900001,.arr 1 (.dd (cN x.pers))),(26,.map (eZ aD dt.d e.first)),(11,.box (.dd b.cells)),(12,.box (.dd e.now.cells)),(43,.map (eZ aD aD e.mine)),(55,.arr 2 (.dd (cU e.of))),(1000000,.arr 1 (.dd (dn conf)))],st⟩)
   (fun k r e=>Cy l wider conf i k b x.pers e/\mD l wider conf i b x.pers k r e=ER/\e.steps.length<=26*i+2+3*k/\(0<=e.many/\e.many<=9*i+1+k) /\ ∀ num,(bD e.mine num).getD 0<=k) ⟨x.steps++ek wider ⟨i,0⟩ b.off,x.many+1,x.first,⟨i,0⟩,[],[]⟩ ?wk2 ⟨hE0,hER,by simp[ek];omega,by simp only;omega,fun num=>by show(0:Int)<=_;omega⟩ ?_ ?_
  case wk2=>
   refine(Wk.born 13 55 2 rfl rfl rfl).trans ((Wk.move 102688 900000 rfl rfl).trans aw)
  ·rintro k y r e Kh hk hr3 ⟨hE,fP,zj,hem,C6⟩
   rw[mD]at fP;have nU:=CS hI.pers.2 hx Kh hE;generalize cI:xC l wider conf i b x.pers k y e=e2 at fP nU;unfold xC at cI;simp only at cI;have hK2:=Oa hx Kh hE;generalize hST:(if k=0 then e.steps else e.steps ++ [(⟨((e.of ++ [e.now])[k-1]?).getD .right,e.now,y.shown-((b.ar[k-1]?).getD ⟨0,0,.empty,0⟩).shown⟩:cv)])=ST at cI hK2;conv=>whnf
   refine ag (fun _=>?_) (fun h=>absurd hk (by simpa using h));conv=>whnf
   refine aG Kh ?_;conv=>whnf
   refine ak rfl ?_;conv=>whnf
   have MX:e.of.length=k:=by rw[hE.of];simp
   have hk8:k<8:=by have:=hB.ar;omega
   have hy0:=hB.fV y (List.mem_of_getElem? Kh);refine ak (by simp[bx.len,cU]) ?_;conv=>whnf
   refine aM (decide_eq_true (by
    show((cU e.of).length+1)*16<=140737488355328;have:=hB.ar;simp[cU];omega)) ?_
   conv=>whnf
   refine ag (fun h1=>?_) (fun h1=>?_)
   ·have h1:0<k:=by have:=of_decide_eq_true h1;omega
    conv=>whnf
    refine ao ((k-1:Nat):Int) (by omega) (wrap_i64 (by omega)) ?_;conv=>whnf
    obtain⟨z,hz⟩:∃ z,b.ar[k-1]?=some z:=⟨_,List.getElem?_eq_getElem (by omega)⟩;have TA:=hB.fV z (List.mem_of_getElem? hz);have MW:(e.of ++ [e.now])[k-1]?=some ⟨i,bE b (k-1)⟩:=by
     rw[List.getElem?_append_left (by omega),hE.of,List.getElem?_map,List.getElem?_range (by omega)];rfl
    refine ag (fun _=>?_) (fun h=>absurd h (by
     show ¬ ((decide (0<=((k-1:Nat):Int))&&decide (((k-1:Nat):Int)<(((cU e.of).length+1:Nat):Int)))=false);simp[cU,MX];omega))
    conv=>whnf
    refine cJ (cz.cells ⟨i,bE b (k-1)⟩) (by
     show(cU e.of ++ [e.now.cells])[0+((k-1:Nat):Int).toNat]?=_;have:cU e.of ++ [e.now.cells]=cU (e.of ++ [e.now]):=by simp[cU]
     rw[this,Int.toNat_natCast,Nat.zero_add];unfold cU;rw[List.getElem?_map,MW];rfl) ?_
    conv=>whnf
    refine ao ((k-1:Nat):Int) (by omega) (wrap_i64 (by omega)) ?_;conv=>whnf
    refine aU z.cells ⟨by omega,by rw[Int.toNat_natCast,List.getElem?_map,hz];rfl⟩ ?_;conv=>whnf
    refine ae ?_;conv=>whnf
    refine ak rfl ?_;conv=>whnf
    refine ak (by simp[bx.len,aH]) ?_;conv=>whnf
    refine aM (decide_eq_true (by
     show((aH e.steps).length+1)*40<=140737488355328;simp[aH];omega)) ?_
    conv=>whnf
    rw[if_neg (by omega),MW,hz]at hST;simp only[Option.getD_some]at hST;refine eg.OF ?_;refine af (Bc y) rfl rfl ?_;refine⟨⟨[(2,.sl 1000000 1 0 conf.length),(3,.ptr 3 0),(4,.ptr 4 0),(7,.ptr 7 0),(8,.mp 26),(9,.clo 168 [.ptr 7 0,.ptr 4 0]),(29,.d (bF l.an)),(30,.d (i64 l.an.length)),(31,.d (i64 i)),(10,.d (i64 i)),(11,.ptr 11 0),(12,.ptr 12 0),(13,.sl 55 2 0 (e.of ++ [e.now]).length),(14,.mp 43),(15,.d (i64 k)),(16,.ptr 16 0),(45,.d (lF b.ar)),(46,.d (i64 b.ar.length)),(47,.d (i64 k)),(85,.d (bQ y))],[(3,.box (.dd l.cells)),(4,.box (.dd [i64 wider])),(7,.box (.vv [.ptr 25 0])),(25,.box (.vv [.d (i64 l.near),.d (bF l.an),.sl 900000 5 0 ST.length,.sl 900001 1 0 x.pers.length,.d (i64 e.many)])),(900000,.arr 5 (.dd (aH ST))),(900001,.arr 1 (.dd (cN x.pers))),(26,.map (eZ aD dt.d e.first)),(11,.box (.dd b.cells)),(12,.box (.dd e.now.cells)),(16,.box (.dd y.cells)),(43,.map (eZ aD aD e.mine)),(55,.arr 2 (.dd (cU (e.of ++ [e.now])))),(1000000,.arr 1 (.dd (dn conf)))],st⟩,(Wk.move 81 900000 rfl rfl).trans (Wk.sub ⟨rfl,rfl,rfl,rfl,rfl,rfl,rfl,rfl,rfl,rfl,rfl,rfl,?_,rfl,rfl,rfl,rfl,rfl,rfl,rfl,trivial⟩ ⟨rfl,rfl,rfl,?_,?_,rfl,rfl,rfl,rfl,rfl,rfl,?_,rfl,trivial⟩),?_⟩
    ·show some (V.sl 55 2 0 ((cU e.of).length+1))=_
     simp[cU]
    ·show some (Obj.box (Cells.vv [.d (i64 l.near),.d (bF l.an),.sl 900000 5 0 ((aH e.steps).length+1),.sl 900001 1 0 x.pers.length,.d (i64 e.many)]))=_
     rw[<- hST];simp[aH]
    ·rw[<- hST]
     show some (Obj.arr 5 (bx.dd (aH e.steps ++ [[i64 i,i64 (bE b (k-1):Nat),i64 e.now.book,i64 e.now.n,i64 (y.shown-z.shown)]])))=_;unfold aH;rw[List.map_append];rfl
    ·show some (Obj.arr 2 (bx.dd (cU e.of ++ [e.now.cells])))=_
     simp[cU]
    have Tu:ST.length<=e.steps.length+1:=by rw[<- hST];simp
    by_cases h2:y.kind=2
    ·rw[if_pos h2]at cI
     have ht:bQ y = .ifc 288 (.agg []):=by unfold bQ;rw[if_neg (by omega),if_pos h2]
     rw[ht];have W2:=nb b k;have Uw:=oL b;have IS:=hB.ar;have J4:e.now.n=(bE b k:Nat):=by rw[hE.now]
     conv=>whnf
     refine ae ?_;conv=>whnf
     refine bH (B3 l wider hw ST (by omega) x.pers e.many (by omega) ⟨e.now.book,e.now.n+1⟩ b.set hB.set) [7,4,25,900000,900001] rfl ?lent rfl ?_;case lent=>exact⟨_,_,rfl,bS rfl ⟨⟨rfl,rfl⟩,trivial⟩,_,_,rfl,rfl,_,_,rfl,bS rfl ⟨rfl,rfl,⟨rfl,rfl,rfl,rfl⟩,⟨rfl,rfl,rfl,rfl⟩,rfl,trivial⟩,_,_,rfl,rfl,_,_,rfl,rfl,rfl⟩
     conv=>whnf
     refine ae ?_;conv=>whnf
     subst cI;refine⟨_,⟨nU,fP,?_,?_,fun num=>by have:=C6 num;simp only;omega⟩,?_⟩
     ·simp[ek];omega
     ·simp only;omega
     ·exact(Wk.move 106208 900000 rfl rfl).trans aw
    ·rw[if_neg h2]at cI
     by_cases h3:y.kind=3
     ·rw[if_pos h3]at cI
      have ht:bQ y = .ifc 228 (.agg [.str y.word,i64 y.number]):=by unfold bQ;rw[if_neg (by omega),if_neg h2,if_pos h3]
      rw[ht];have vH:=C6 y.number;have MR:=(hE.mine y.number).1;generalize hN:(bD e.mine y.number).getD 0=N at cI vH MR;have ic:∀ num,(bD (cW e.mine y.number (N+1)) num).getD 0<=((k+1:Nat):Int):=fun num=>by
       rw[dL];split
       ·simp only[Option.getD_some];omega
       ·have:=C6 num;omega
      conv=>whnf
      cases uw:bD e.mine y.number with
      | none=>
       have GU:N=0:=by rw[<- hN,uw];rfl
       have A4:=cG (kd:=aD) (vd:=aD) (N+1) uw;refine⟨none,aQ (kd:=aD) aP uw 0,?_⟩;conv=>whnf
       refine ao (N+1) (by omega) (wrap_i64 (by omega)) ?_;conv=>whnf
       refine⟨none,aQ (kd:=aD) aP uw 0,?_⟩;conv=>whnf
       have mL:eZ aD aD e.mine ++ [(i64 y.number,i64 (N+1))]=eZ aD aD (cW e.mine y.number (N+1)):=A4;rw[mL];obtain⟨iz,_,zn,_⟩:=bf (kd:=aD) (vd:=aD) aP (show bD (cW e.mine y.number (N+1)) y.number=some (N+1) by rw[dL,if_pos rfl]) 0;refine⟨_,zn,?_⟩;conv=>whnf
       refine ag (fun h5=>?_) (fun h5=>?_)
       ·have h5:1<N+1:=of_decide_eq_true h5
        rw[if_pos (.inl (by omega))]at cI;conv=>whnf
        refine ae ?_;conv=>whnf
        subst cI;exact⟨_,⟨nU,fP,by simp only;omega,by simp only;omega,ic⟩,aw⟩
       ·have h5:¬ 1<N+1:=of_decide_eq_false h5
        conv=>whnf
        refine aA (ds:=[aV conf,i64 y.number]) (EF conf y.number (by omega)) rfl 1 (aC (cH rfl (by simp[dn])) rfl) ?_;conv=>whnf
        refine ag (fun h6=>?_) (fun h6=>?_)
        ·have h6:y.number∈conf:=of_decide_eq_true h6
         rw[if_pos (.inr h6)]at cI;conv=>whnf
         refine ae ?_;conv=>whnf
         subst cI;exact⟨_,⟨nU,fP,by simp only;omega,by simp only;omega,ic⟩,aw⟩
        ·have h6:¬ y.number∈conf:=of_decide_eq_false h6
         rw[if_neg (fun h=>h.elim (fun h=>h5 (by omega)) h6)]at cI;conv=>whnf
         cases jh:bD e.first y.number with
         | none=>
          rw[jh]at cI;simp only at cI;have G7:=cG (kd:=aD) (vd:=dt.d) (⟨i,k⟩:dt) jh;refine⟨none,aQ (kd:=aD) aP jh 0,?_⟩;conv=>whnf
          refine⟨none,aQ (kd:=aD) aP jh 0,?_⟩;conv=>whnf
          have s9:eZ aD dt.d e.first ++ [(i64 y.number,dt.d ⟨i,k⟩)]=eZ aD dt.d (cW e.first y.number ⟨i,k⟩):=G7
          refine ae ?_;conv=>whnf
          subst cI;refine⟨_,⟨nU,fP,by simp only;omega,by simp only;omega,ic⟩,?_⟩;simp only;rw[<- s9];exact aw
         | some r0=>
          rw[jh]at cI;simp only at cI;obtain⟨j0,m0,c0,x0,E3,eY,AJ,-,mJ⟩:=hE.fst _ _ jh;obtain⟨iy,_,rU,_⟩:=bf (kd:=aD) (vd:=dt.d) aP jh 0;refine⟨_,rU,?_⟩;conv=>whnf
          subst E3;have s8:=(List.getElem?_eq_some_iff.1 eY.fV).1;have C5:=(List.getElem?_eq_some_iff.1 eY.book).1;refine aU c0.cells ⟨by show(0:Int)<=((j0:Nat):Int);omega,by show(l.an.map au.cells)[((j0:Nat):Int).toNat]?=_;rw[Int.toNat_natCast,List.getElem?_map,eY.book];rfl⟩ ?_;conv=>whnf
          refine aU x0.cells ⟨by show(0:Int)<=((m0:Nat):Int);omega,by show(c0.ar.map aZ.cells)[((m0:Nat):Int).toNat]?=_;rw[Int.toNat_natCast,List.getElem?_map,eY.fV];rfl⟩ ?_;conv=>whnf
          have Df:=(hR.book c0 (List.mem_of_getElem? eY.book)).fV x0 (List.mem_of_getElem? eY.fV);have D4:j0<i:=by
           rcases mJ with mJ|⟨EZ,mJ⟩
           ·exact mJ
           ·have kC:=eY.book
            rw[EZ]at kC;have la:c0=b:=Option.some.inj (kC.symm.trans hx);have h7:=(hE.mine y.number).2.2 ⟨m0,mJ,la▸AJ⟩;rw[hN]at h7;omega
          have xI:=hI.pers.2 j0 c0 eY.book D4;refine ao (y.shown-x0.shown) rfl (wrap_i64 (by omega)) ?_;conv=>whnf
          refine ag (fun _=>?_) (fun h=>absurd h (by
           show ¬ ((decide (0<=((j0:Nat):Int))&&decide (((j0:Nat):Int)<((x.pers.length:Nat):Int)))=false);have:=hI.pers.1;simp;omega))
          conv=>whnf
          refine cJ [.vs ((fe j0 c0).map cz.cells)] (by
           show(cN x.pers)[0+((j0:Nat):Int).toNat]?=_;unfold cN;rw[Int.toNat_natCast,Nat.zero_add,List.getElem?_map,xI];rfl) ?_
          conv=>whnf
          refine aU (cz.cells ⟨j0,(bE c0 m0:Nat)⟩) ⟨by show(0:Int)<=((m0:Nat):Int);omega,by show((fe j0 c0).map cz.cells)[((m0:Nat):Int).toNat]?=_;rw[Int.toNat_natCast,List.getElem?_map,fT s8];rfl⟩ ?_;conv=>whnf
          refine ao (-(y.shown-x0.shown)) (by omega) (wrap_i64 (by omega)) ?_;conv=>whnf
          refine ak rfl ?_;conv=>whnf
          refine ak (by simp[bx.len,aH]) ?_;conv=>whnf
          refine aM (decide_eq_true (by
           show((aH ST).length+2)*40<=140737488355328;simp[aH];omega)) ?_
          conv=>whnf
          refine ae ?_;conv=>whnf
          rw[iv eY xI,eJ eY]at cI;subst cI;refine⟨_,⟨nU,fP,by simp only[List.length_append,List.length_cons,List.length_nil];omega,by simp only;omega,ic⟩,?_⟩;have He:∀ p q:cv,aH (ST ++ [p,q])=aH ST++aH [p,q]:=fun p q=>by unfold aH;rw[List.map_append]
          simp only[He];refine(Wk.move 174 900000 rfl rfl).trans (Wk.sub ⟨rfl,rfl,rfl,rfl,rfl,rfl,rfl,rfl,rfl,rfl,rfl,rfl,rfl,rfl,rfl,rfl,rfl,trivial⟩ ⟨rfl,rfl,rfl,?_,rfl,rfl,rfl,rfl,rfl,rfl,rfl,rfl,trivial⟩);show some (Obj.box (Cells.vv [.d (i64 l.near),.d (bF l.an),.sl 900000 5 0 ((aH ST).length+2),.sl 900001 1 0 x.pers.length,.d (i64 e.many)]))=_;simp[aH]
      | some n0=>
       have GU:N=n0:=by rw[<- hN,uw];rfl
       obtain⟨ix,_,qN,zm,_⟩:=bf (kd:=aD) (vd:=aD) aP uw 0;refine⟨_,qN,?_⟩;conv=>whnf
       refine ao (N+1) (by rw[GU]) (wrap_i64 (by omega)) ?_;conv=>whnf
       refine⟨_,qN,?_⟩;conv=>whnf
       have mL:(eZ aD aD e.mine).set (0+ix,aD n0).fst (i64 y.number,i64 (N+1))=eZ aD aD (cW e.mine y.number (N+1)):=by
        show(eZ aD aD e.mine).set (0+ix) _=_;rw[Nat.zero_add];exact zm (N+1)
       rw[mL];obtain⟨iz,_,zn,_⟩:=bf (kd:=aD) (vd:=aD) aP (show bD (cW e.mine y.number (N+1)) y.number=some (N+1) by rw[dL,if_pos rfl]) 0;refine⟨_,zn,?_⟩;conv=>whnf
       refine ag (fun h5=>?_) (fun h5=>?_)
       ·have h5:1<N+1:=of_decide_eq_true h5
        rw[if_pos (.inl (by omega))]at cI;conv=>whnf
        refine ae ?_;conv=>whnf
        subst cI;exact⟨_,⟨nU,fP,by simp only;omega,by simp only;omega,ic⟩,aw⟩
       ·have h5:¬ 1<N+1:=of_decide_eq_false h5
        conv=>whnf
        refine aA (ds:=[aV conf,i64 y.number]) (EF conf y.number (by omega)) rfl 1 (aC (cH rfl (by simp[dn])) rfl) ?_;conv=>whnf
        refine ag (fun h6=>?_) (fun h6=>?_)
        ·have h6:y.number∈conf:=of_decide_eq_true h6
         rw[if_pos (.inr h6)]at cI;conv=>whnf
         refine ae ?_;conv=>whnf
         subst cI;exact⟨_,⟨nU,fP,by simp only;omega,by simp only;omega,ic⟩,aw⟩
        ·have h6:¬ y.number∈conf:=of_decide_eq_false h6
         rw[if_neg (fun h=>h.elim (fun h=>h5 (by omega)) h6)]at cI;conv=>whnf
         cases jh:bD e.first y.number with
         | none=>
          rw[jh]at cI;simp only at cI;have G7:=cG (kd:=aD) (vd:=dt.d) (⟨i,k⟩:dt) jh;refine⟨none,aQ (kd:=aD) aP jh 0,?_⟩;conv=>whnf
          refine⟨none,aQ (kd:=aD) aP jh 0,?_⟩;conv=>whnf
          have s9:eZ aD dt.d e.first ++ [(i64 y.number,dt.d ⟨i,k⟩)]=eZ aD dt.d (cW e.first y.number ⟨i,k⟩):=G7
          refine ae ?_;conv=>whnf
          subst cI;refine⟨_,⟨nU,fP,by simp only;omega,by simp only;omega,ic⟩,?_⟩;simp only;rw[<- s9];exact aw
         | some r0=>
          rw[jh]at cI;simp only at cI;obtain⟨j0,m0,c0,x0,E3,eY,AJ,-,mJ⟩:=hE.fst _ _ jh;obtain⟨iy,_,rU,_⟩:=bf (kd:=aD) (vd:=dt.d) aP jh 0;refine⟨_,rU,?_⟩;conv=>whnf
          subst E3;have s8:=(List.getElem?_eq_some_iff.1 eY.fV).1;have C5:=(List.getElem?_eq_some_iff.1 eY.book).1;refine aU c0.cells ⟨by show(0:Int)<=((j0:Nat):Int);omega,by show(l.an.map au.cells)[((j0:Nat):Int).toNat]?=_;rw[Int.toNat_natCast,List.getElem?_map,eY.book];rfl⟩ ?_;conv=>whnf
          refine aU x0.cells ⟨by show(0:Int)<=((m0:Nat):Int);omega,by show(c0.ar.map aZ.cells)[((m0:Nat):Int).toNat]?=_;rw[Int.toNat_natCast,List.getElem?_map,eY.fV];rfl⟩ ?_;conv=>whnf
          have Df:=(hR.book c0 (List.mem_of_getElem? eY.book)).fV x0 (List.mem_of_getElem? eY.fV);have D4:j0<i:=by
           rcases mJ with mJ|⟨EZ,mJ⟩
           ·exact mJ
           ·have kC:=eY.book
            rw[EZ]at kC;have la:c0=b:=Option.some.inj (kC.symm.trans hx);have h7:=(hE.mine y.number).2.2 ⟨m0,mJ,la▸AJ⟩;rw[hN]at h7;omega
          have xI:=hI.pers.2 j0 c0 eY.book D4;refine ao (y.shown-x0.shown) rfl (wrap_i64 (by omega)) ?_;conv=>whnf
          refine ag (fun _=>?_) (fun h=>absurd h (by
           show ¬ ((decide (0<=((j0:Nat):Int))&&decide (((j0:Nat):Int)<((x.pers.length:Nat):Int)))=false);have:=hI.pers.1;simp;omega))
          conv=>whnf
          refine cJ [.vs ((fe j0 c0).map cz.cells)] (by
           show(cN x.pers)[0+((j0:Nat):Int).toNat]?=_;unfold cN;rw[Int.toNat_natCast,Nat.zero_add,List.getElem?_map,xI];rfl) ?_
          conv=>whnf
          refine aU (cz.cells ⟨j0,(bE c0 m0:Nat)⟩) ⟨by show(0:Int)<=((m0:Nat):Int);omega,by show((fe j0 c0).map cz.cells)[((m0:Nat):Int).toNat]?=_;rw[Int.toNat_natCast,List.getElem?_map,fT s8];rfl⟩ ?_;conv=>whnf
          refine ao (-(y.shown-x0.shown)) (by omega) (wrap_i64 (by omega)) ?_;conv=>whnf
          refine ak rfl ?_;conv=>whnf
          refine ak (by simp[bx.len,aH]) ?_;conv=>whnf
          refine aM (decide_eq_true (by
           show((aH ST).length+2)*40<=140737488355328;simp[aH];omega)) ?_
          conv=>whnf
          refine ae ?_;conv=>whnf
          rw[iv eY xI,eJ eY]at cI;subst cI;refine⟨_,⟨nU,fP,by simp only[List.length_append,List.length_cons,List.length_nil];omega,by simp only;omega,ic⟩,?_⟩;have He:∀ p q:cv,aH (ST ++ [p,q])=aH ST++aH [p,q]:=fun p q=>by unfold aH;rw[List.map_append]
          simp only[He];refine(Wk.move 174 900000 rfl rfl).trans (Wk.sub ⟨rfl,rfl,rfl,rfl,rfl,rfl,rfl,rfl,rfl,rfl,rfl,rfl,rfl,rfl,rfl,rfl,rfl,trivial⟩ ⟨rfl,rfl,rfl,?_,rfl,rfl,rfl,rfl,rfl,rfl,rfl,rfl,trivial⟩);show some (Obj.box (Cells.vv [.d (i64 l.near),.d (bF l.an),.sl 900000 5 0 ((aH ST).length+2),.sl 900001 1 0 x.pers.length,.d (i64 e.many)]))=_;simp[aH]
     ·rw[if_neg h3]at cI
      have Sq:y.kind=1:=by omega
      have ht:bQ y = .ifc 214 (.agg [.str y.word]):=by unfold bQ;rw[if_pos Sq]
      rw[ht];conv=>whnf
      refine ae ?_;conv=>whnf
      subst cI;exact⟨_,⟨nU,fP,by simp only;omega,by simp only;omega,fun num=>by have:=C6 num;simp only;omega⟩,aw⟩
   ·have h1:k=0:=by have:=of_decide_eq_false h1;omega
    rw[if_pos h1]at hST;conv=>whnf
    refine eg.OF ?_;refine af (Bc y) rfl rfl ?_;refine⟨⟨[(2,.sl 1000000 1 0 conf.length),(3,.ptr 3 0),(4,.ptr 4 0),(7,.ptr 7 0),(8,.mp 26),(9,.clo 168 [.ptr 7 0,.ptr 4 0]),(29,.d (bF l.an)),(30,.d (i64 l.an.length)),(31,.d (i64 i)),(10,.d (i64 i)),(11,.ptr 11 0),(12,.ptr 12 0),(13,.sl 55 2 0 (e.of ++ [e.now]).length),(14,.mp 43),(15,.d (i64 k)),(16,.ptr 16 0),(45,.d (lF b.ar)),(46,.d (i64 b.ar.length)),(47,.d (i64 k)),(85,.d (bQ y))],[(3,.box (.dd l.cells)),(4,.box (.dd [i64 wider])),(7,.box (.vv [.ptr 25 0])),(25,.box (.vv [.d (i64 l.near),.d (bF l.an),.sl 900000 5 0 ST.length,.sl 900001 1 0 x.pers.length,.d (i64 e.many)])),(900000,.arr 5 (.dd (aH ST))),(900001,.arr 1 (.dd (cN x.pers))),(26,.map (eZ aD dt.d e.first)),(11,.box (.dd b.cells)),(12,.box (.dd e.now.cells)),(16,.box (.dd y.cells)),(43,.map (eZ aD aD e.mine)),(55,.arr 2 (.dd (cU (e.of ++ [e.now])))),(1000000,.arr 1 (.dd (dn conf)))],st⟩,Wk.sub ⟨rfl,rfl,rfl,rfl,rfl,rfl,rfl,rfl,rfl,rfl,rfl,rfl,?_,rfl,rfl,rfl,rfl,rfl,rfl,rfl,trivial⟩ ⟨rfl,rfl,rfl,?_,?_,rfl,rfl,rfl,rfl,rfl,rfl,?_,rfl,trivial⟩,?_⟩
    ·show some (V.sl 55 2 0 ((cU e.of).length+1))=_
     simp[cU]
    ·rw[<- hST];rfl
    ·rw[<- hST];rfl
    ·show some (Obj.arr 2 (bx.dd (cU e.of ++ [e.now.cells])))=_
     simp[cU]
    have Tu:ST.length<=e.steps.length+1:=by rw[<- hST];simp
    by_cases h2:y.kind=2
    ·rw[if_pos h2]at cI
     have ht:bQ y = .ifc 288 (.agg []):=by unfold bQ;rw[if_neg (by omega),if_pos h2]
     rw[ht];have W2:=nb b k;have Uw:=oL b;have IS:=hB.ar;have J4:e.now.n=(bE b k:Nat):=by rw[hE.now]
     conv=>whnf
     refine ae ?_;conv=>whnf
     refine bH (B3 l wider hw ST (by omega) x.pers e.many (by omega) ⟨e.now.book,e.now.n+1⟩ b.set hB.set) [7,4,25,900000,900001] rfl ?lent rfl ?_;case lent=>exact⟨_,_,rfl,bS rfl ⟨⟨rfl,rfl⟩,trivial⟩,_,_,rfl,rfl,_,_,rfl,bS rfl ⟨rfl,rfl,⟨rfl,rfl,rfl,rfl⟩,⟨rfl,rfl,rfl,rfl⟩,rfl,trivial⟩,_,_,rfl,rfl,_,_,rfl,rfl,rfl⟩
     conv=>whnf
     refine ae ?_;conv=>whnf
     subst cI;refine⟨_,⟨nU,fP,?_,?_,fun num=>by have:=C6 num;simp only;omega⟩,?_⟩
     ·simp[ek];omega
     ·simp only;omega
     ·exact(Wk.move 106208 900000 rfl rfl).trans aw
    ·rw[if_neg h2]at cI
     by_cases h3:y.kind=3
     ·rw[if_pos h3]at cI
      have ht:bQ y = .ifc 228 (.agg [.str y.word,i64 y.number]):=by unfold bQ;rw[if_neg (by omega),if_neg h2,if_pos h3]
      rw[ht];have vH:=C6 y.number;have MR:=(hE.mine y.number).1;generalize hN:(bD e.mine y.number).getD 0=N at cI vH MR;have ic:∀ num,(bD (cW e.mine y.number (N+1)) num).getD 0<=((k+1:Nat):Int):=fun num=>by
       rw[dL];split
       ·simp only[Option.getD_some];omega
       ·have:=C6 num;omega
      conv=>whnf
      cases uw:bD e.mine y.number with
      | none=>
       have GU:N=0:=by rw[<- hN,uw];rfl
       have A4:=cG (kd:=aD) (vd:=aD) (N+1) uw;refine⟨none,aQ (kd:=aD) aP uw 0,?_⟩;conv=>whnf
       refine ao (N+1) (by omega) (wrap_i64 (by omega)) ?_;conv=>whnf
       refine⟨none,aQ (kd:=aD) aP uw 0,?_⟩;conv=>whnf
       have mL:eZ aD aD e.mine ++ [(i64 y.number,i64 (N+1))]=eZ aD aD (cW e.mine y.number (N+1)):=A4;rw[mL];obtain⟨iz,_,zn,_⟩:=bf (kd:=aD) (vd:=aD) aP (show bD (cW e.mine y.number (N+1)) y.number=some (N+1) by rw[dL,if_pos rfl]) 0;refine⟨_,zn,?_⟩;conv=>whnf
       refine ag (fun h5=>?_) (fun h5=>?_)
       ·have h5:1<N+1:=of_decide_eq_true h5
        rw[if_pos (.inl (by omega))]at cI;conv=>whnf
        refine ae ?_;conv=>whnf
        subst cI;exact⟨_,⟨nU,fP,by simp only;omega,by simp only;omega,ic⟩,aw⟩
       ·have h5:¬ 1<N+1:=of_decide_eq_false h5
        conv=>whnf
        refine aA (ds:=[aV conf,i64 y.number]) (EF conf y.number (by omega)) rfl 1 (aC (cH rfl (by simp[dn])) rfl) ?_;conv=>whnf
        refine ag (fun h6=>?_) (fun h6=>?_)
        ·have h6:y.number∈conf:=of_decide_eq_true h6
         rw[if_pos (.inr h6)]at cI;conv=>whnf
         refine ae ?_;conv=>whnf
         subst cI;exact⟨_,⟨nU,fP,by simp only;omega,by simp only;omega,ic⟩,aw⟩
        ·have h6:¬ y.number∈conf:=of_decide_eq_false h6
         rw[if_neg (fun h=>h.elim (fun h=>h5 (by omega)) h6)]at cI;conv=>whnf
         cases jh:bD e.first y.number with
         | none=>
          rw[jh]at cI;simp only at cI;have G7:=cG (kd:=aD) (vd:=dt.d) (⟨i,k⟩:dt) jh;refine⟨none,aQ (kd:=aD) aP jh 0,?_⟩;conv=>whnf
          refine⟨none,aQ (kd:=aD) aP jh 0,?_⟩;conv=>whnf
          have s9:eZ aD dt.d e.first ++ [(i64 y.number,dt.d ⟨i,k⟩)]=eZ aD dt.d (cW e.first y.number ⟨i,k⟩):=G7
          refine ae ?_;conv=>whnf
          subst cI;refine⟨_,⟨nU,fP,by simp only;omega,by simp only;omega,ic⟩,?_⟩;simp only;rw[<- s9];exact aw
         | some r0=>
          rw[jh]at cI;simp only at cI;obtain⟨j0,m0,c0,x0,E3,eY,AJ,-,mJ⟩:=hE.fst _ _ jh;obtain⟨iy,_,rU,_⟩:=bf (kd:=aD) (vd:=dt.d) aP jh 0;refine⟨_,rU,?_⟩;conv=>whnf
          subst E3;have s8:=(List.getElem?_eq_some_iff.1 eY.fV).1;have C5:=(List.getElem?_eq_some_iff.1 eY.book).1;refine aU c0.cells ⟨by show(0:Int)<=((j0:Nat):Int);omega,by show(l.an.map au.cells)[((j0:Nat):Int).toNat]?=_;rw[Int.toNat_natCast,List.getElem?_map,eY.book];rfl⟩ ?_;conv=>whnf
          refine aU x0.cells ⟨by show(0:Int)<=((m0:Nat):Int);omega,by show(c0.ar.map aZ.cells)[((m0:Nat):Int).toNat]?=_;rw[Int.toNat_natCast,List.getElem?_map,eY.fV];rfl⟩ ?_;conv=>whnf
          have Df:=(hR.book c0 (List.mem_of_getElem? eY.book)).fV x0 (List.mem_of_getElem? eY.fV);have D4:j0<i:=by
           rcases mJ with mJ|⟨EZ,mJ⟩
           ·exact mJ
           ·have kC:=eY.book
            rw[EZ]at kC;have la:c0=b:=Option.some.inj (kC.symm.trans hx);have h7:=(hE.mine y.number).2.2 ⟨m0,mJ,la▸AJ⟩;rw[hN]at h7;omega
          have xI:=hI.pers.2 j0 c0 eY.book D4;refine ao (y.shown-x0.shown) rfl (wrap_i64 (by omega)) ?_;conv=>whnf
          refine ag (fun _=>?_) (fun h=>absurd h (by
           show ¬ ((decide (0<=((j0:Nat):Int))&&decide (((j0:Nat):Int)<((x.pers.length:Nat):Int)))=false);have:=hI.pers.1;simp;omega))
          conv=>whnf
          refine cJ [.vs ((fe j0 c0).map cz.cells)] (by
           show(cN x.pers)[0+((j0:Nat):Int).toNat]?=_;unfold cN;rw[Int.toNat_natCast,Nat.zero_add,List.getElem?_map,xI];rfl) ?_
          conv=>whnf
          refine aU (cz.cells ⟨j0,(bE c0 m0:Nat)⟩) ⟨by show(0:Int)<=((m0:Nat):Int);omega,by show((fe j0 c0).map cz.cells)[((m0:Nat):Int).toNat]?=_;rw[Int.toNat_natCast,List.getElem?_map,fT s8];rfl⟩ ?_;conv=>whnf
          refine ao (-(y.shown-x0.shown)) (by omega) (wrap_i64 (by omega)) ?_;conv=>whnf
          refine ak rfl ?_;conv=>whnf
          refine ak (by simp[bx.len,aH]) ?_;conv=>whnf
          refine aM (decide_eq_true (by
           show((aH ST).length+2)*40<=140737488355328;simp[aH];omega)) ?_
          conv=>whnf
          refine ae ?_;conv=>whnf
          rw[iv eY xI,eJ eY]at cI;subst cI;refine⟨_,⟨nU,fP,by simp only[List.length_append,List.length_cons,List.length_nil];omega,by simp only;omega,ic⟩,?_⟩;have He:∀ p q:cv,aH (ST ++ [p,q])=aH ST++aH [p,q]:=fun p q=>by unfold aH;rw[List.map_append]
          simp only[He];refine(Wk.move 174 900000 rfl rfl).trans (Wk.sub ⟨rfl,rfl,rfl,rfl,rfl,rfl,rfl,rfl,rfl,rfl,rfl,rfl,rfl,rfl,rfl,rfl,rfl,trivial⟩ ⟨rfl,rfl,rfl,?_,rfl,rfl,rfl,rfl,rfl,rfl,rfl,rfl,trivial⟩);show some (Obj.box (Cells.vv [.d (i64 l.near),.d (bF l.an),.sl 900000 5 0 ((aH ST).length+2),.sl 900001 1 0 x.pers.length,.d (i64 e.many)]))=_;simp[aH]
      | some n0=>
       have GU:N=n0:=by rw[<- hN,uw];rfl
       obtain⟨ix,_,qN,zm,_⟩:=bf (kd:=aD) (vd:=aD) aP uw 0;refine⟨_,qN,?_⟩;conv=>whnf
       refine ao (N+1) (by rw[GU]) (wrap_i64 (by omega)) ?_;conv=>whnf
       refine⟨_,qN,?_⟩;conv=>whnf
       have mL:(eZ aD aD e.mine).set (0+ix,aD n0).fst (i64 y.number,i64 (N+1))=eZ aD aD (cW e.mine y.number (N+1)):=by
        show(eZ aD aD e.mine).set (0+ix) _=_;rw[Nat.zero_add];exact zm (N+1)
       rw[mL];obtain⟨iz,_,zn,_⟩:=bf (kd:=aD) (vd:=aD) aP (show bD (cW e.mine y.number (N+1)) y.number=some (N+1) by rw[dL,if_pos rfl]) 0;refine⟨_,zn,?_⟩;conv=>whnf
       refine ag (fun h5=>?_) (fun h5=>?_)
       ·have h5:1<N+1:=of_decide_eq_true h5
        rw[if_pos (.inl (by omega))]at cI;conv=>whnf
        refine ae ?_;conv=>whnf
        subst cI;exact⟨_,⟨nU,fP,by simp only;omega,by simp only;omega,ic⟩,aw⟩
       ·have h5:¬ 1<N+1:=of_decide_eq_false h5
        conv=>whnf
        refine aA (ds:=[aV conf,i64 y.number]) (EF conf y.number (by omega)) rfl 1 (aC (cH rfl (by simp[dn])) rfl) ?_;conv=>whnf
        refine ag (fun h6=>?_) (fun h6=>?_)
        ·have h6:y.number∈conf:=of_decide_eq_true h6
         rw[if_pos (.inr h6)]at cI;conv=>whnf
         refine ae ?_;conv=>whnf
         subst cI;exact⟨_,⟨nU,fP,by simp only;omega,by simp only;omega,ic⟩,aw⟩
        ·have h6:¬ y.number∈conf:=of_decide_eq_false h6
         rw[if_neg (fun h=>h.elim (fun h=>h5 (by omega)) h6)]at cI;conv=>whnf
         cases jh:bD e.first y.number with
         | none=>
          rw[jh]at cI;simp only at cI;have G7:=cG (kd:=aD) (vd:=dt.d) (⟨i,k⟩:dt) jh;refine⟨none,aQ (kd:=aD) aP jh 0,?_⟩;conv=>whnf
          refine⟨none,aQ (kd:=aD) aP jh 0,?_⟩;conv=>whnf
          have s9:eZ aD dt.d e.first ++ [(i64 y.number,dt.d ⟨i,k⟩)]=eZ aD dt.d (cW e.first y.number ⟨i,k⟩):=G7
          refine ae ?_;conv=>whnf
          subst cI;refine⟨_,⟨nU,fP,by simp only;omega,by simp only;omega,ic⟩,?_⟩;simp only;rw[<- s9];exact aw
         | some r0=>
          rw[jh]at cI;simp only at cI;obtain⟨j0,m0,c0,x0,E3,eY,AJ,-,mJ⟩:=hE.fst _ _ jh;obtain⟨iy,_,rU,_⟩:=bf (kd:=aD) (vd:=dt.d) aP jh 0;refine⟨_,rU,?_⟩;conv=>whnf
          subst E3;have s8:=(List.getElem?_eq_some_iff.1 eY.fV).1;have C5:=(List.getElem?_eq_some_iff.1 eY.book).1;refine aU c0.cells ⟨by show(0:Int)<=((j0:Nat):Int);omega,by show(l.an.map au.cells)[((j0:Nat):Int).toNat]?=_;rw[Int.toNat_natCast,List.getElem?_map,eY.book];rfl⟩ ?_;conv=>whnf
          refine aU x0.cells ⟨by show(0:Int)<=((m0:Nat):Int);omega,by show(c0.ar.map aZ.cells)[((m0:Nat):Int).toNat]?=_;rw[Int.toNat_natCast,List.getElem?_map,eY.fV];rfl⟩ ?_;conv=>whnf
          have Df:=(hR.book c0 (List.mem_of_getElem? eY.book)).fV x0 (List.mem_of_getElem? eY.fV);have D4:j0<i:=by
           rcases mJ with mJ|⟨EZ,mJ⟩
           ·exact mJ
           ·have kC:=eY.book
            rw[EZ]at kC;have la:c0=b:=Option.some.inj (kC.symm.trans hx);have h7:=(hE.mine y.number).2.2 ⟨m0,mJ,la▸AJ⟩;rw[hN]at h7;omega
          have xI:=hI.pers.2 j0 c0 eY.book D4;refine ao (y.shown-x0.shown) rfl (wrap_i64 (by omega)) ?_;conv=>whnf
          refine ag (fun _=>?_) (fun h=>absurd h (by
           show ¬ ((decide (0<=((j0:Nat):Int))&&decide (((j0:Nat):Int)<((x.pers.length:Nat):Int)))=false);have:=hI.pers.1;simp;omega))
          conv=>whnf
          refine cJ [.vs ((fe j0 c0).map cz.cells)] (by
           show(cN x.pers)[0+((j0:Nat):Int).toNat]?=_;unfold cN;rw[Int.toNat_natCast,Nat.zero_add,List.getElem?_map,xI];rfl) ?_
          conv=>whnf
          refine aU (cz.cells ⟨j0,(bE c0 m0:Nat)⟩) ⟨by show(0:Int)<=((m0:Nat):Int);omega,by show((fe j0 c0).map cz.cells)[((m0:Nat):Int).toNat]?=_;rw[Int.toNat_natCast,List.getElem?_map,fT s8];rfl⟩ ?_;conv=>whnf
          refine ao (-(y.shown-x0.shown)) (by omega) (wrap_i64 (by omega)) ?_;conv=>whnf
          refine ak rfl ?_;conv=>whnf
          refine ak (by simp[bx.len,aH]) ?_;conv=>whnf
          refine aM (decide_eq_true (by
           show((aH ST).length+2)*40<=140737488355328;simp[aH];omega)) ?_
          conv=>whnf
          refine ae ?_;conv=>whnf
          rw[iv eY xI,eJ eY]at cI;subst cI;refine⟨_,⟨nU,fP,by simp only[List.length_append,List.length_cons,List.length_nil];omega,by simp only;omega,ic⟩,?_⟩;have He:∀ p q:cv,aH (ST ++ [p,q])=aH ST++aH [p,q]:=fun p q=>by unfold aH;rw[List.map_append]
          simp only[He];refine(Wk.move 174 900000 rfl rfl).trans (Wk.sub ⟨rfl,rfl,rfl,rfl,rfl,rfl,rfl,rfl,rfl,rfl,rfl,rfl,rfl,rfl,rfl,rfl,rfl,trivial⟩ ⟨rfl,rfl,rfl,?_,rfl,rfl,rfl,rfl,rfl,rfl,rfl,rfl,trivial⟩);show some (Obj.box (Cells.vv [.d (i64 l.near),.d (bF l.an),.sl 900000 5 0 ((aH ST).length+2),.sl 900001 1 0 x.pers.length,.d (i64 e.many)]))=_;simp[aH]
     ·rw[if_neg h3]at cI
      have Sq:y.kind=1:=by omega
      have ht:bQ y = .ifc 214 (.agg [.str y.word]):=by unfold bQ;rw[if_pos Sq]
      rw[ht];conv=>whnf
      refine ae ?_;conv=>whnf
      subst cI;exact⟨_,⟨nU,fP,by simp only;omega,by simp only;omega,fun num=>by have:=C6 num;simp only;omega⟩,aw⟩
  ·rintro e ⟨hE,fP,zj,hem,C6⟩
   conv=>whnf
   refine ag (fun h=>absurd h (by simp)) (fun _=>?_);conv=>whnf
   refine ak rfl ?_;conv=>whnf
   refine ak (by simp[bx.len,cN]) ?_;conv=>whnf
   have jv:(true && !eU 185 ((bg (cN x.pers) ++ [[V.sl 55 2 0 e.of.length]]).flatten))=true:=by
    rw[il];rfl
   refine aM jv ?_;conv=>whnf
   refine aM (decide_eq_true (by
    show((cN x.pers).length+1)*24<=140737488355328;have:=hI.pers.1;simp[cN];omega)) ?_
   conv=>whnf
   refine mb [55,185] (by
    show ck ((bg (cN x.pers) ++ [[V.sl 55 2 0 e.of.length]]).flatten)++([185] ++ [])=_;rw[fS];rfl) ?_
   conv=>whnf
   refine ao ((i+1:Nat):Int) (by omega) (wrap_i64 (by omega)) ?_;conv=>whnf
   have fP:e=ER:=fP;subst fP;have MX:e.of.length=b.ar.length:=by rw[hE.of];simp
   refine⟨⟨e.steps,e.many,e.first,x.pers ++ [e.of]⟩,⟨by rw[<- hy]at vF;exact vF,by rw[<- hy]at DX;exact DX,by simp only;have:=hB.ar;omega,by simp only;have:=hB.ar;omega⟩,?_⟩;refine(Wk.s4 1 [55] 185 (sz:=1) (vs:=bg (cN x.pers) ++ [[.sl 55 2 0 e.of.length]]) (ds:=cN x.pers ++ [[.vs (cU e.of)]]) ?_ (iA (jm (aC (cH rfl (by simp[cU])) rfl)) _)).trans ((Wk.move 185 900001 rfl rfl).trans (Wk.sub ⟨rfl,rfl,rfl,rfl,rfl,rfl,rfl,rfl,rfl,trivial⟩ ⟨rfl,rfl,rfl,?_,rfl,?_,rfl,rfl,trivial⟩))
   ·rfl
   ·show some (Obj.box (Cells.vv [.d (i64 l.near),.d (bF l.an),.sl 900000 5 0 e.steps.length,.sl 900001 1 0 ((cN x.pers).length+1),.d (i64 e.many)]))=_
    simp[cN]
   ·show some (Obj.arr 1 (bx.dd (cN x.pers ++ [[.vs (cU e.of)]])))=_
    unfold cN cU;rw[List.map_append];rfl
 ·rintro x ⟨vF,hI,ja,vH⟩
  have vF:x=Ot:=vF;subst vF;conv=>whnf
  refine ag (fun h=>absurd h (by simp)) (fun _=>?_);conv=>whnf
  have hv:dP (fp [(25,.box (.vv [.d (i64 l.near),.d (bF l.an),.sl 900000 5 0 x.steps.length,.sl 900001 1 0 x.pers.length,.d (i64 x.many)])),(900000,.arr 5 (.dd (aH x.steps))),(900001,.arr 1 (.dd (cN x.pers)))] 2) (.ptr 25 0)=some (eO l x):=
   Cp rfl (ky (a:=[i64 l.near,bF l.an]) (aC (fq (es':=aH x.steps) rfl rfl (by simp[aH])) (aC (fq (es':=cN x.pers) rfl rfl (by simp[cN])) rfl)))
  refine oV ((Wk.Zw 2 [25,900000,900001]).trans (Wk.sub (e':=dS 0 [.d (eO l x)]) (h':=[(1000000,.arr 1 (.dd (dn conf)))]) ⟨congrArg some (NY hv),trivial⟩ ⟨rfl,trivial⟩)) rfl rfl ?_;exact aK [] [.d (eO l x)] [(1000000,.arr 1 (.dd (dn conf)))] rfl ⟨rfl,trivial⟩ rfl ⟨⟨rfl,rfl⟩,rfl⟩
theorem Ye(p:List Int)(hp:p.length<=1000):tH Tryz.prog 116 [.sl 1000000 1 0 p.length] [(1000000,.arr 1 (.dd (dn p)))] fun v h'=>v = .d (aV p)/\h' = [(1000000,.arr 1 (.dd (dn p)))]:=by
 intro σ Y s;refine ez mixed av Tryz.func116 rfl (ft:=IG) (args:=[.sl 1000000 1 0 p.length]) (show oQ IG Tryz.f116 1=true from by decide +kernel) ?_;conv=>whnf
 refine⟨fun b hb=>?_⟩
 cases b with
 | true=>
  have E2:p = []:=by
   cases p with
   | nil=>rfl
   | cons a r=>exact absurd (hb (by simp)) (by simp)
  subst E2;conv=>whnf
  refine gH ?_;exact aK [] [.d (.vs [])] [(1000000,.arr 1 (.dd (dn [])))] rfl ⟨rfl,trivial⟩ rfl ⟨⟨rfl,rfl⟩,rfl⟩
 | false=>
  have AW:(dn p).length=p.length:=by simp[dn]
  conv=>whnf
  refine ak (by simp[bx.len,dn]) ?_;conv=>whnf
  refine ak rfl ?_;conv=>whnf
  refine aM (by
   show(jb 1 (p.map fun n=>[i64 n])&&true)=true;rw[wZ (fun x=>⟨rfl,rfl⟩)];rfl) ?_
  conv=>whnf
  refine aM (decide_eq_true (by
   show(0+(dn p).length)*8<=140737488355328;omega)) ?_
  conv=>whnf
  refine oV ((Wk.Zw 1 [7]).trans (Wk.sub (e':=dS 0 [.d (aV p)]) (h':=[(1000000,.arr 1 (.dd (dn p)))]) ⟨congrArg some (DD (fq (es':=dn p) rfl rfl (by simp[bx.len,AW]))),trivial⟩ ⟨rfl,trivial⟩)) rfl rfl ?_;exact aK [] [.d (aV p)] [(1000000,.arr 1 (.dd (dn p)))] rfl ⟨rfl,trivial⟩ rfl ⟨⟨rfl,rfl⟩,rfl⟩
theorem Ng(x:List Int):UE (wX x).1 (wX x).2=true:=by
 have h:wC (.arr 1 (.dd (dn x)))=true:=by
  simp only[wC,bx.bJ];rw[eG];exact AH _
 show(sb (ba 1000000 64) [1000000]&&sb (ba 1000000 64) [1000000]&&(j5 [.sl 1000000 1 0 x.length]&&(wC (.arr 1 (.dd (dn x)))&&true)))=true;rw[h];rfl
theorem HY(l:aN):(ye l).length<=100:=by
 unfold ye;refine Nat.le_trans (List.length_filter_le _ _) ?_;simp
theorem Kp{of:List Int}{q:List Int}(h:q∈zG of):q.length<=of.length:=by
 unfold zG at h;obtain⟨n,hn,h⟩:=List.mem_flatMap.1 h;have:=Ko h;rw[List.mem_range'_1]at hn;omega
set_option maxHeartbeats 4000000 in
theorem abI(l:aN):bq Tryz.prog 48 [l.d] (.tup [aV (Iy l).1,i64 (Iy l).2]):=by
 unfold Iy;refine aY Tryz.func48 rfl (ft:=ZO) 1 fun {σ} Y st=>?_;conv=>whnf
 by_cases hc:bC l=0
 ·rw[if_pos hc]
  have hR:=fI hc;have xV:=hR.an;refine af (lI l 0 0 0 (km hc)) rfl rfl ?_;conv=>whnf
  refine rK (Yd l hR Y st) [] rfl rfl rfl rfl ?_;rintro v h1 s' ⟨⟨rfl,m1,m2,hC,rfl⟩,rfl⟩;refine⟨rfl,?_⟩;conv=>whnf
  generalize hS:ye l=S;refine cD (T:=tys) av (by exact aj mixed av (by decide +kernel)) (α:=Nat×List Int) (fun z=>⟨[(1,.ptr 1 0),(2,.ptr 2 0),(3,.ptr 3 0),(7,.d (.mv (eZ aD aD m1))),(9,.sl 38 1 0 z.2.length),(28,.d (i64 z.1))],[(1,.box (.dd l.cells)),(2,.box (.dd [.nils])),(3,.box (.dd [i64 0])),(38,.arr 1 (.dd (dn z.2)))],s'⟩) (fun z=>z.1<=100/\z.2.length<=z.1/\z.2++(((List.range' z.1 (100-z.1)).map fun(n:Nat)=>(n:Int)).filter fun n=>decide (1<Dg l n))=S) (fun z=>100-z.1) (0,[]) ?_ ⟨by simp,by simp,hS⟩ ?_
  ·exact(Wk.born 9 38 1 rfl rfl rfl).trans aw
  rintro ⟨n,acc⟩ ⟨hn,AV,dI⟩;simp only at hn AV dI;conv=>whnf
  refine ag (fun h1=>?_) (fun h1=>?_)
  ·have h1:n<100:=by have:=of_decide_eq_true h1;simp only at this;omega
   obtain⟨m,D5⟩:∃ m,100-n=m+1:=⟨99-n,by omega⟩;have Gx:100-(n+1)=m:=by omega
   rw[D5,List.range'_succ,List.map_cons,List.filter_cons]at dI;have gN:eW m1 n=(Dg l n:Nat):=hC.Y7 n;have ob:¬ 1<Dg l n->acc++((List.range' (n+1) m).map fun(n:Nat)=>(n:Int)).filter (fun n=>decide (1<Dg l n))=S:=fun h=>by rw[if_neg (by simpa using h)]at dI;exact dI
   conv=>whnf
   cases hg:bD m1 n with
   | none=>
    have h0:Dg l n=0:=by unfold eW at gN;rw[hg]at gN;simp only[Option.getD_none]at gN;omega
    refine⟨none,aQ (kd:=aD) aP hg 0,?_⟩;conv=>whnf
    refine ao (((n+1:Nat):Int)) (by(try dsimp only);omega) (wrap_i64 (by(try dsimp only);omega)) ?_;conv=>whnf
    exact⟨(n+1,acc),by simp only;omega,⟨by simp only;omega,by simp only;omega,by simp only;rw[Gx];exact ob (by omega)⟩,aw⟩
   | some v=>
    have h0:(Dg l n:Int)=v:=by unfold eW at gN;rw[hg]at gN;simp only[Option.getD_some]at gN;omega
    obtain⟨ix,_,qN,_⟩:=bf (kd:=aD) (vd:=aD) aP hg 0;refine⟨_,qN,?_⟩;conv=>whnf
    refine ag (fun h2=>?_) (fun h2=>?_)
    ·have h2:1<v:=of_decide_eq_true h2
     rw[if_pos (by simp;omega)]at dI;conv=>whnf
     refine ak rfl ?_;conv=>whnf
     refine ak (by simp[bx.len,dn]) ?_;conv=>whnf
     refine aM (decide_eq_true (by
      show((dn acc).length+1)*8<=140737488355328;simp[dn];omega)) ?_
     conv=>whnf
     refine ao (((n+1:Nat):Int)) (by(try dsimp only);omega) (wrap_i64 (by(try dsimp only);omega)) ?_;conv=>whnf
     refine⟨(n+1,acc ++ [(n:Int)]),by simp only;omega,⟨by simp only;omega,by simp only[List.length_append,List.length_singleton];omega,by simp only;rw[Gx,List.append_assoc];exact dI⟩,Wk.sub ⟨rfl,rfl,rfl,rfl,?_,rfl,trivial⟩ ⟨rfl,rfl,rfl,?_,trivial⟩⟩
     ·show some (V.sl 38 1 0 ((dn acc).length+1))=_
      simp[dn]
     ·show some (Obj.arr 1 (.dd (dn acc ++ [[i64 n]])))=_
      simp[dn]
    ·have h2:¬ 1<v:=of_decide_eq_false h2
     conv=>whnf
     refine ao (((n+1:Nat):Int)) (by(try dsimp only);omega) (wrap_i64 (by(try dsimp only);omega)) ?_;conv=>whnf
     exact⟨(n+1,acc),by simp only;omega,⟨by simp only;omega,by simp only;omega,by simp only;rw[Gx];exact ob (by omega)⟩,aw⟩
  ·have h1:¬ n<100:=by have:=of_decide_eq_false h1;simp only at this;omega
   rw[show 100-n=0 by omega]at dI;have dI:acc=S:=by simpa using dI
   subst dI;have hSl:acc.length<=100:=by rw[<- hS];exact HY l
   conv=>whnf
   refine gX (ds:=[aV acc]) (abW acc) 1 [38] (aC (cH rfl (by simp[dn])) rfl) rfl ?_;conv=>whnf
   refine kc.wk (st':=⟨[(1,.ptr 1 0),(2,.ptr 2 0),(3,.ptr 3 0),(41,.d (.clo 171 [.ref [aV acc]]))],[(1,.box (.dd l.cells)),(2,.box (.dd [.nils])),(3,.box (.dd [i64 0]))],s'⟩) aw ?_;refine gl av (by exact aj mixed av (by decide +kernel)) (by exact aj mixed av (by decide +kernel)) rfl 1500000 1600000 [1,2,3] (by exact Ld acc (by omega))
    (fun(_:Unit)=>([(1500000,.box (.dd l.cells)),(1500001,.box (.dd [.nils])),(1500002,.box (.dd [i64 0]))],s'))
    (fun rest _=>(∀ p∈rest,p.length<=100)/\(zG acc).find? (gV l 0)=rest.find? (gV l 0)) () rfl rfl rfl ⟨fun p hp=>by have:=Kp hp;omega,rfl⟩ ?_ ?_
   ·rintro p rest _ ⟨rS,he⟩ Q xD hQ
    refine⟨⟨rfl,Ng _⟩,?_⟩;have hp:=rS p (by simp);rw[List.find?_cons]at he;conv=>whnf
    refine bH (X8 l hR 0 (by omega) p (by omega)) [1600000] rfl ⟨_,_,rfl,rfl,rfl⟩ rfl ?_;conv=>whnf
    refine af (Dx) rfl rfl ?_;conv=>whnf
    obtain⟨m,hm⟩:=Ji l hR 0 (by omega) p;refine af (ds:=[eO l (bI l 0 p),cz.right.d]) hm rfl rfl ?_
    cases hf:gV l 0 p with
    | true=>
     rw[hf]at he;simp only at he;conv=>whnf
     refine bH (Ye p (by omega)) [1600000] rfl ⟨_,_,rfl,rfl,rfl⟩ rfl ?_;conv=>whnf
     refine⟨[(1500000,.box (.dd l.cells)),(1500001,.box (.dd [aV p])),(1500002,.box (.dd [i64 0]))],s',aw,rfl,hQ _ _ _ ?_⟩;rw[he];conv=>whnf
     exact ai
    | false=>
     rw[hf]at he;simp only at he;conv=>whnf
     exact⟨(),aw,rfl,xD () ⟨fun q hq=>rS q (by simp[hq]),he⟩⟩
   ·rintro _ ⟨_,he⟩
    rw[List.find?_nil]at he;rw[he];conv=>whnf
    refine gH ?_;exact ai
 ·rw[if_neg hc]
  refine af (lI l _ _ _ (kl l)) rfl rfl ?_;conv=>whnf
  generalize bC l=E at hc;refine ag (fun _=>?_) (fun h=>absurd hc (by simpa using h));conv=>whnf
  refine gH ?_;exact ai
end Go.PX
namespace Go.PX
open Go.Proofs
open Go.RowKit
deriving instance DecidableEq for aZ
deriving instance DecidableEq for au
deriving instance DecidableEq for aN
theorem abH(a b:List dt)(ha:a.length<1000000):bq Tryz.prog 55 [o5 a,o5 b] (.bool (decide (a=b))):=by
 refine aY Tryz.func55 rfl (ft:=ZU) 2 fun {σ} Y st=>?_;conv=>whnf
 refine ag (fun h0=>?_) (fun h0=>?_)
 ·have h0:a.length≠b.length:=by
   intro e;simp[e]at h0
  conv=>whnf
  rw[decide_eq_false (by rintro rfl;exact h0 rfl)];exact ai
 ·have h0:a.length=b.length:=by
   have:=h0;simp at this;omega
  conv=>whnf
  refine cD (T:=tys) av (by exact aj mixed av (by decide +kernel)) (α:=Nat) (fun i=>⟨[(0,.d (o5 a)),(1,.d (o5 b)),(5,.d (i64 i))],[],st⟩) (fun i=>i<=a.length/\a.take i=b.take i) (fun i=>a.length-i) 0
   aw (by simp) ?_
  rintro i ⟨hi,he⟩;conv=>whnf
  refine ag (fun hc=>?_) (fun hc=>?_)
  ·have hc:i<a.length:=by simpa using hc
   have rQ:i<b.length:=by omega
   conv=>whnf
   refine aU a[i].cells (by simp[hc]) ?_;conv=>whnf
   refine aU b[i].cells (by simp[rQ]) ?_;conv=>whnf
   refine ag (fun h1=>?_) (fun h1=>?_)
   ·conv=>whnf
    have h1:a[i]≠b[i]:=by
     intro e;rw[e]at h1;simp at h1
    rw[decide_eq_false (by rintro rfl;exact h1 rfl)];exact ai
   ·have h1:a[i]=b[i]:=by
     cases hx:a[i]with
     | mk x y=>
      cases hy:b[i]with
      | mk u v=>
       rw[hx,hy]at h1;simpa using h1
    refine ae ?_;conv=>whnf
    exact⟨i+1,by omega,⟨hc,by rw[List.take_succ_eq_append_getElem hc,List.take_succ_eq_append_getElem rQ,he,h1]⟩,Wk.sub ⟨rfl,rfl,rfl,trivial⟩ trivial⟩
  ·have hc:¬ i<a.length:=by simpa using hc
   conv=>whnf
   rw[List.take_of_length_le (by omega),List.take_of_length_le (by omega)]at he;rw[decide_eq_true he];exact ai
structure UJ(l:aN):Prop where
 an:l.an.length<1000000
 ar:∀ b∈l.an,b.ar.length<1000000
set_option maxHeartbeats 4000000 in
theorem abM(a b:aN)(ha:UJ a):bq Tryz.prog 56 [a.d,b.d] (.bool (decide (a=b))):=by
 refine aY Tryz.func56 rfl (ft:=ZV) 2 fun {σ} Y st=>?_;conv=>whnf
 have D5:=ha.an;refine ag (fun h0=>?_) (fun h0=>?_)
 ·have h0:a.near≠b.near:=by
   intro e;simp[e]at h0
  conv=>whnf
  rw[decide_eq_false (by rintro rfl;exact h0 rfl)];exact ai
 have C8:a.near=b.near:=by simpa using h0
 conv=>whnf
 refine ag (fun h0=>?_) (fun h0=>?_)
 ·have h0:a.an.length≠b.an.length:=by
   intro e;simp[e]at h0
  conv=>whnf
  rw[decide_eq_false (by rintro rfl;exact h0 rfl)];exact ai
 have s8:a.an.length=b.an.length:=by
  have:=h0;simp at this;omega
 conv=>whnf
 refine cD (T:=tys) av (by exact aj mixed av (by decide +kernel)) (α:=Nat) (fun i=>⟨[(2,.ptr 2 0),(3,.ptr 3 0),(5,.d (i64 i))],[(2,.box (.dd a.cells)),(3,.box (.dd b.cells))],st⟩) (fun i=>i<=a.an.length/\a.an.take i=b.an.take i) (fun i=>a.an.length-i) 0
  aw (by simp) ?_
 rintro i ⟨hi,he⟩;conv=>whnf
 refine ag (fun hc=>?_) (fun hc=>?_)
 ·have hc:i<a.an.length:=by simpa using hc
  have rQ:i<b.an.length:=by omega
  have rS:=ha.ar a.an[i] (List.getElem_mem hc);have er:a.an[i]≠b.an[i]->a≠b:=by rintro h rfl;exact h rfl
  have cI:a.an[i]=b.an[i]->a.an.take (i+1)=b.an.take (i+1):=fun h1=>by rw[List.take_succ_eq_append_getElem hc,List.take_succ_eq_append_getElem rQ,he,h1]
  generalize hx:a.an[i]=x at *;generalize hy:b.an[i]=y at *;conv=>whnf
  refine aU x.cells (by simp[hc,hx]) ?_;conv=>whnf
  refine aU y.cells (by simp[rQ,hy]) ?_;conv=>whnf
  refine ag (fun h1=>?_) (fun h1=>?_)
  ·have h1:x≠y:=by rintro rfl;simp at h1
   conv=>whnf
   rw[decide_eq_false (er h1)];exact ai
  have n1:x.name=y.name:=by simpa using h1
  conv=>whnf
  refine ag (fun h1=>?_) (fun h1=>?_)
  ·have h1:x≠y:=by rintro rfl;simp at h1
   conv=>whnf
   rw[decide_eq_false (er h1)];exact ai
  have n2:x.off=y.off:=by
   cases h4:x.off with
   | mk p q=>
    cases h5:y.off with
    | mk u v=>
     rw[h4,h5]at h1;simpa using h1
  conv=>whnf
  refine ag (fun h1=>?_) (fun h1=>?_)
  ·have h1:x≠y:=by rintro rfl;simp at h1
   conv=>whnf
   rw[decide_eq_false (er h1)];exact ai
  have n3:x.set=y.set:=by
   cases h4:x.set with
   | mk p q=>
    cases h5:y.set with
    | mk u v=>
     rw[h4,h5]at h1;simpa using h1
  conv=>whnf
  refine ag (fun h1=>?_) (fun h1=>?_)
  ·have h1:x≠y:=by rintro rfl;simp at h1
   conv=>whnf
   rw[decide_eq_false (er h1)];exact ai
  have Ln:x.ar.length=y.ar.length:=by
   have:=h1;simp at this;omega
  conv=>whnf
  refine cD (T:=tys) av (by exact aj mixed av (by decide +kernel)) (α:=Nat) (fun k=>⟨[(2,.ptr 2 0),(3,.ptr 3 0),(5,.d (i64 i)),(6,.ptr 6 0),(7,.ptr 7 0),(8,.d (i64 k))],[(2,.box (.dd a.cells)),(3,.box (.dd b.cells)),(6,.box (.dd x.cells)),(7,.box (.dd y.cells))],st⟩) (fun k=>k<=x.ar.length/\x.ar.take k=y.ar.take k) (fun k=>x.ar.length-k) 0
   aw (by simp) ?_
  rintro k ⟨hk,YX⟩;conv=>whnf
  refine ag (fun ou=>?_) (fun ou=>?_)
  ·have ou:k<x.ar.length:=by simpa using ou
   have hc3:k<y.ar.length:=by omega
   conv=>whnf
   refine aU x.ar[k].cells (by simp[ou]) ?_;conv=>whnf
   refine aU y.ar[k].cells (by simp[hc3]) ?_;conv=>whnf
   refine ag (fun h1=>?_) (fun h1=>?_)
   ·conv=>whnf
    have h1:x.ar[k]≠y.ar[k]:=by
     intro e;rw[e]at h1;simp at h1
    rw[decide_eq_false (er (by rintro rfl;exact h1 rfl))];exact ai
   ·have h1:x.ar[k]=y.ar[k]:=by
     cases hx:x.ar[k]with
     | mk p q r s=>
      cases hy:y.ar[k]with
      | mk u v w z=>
       rw[hx,hy]at h1;simpa using h1
    refine ae ?_;conv=>whnf
    exact⟨k+1,by omega,⟨ou,by rw[List.take_succ_eq_append_getElem ou,List.take_succ_eq_append_getElem hc3,YX,h1]⟩,aw⟩
  ·have ou:¬ k<x.ar.length:=by simpa using ou
   rw[List.take_of_length_le (by omega),List.take_of_length_le (by omega)]at YX;have hxe:x=y:=by
    cases x;cases y
    simp only at n1 n2 n3 YX;rw[n1,n2,n3,YX]
   conv=>whnf
   refine ae ?_;conv=>whnf
   exact⟨i+1,by omega,⟨hc,cI hxe⟩,aw⟩
 ·have hc:¬ i<a.an.length:=by simpa using hc
  rw[List.take_of_length_le (by omega),List.take_of_length_le (by omega)]at he;have DZ:a=b:=by
   cases a;cases b
   simp only at C8 he;rw[C8,he]
  conv=>whnf
  rw[decide_eq_true DZ];exact ai
def exA:List aZ:=[⟨100,1,⟨#[111,114,105,101,110,116]⟩,0⟩,⟨110,3,⟨#[115,117,110,107]⟩,1⟩,⟨130,2,⟨#[]⟩,0⟩,⟨125,1,⟨#[116,117,103]⟩,0⟩]
def exB:List aZ:=[⟨90,3,⟨#[115,117,110,107]⟩,1⟩,⟨95,1,⟨#[111,114,105,101,110,116]⟩,0⟩,⟨112,1,⟨#[116,117,103]⟩,0⟩]
def UZ(p q:Span):List au:=[⟨⟨#[98,114,105,100,103,101]⟩,p,⟨0,2⟩,exA⟩,⟨⟨#[100,101,99,107]⟩,q,⟨0,0⟩,exB⟩]
def mF:aN:=⟨5,UZ ⟨-10,10⟩ ⟨-20,20⟩⟩
def uP:aN:=⟨5,UZ ⟨0,10⟩ ⟨5,20⟩⟩
def Uk:ByteArray:=⟨#[110,101,97,114,32,53,10,98,111,111,107,32,98,114,105,100,103,101,32,45,49,48,32,49,48,32,48,32,50,10,112,97,115,115,32,49,48,48,32,111,114,105,101,110,116,10,114,101,112,111,114,116,32,49,49,48,32,115,117,110,107,32,49,10,115,101,116,32,49,51,48,10,112,97,115,115,32,49,50,53,32,116,117,103,10,98,111,111,107,32,100,101,99,107,32,45,50,48,32,50,48,32,48,32,48,10,114,101,112,111,114,116,32,57,48,32,115,117,110,107,32,49,10,112,97,115,115,32,57,53,32,111,114,105,101,110,116,10,112,97,115,115,32,49,49,50,32,116,117,103,10]⟩
theorem Qk:bq Tryz.prog 52 [] (.str Uk):=by
 refine aY Tryz.func52 rfl (ft:=ZR) 0 fun {σ} Y st=>?_;conv=>whnf
 exact ai
theorem Qg(a b:Int):bq Tryz.prog 44 [i64 a,i64 b] (dt.d ⟨a,b⟩):=by
 refine aY Tryz.func44 rfl (ft:=ZM) 2 fun {σ} Y st=>?_;conv=>whnf
 exact ai
theorem so(a b:Int):bq Tryz.prog 54 [i64 a,i64 b] (Span.d ⟨a,b⟩):=by
 refine aY Tryz.func54 rfl (ft:=ZT) 2 fun {σ} Y st=>?_;conv=>whnf
 exact ai
def exH:Heap:=[(2000000,.arr 6 (.dd (mF.an.map au.cells)))]
theorem X6:tH Tryz.prog 41 [] [] (fun v h'=>v = .agg [.d (i64 5),.sl 2000000 6 0 2]/\h'=exH):=by
 intro σ Y st;refine ez mixed av Tryz.func41 rfl (ft:=Sn) (args:=[]) (h:=[]) (show oQ Sn Tryz.f41 0=true from by decide +kernel) ?_;conv=>whnf
 repeat' (first
  | (refine af (so _ _) rfl rfl ?_;conv=>whnf)
  | (refine aA (so _ _) rfl 1 rfl ?_;conv=>whnf)
  | (refine ax (so _ _) rfl rfl ?_;conv=>whnf)
  | (refine a8 (so _ _) rfl 1 rfl ?_;conv=>whnf)
  | (refine ae ?_;conv=>whnf)
  | (refine aG (by assumption) ?_;conv=>whnf)
  | (refine ak (by first|rfl|assumption|(simp[bx.len];done)|(simp[bx.len];omega)) ?_;conv=>whnf)
  | (refine aM (by first|(exact decide_eq_true (by(try simp only[List.length_map]);omega))|(simp[bx.len,bx.cons,V.cells,bx.bJ,bg];done)|(simp[bx.len,bx.cons,V.cells,bx.bJ,bg];omega)) ?_;conv=>whnf)
  | fail)
 refine oV (l':=[.agg [.d (i64 5),.sl 15 6 0 2]]) (h':=[(15,.arr 6 (.dd (mF.an.map au.cells)))]) ((Wk.s4 1 [7,13] 15 (sz:=6) (ds:=mF.an.map au.cells) rfl rfl).trans aw) rfl rfl ?_;exact aK [15] [.agg [.d (i64 5),.sl 2000000 6 0 2]] exH rfl ⟨rfl,trivial⟩ rfl ⟨⟨rfl,rfl⟩,rfl⟩
theorem Qf:bq Tryz.prog 41 [] mF.d:=by
 refine aY Tryz.func41 rfl (ft:=Sn) 0 fun {σ} Y st=>?_;conv=>whnf
 repeat' (first
  | (refine af (so _ _) rfl rfl ?_;conv=>whnf)
  | (refine aA (so _ _) rfl 1 rfl ?_;conv=>whnf)
  | (refine ax (so _ _) rfl rfl ?_;conv=>whnf)
  | (refine a8 (so _ _) rfl 1 rfl ?_;conv=>whnf)
  | (refine ae ?_;conv=>whnf)
  | (refine aG (by assumption) ?_;conv=>whnf)
  | (refine ak (by first|rfl|assumption|(simp[bx.len];done)|(simp[bx.len];omega)) ?_;conv=>whnf)
  | (refine aM (by first|(exact decide_eq_true (by(try simp only[List.length_map]);omega))|(simp[bx.len,bx.cons,V.cells,bx.bJ,bg];done)|(simp[bx.len,bx.cons,V.cells,bx.bJ,bg];omega)) ?_;conv=>whnf)
  | fail)
 exact aO 2 rfl ⟨⟨rfl,rfl⟩,rfl⟩
theorem Qj:bq Tryz.prog 42 [] uP.d:=by
 refine aY Tryz.func42 rfl (ft:=ZK) 0 fun {σ} Y st=>?_;conv=>whnf
 refine bH X6 [] rfl rfl rfl ?_;conv=>whnf
 repeat' (first
  | (refine af (so _ _) rfl rfl ?_;conv=>whnf)
  | (refine aA (so _ _) rfl 1 rfl ?_;conv=>whnf)
  | (refine ax (so _ _) rfl rfl ?_;conv=>whnf)
  | (refine a8 (so _ _) rfl 1 rfl ?_;conv=>whnf)
  | (refine ae ?_;conv=>whnf)
  | (refine aG (by assumption) ?_;conv=>whnf)
  | (refine ak (by first|rfl|assumption|(simp[bx.len];done)|(simp[bx.len];omega)) ?_;conv=>whnf)
  | (refine aM (by first|(exact decide_eq_true (by(try simp only[List.length_map]);omega))|(simp[bx.len,bx.cons,V.cells,bx.bJ,bg];done)|(simp[bx.len,bx.cons,V.cells,bx.bJ,bg];omega)) ?_;conv=>whnf)
  | fail)
 exact aO 2 rfl ⟨⟨rfl,rfl⟩,rfl⟩
theorem x1:ED mF=(true,0):=by decide +kernel
theorem x2:ED uP=(false,0):=by decide +kernel
theorem x3:zR mF 0=([⟨5,10⟩,⟨0,2⟩],0):=by decide +kernel
theorem x4:qQ mF ⟨1,2⟩=(⟨122,127⟩,0):=by decide +kernel
theorem x5:oY mF ⟨0,3⟩ ⟨1,2⟩=(⟨-3,2⟩,0,0):=by decide +kernel
theorem x6:oY mF ⟨0,0⟩ ⟨1,1⟩=(⟨15,15⟩,1,0):=by decide +kernel
theorem x7:Jl mF ⟨0,3⟩=([⟨1,2⟩],0):=by decide +kernel
theorem x8:Fu uP=(8,0):=by decide +kernel
theorem x9:Iy uP=([1],0):=by decide +kernel
theorem x10:NX mF=([],[],0):=by decide +kernel
theorem x11:DS mF=(Uk,0):=by decide +kernel
theorem x12:xm Uk=(mF,0):=by decide +kernel
theorem x13:(zR uP 0).2=9:=by decide +kernel
theorem w1:bq Tryz.prog 40 [mF.d] (.tup [.bool true,i64 0]):=bq.cast (X3 mF) (by rw[x1])
theorem w2:bq Tryz.prog 40 [uP.d] (.tup [.bool false,i64 0]):=bq.cast (X3 uP) (by rw[x2])
theorem w3:bq Tryz.prog 43 [mF.d,i64 0] (.tup [dH [⟨5,10⟩,⟨0,2⟩],i64 0]):=bq.cast (TW mF 0) (by rw[x3])
theorem w4:bq Tryz.prog 12 [mF.d,dt.d ⟨1,2⟩] (.tup [Span.d ⟨122,127⟩,i64 0]):=bq.cast (Qe mF ⟨1,2⟩) (by rw[x4])
theorem w5:bq Tryz.prog 45 [mF.d,dt.d ⟨0,3⟩,dt.d ⟨1,2⟩] (.tup [Span.d ⟨-3,2⟩,i64 0,i64 0]):=bq.cast (X4 mF ⟨0,3⟩ ⟨1,2⟩) (by rw[x5])
theorem w6:bq Tryz.prog 45 [mF.d,dt.d ⟨0,0⟩,dt.d ⟨1,1⟩] (.tup [Span.d ⟨15,15⟩,i64 1,i64 0]):=bq.cast (X4 mF ⟨0,0⟩ ⟨1,1⟩) (by rw[x6])
theorem w7:bq Tryz.prog 46 [mF.d,dt.d ⟨0,3⟩] (.tup [o5 [⟨1,2⟩],i64 0]):=bq.cast (abG mF ⟨0,3⟩) (by rw[x7])
theorem w8:bq Tryz.prog 47 [uP.d] (.tup [i64 8,i64 0]):=bq.cast (X5 uP) (by rw[x8])
theorem w9:bq Tryz.prog 48 [uP.d] (.tup [aV [1],i64 0]):=bq.cast (abI uP) (by rw[x9])
theorem Ze:bq Tryz.prog 49 [mF.d] (.tup [aV [],aV [],i64 0]):=bq.cast (abJ mF) (by rw[x10])
theorem Zf:bq Tryz.prog 50 [mF.d] (.tup [.str Uk,i64 0]):=bq.cast (abK mF) (by rw[x11])
theorem Zg:bq Tryz.prog 51 [.str Uk] (.tup [mF.d,i64 0]):=bq.cast (abL Uk) (by rw[x12])
theorem Zh:bq Tryz.prog 43 [uP.d,i64 0] (.tup [dH (zR uP 0).1,i64 9]):=bq.cast (TW uP 0) (by rw[x13])
theorem Sh:UJ mF:=⟨by decide,by decide⟩
theorem Zi:bq Tryz.prog 56 [mF.d,mF.d] (.bool true):=bq.cast (abM mF mF Sh) (by simp)
theorem Zj:bq Tryz.prog 38 [aV [1],aV [1]] (.bool true):=bq.cast (OZ [1] [1] (by decide)) (by simp)
theorem Zk:bq Tryz.prog 53 [dH [⟨5,10⟩,⟨0,2⟩],dH [⟨5,10⟩,⟨0,2⟩]] (.bool true):=bq.cast (Si [⟨5,10⟩,⟨0,2⟩] [⟨5,10⟩,⟨0,2⟩] (by decide)) (by simp)
theorem Zl:bq Tryz.prog 55 [o5 [⟨1,2⟩],o5 [⟨1,2⟩]] (.bool true):=bq.cast (abH [⟨1,2⟩] [⟨1,2⟩] (by decide)) (by simp)
set_option maxHeartbeats 8000000 in
theorem KQ:bq Tryz.prog 8 [] (.bool true):=by
 refine aY Tryz.func8 rfl (ft:=ft8) 0 fun {σ} Y st=>?_;conv=>whnf
 repeat' (first
  | (refine af (w1) rfl rfl ?_;conv=>whnf)
  | (refine aA (w1) rfl 1 rfl ?_;conv=>whnf)
  | (refine ax (w1) rfl rfl ?_;conv=>whnf)
  | (refine a8 (w1) rfl 1 rfl ?_;conv=>whnf)
  | (refine af (Qf) rfl rfl ?_;conv=>whnf)
  | (refine aA (Qf) rfl 1 rfl ?_;conv=>whnf)
  | (refine ax (Qf) rfl rfl ?_;conv=>whnf)
  | (refine a8 (Qf) rfl 1 rfl ?_;conv=>whnf)
  | (refine af (Qj) rfl rfl ?_;conv=>whnf)
  | (refine aA (Qj) rfl 1 rfl ?_;conv=>whnf)
  | (refine ax (Qj) rfl rfl ?_;conv=>whnf)
  | (refine a8 (Qj) rfl 1 rfl ?_;conv=>whnf)
  | (refine af (Qk) rfl rfl ?_;conv=>whnf)
  | (refine aA (Qk) rfl 1 rfl ?_;conv=>whnf)
  | (refine ax (Qk) rfl rfl ?_;conv=>whnf)
  | (refine a8 (Qk) rfl 1 rfl ?_;conv=>whnf)
  | (refine af (Qg _ _) rfl rfl ?_;conv=>whnf)
  | (refine aA (Qg _ _) rfl 1 rfl ?_;conv=>whnf)
  | (refine ax (Qg _ _) rfl rfl ?_;conv=>whnf)
  | (refine a8 (Qg _ _) rfl 1 rfl ?_;conv=>whnf)
  | (refine af (so _ _) rfl rfl ?_;conv=>whnf)
  | (refine aA (so _ _) rfl 1 rfl ?_;conv=>whnf)
  | (refine ax (so _ _) rfl rfl ?_;conv=>whnf)
  | (refine a8 (so _ _) rfl 1 rfl ?_;conv=>whnf)
  | (refine af (w2) rfl rfl ?_;conv=>whnf)
  | (refine aA (w2) rfl 1 rfl ?_;conv=>whnf)
  | (refine ax (w2) rfl rfl ?_;conv=>whnf)
  | (refine a8 (w2) rfl 1 rfl ?_;conv=>whnf)
  | (refine af (w3) rfl rfl ?_;conv=>whnf)
  | (refine aA (w3) rfl 1 rfl ?_;conv=>whnf)
  | (refine ax (w3) rfl rfl ?_;conv=>whnf)
  | (refine a8 (w3) rfl 1 rfl ?_;conv=>whnf)
  | (refine af (w4) rfl rfl ?_;conv=>whnf)
  | (refine aA (w4) rfl 1 rfl ?_;conv=>whnf)
  | (refine ax (w4) rfl rfl ?_;conv=>whnf)
  | (refine a8 (w4) rfl 1 rfl ?_;conv=>whnf)
  | (refine af (w5) rfl rfl ?_;conv=>whnf)
  | (refine aA (w5) rfl 1 rfl ?_;conv=>whnf)
  | (refine ax (w5) rfl rfl ?_;conv=>whnf)
  | (refine a8 (w5) rfl 1 rfl ?_;conv=>whnf)
  | (refine af (w6) rfl rfl ?_;conv=>whnf)
  | (refine aA (w6) rfl 1 rfl ?_;conv=>whnf)
  | (refine ax (w6) rfl rfl ?_;conv=>whnf)
  | (refine a8 (w6) rfl 1 rfl ?_;conv=>whnf)
  | (refine af (w7) rfl rfl ?_;conv=>whnf)
  | (refine aA (w7) rfl 1 rfl ?_;conv=>whnf)
  | (refine ax (w7) rfl rfl ?_;conv=>whnf)
  | (refine a8 (w7) rfl 1 rfl ?_;conv=>whnf)
  | (refine af (w8) rfl rfl ?_;conv=>whnf)
  | (refine aA (w8) rfl 1 rfl ?_;conv=>whnf)
  | (refine ax (w8) rfl rfl ?_;conv=>whnf)
  | (refine a8 (w8) rfl 1 rfl ?_;conv=>whnf)
  | (refine af (w9) rfl rfl ?_;conv=>whnf)
  | (refine aA (w9) rfl 1 rfl ?_;conv=>whnf)
  | (refine ax (w9) rfl rfl ?_;conv=>whnf)
  | (refine a8 (w9) rfl 1 rfl ?_;conv=>whnf)
  | (refine af (Ze) rfl rfl ?_;conv=>whnf)
  | (refine aA (Ze) rfl 1 rfl ?_;conv=>whnf)
  | (refine ax (Ze) rfl rfl ?_;conv=>whnf)
  | (refine a8 (Ze) rfl 1 rfl ?_;conv=>whnf)
  | (refine af (Zf) rfl rfl ?_;conv=>whnf)
  | (refine aA (Zf) rfl 1 rfl ?_;conv=>whnf)
  | (refine ax (Zf) rfl rfl ?_;conv=>whnf)
  | (refine a8 (Zf) rfl 1 rfl ?_;conv=>whnf)
  | (refine af (Zg) rfl rfl ?_;conv=>whnf)
  | (refine aA (Zg) rfl 1 rfl ?_;conv=>whnf)
  | (refine ax (Zg) rfl rfl ?_;conv=>whnf)
  | (refine a8 (Zg) rfl 1 rfl ?_;conv=>whnf)
  | (refine af (Zh) rfl rfl ?_;conv=>whnf)
  | (refine aA (Zh) rfl 1 rfl ?_;conv=>whnf)
  | (refine ax (Zh) rfl rfl ?_;conv=>whnf)
  | (refine a8 (Zh) rfl 1 rfl ?_;conv=>whnf)
  | (refine af (Zj) rfl rfl ?_;conv=>whnf)
  | (refine aA (Zj) rfl 1 rfl ?_;conv=>whnf)
  | (refine ax (Zj) rfl rfl ?_;conv=>whnf)
  | (refine a8 (Zj) rfl 1 rfl ?_;conv=>whnf)
  | (refine af (Zk) rfl rfl ?_;conv=>whnf)
  | (refine aA (Zk) rfl 1 rfl ?_;conv=>whnf)
  | (refine ax (Zk) rfl rfl ?_;conv=>whnf)
  | (refine a8 (Zk) rfl 1 rfl ?_;conv=>whnf)
  | (refine af (Zl) rfl rfl ?_;conv=>whnf)
  | (refine aA (Zl) rfl 1 rfl ?_;conv=>whnf)
  | (refine ax (Zl) rfl rfl ?_;conv=>whnf)
  | (refine a8 (Zl) rfl 1 rfl ?_;conv=>whnf)
  | (refine af (Zi) rfl rfl ?_;conv=>whnf)
  | (refine aA (Zi) rfl 1 rfl ?_;conv=>whnf)
  | (refine ax (Zi) rfl rfl ?_;conv=>whnf)
  | (refine a8 (Zi) rfl 1 rfl ?_;conv=>whnf)
  | (refine ae ?_;conv=>whnf)
  | (refine aG (by assumption) ?_;conv=>whnf)
  | (refine ak (by first|rfl|assumption|(simp[bx.len];done)|(simp[bx.len];omega)) ?_;conv=>whnf)
  | (refine aM (by first|(exact decide_eq_true (by(try simp only[List.length_map]);omega))|(simp[bx.len,bx.cons,V.cells,bx.bJ,bg];done)|(simp[bx.len,bx.cons,V.cells,bx.bJ,bg];omega)) ?_;conv=>whnf)
  | fail)
 exact ai
theorem y1:zR mF 1=([⟨-15,-10⟩],0):=by decide +kernel
theorem y2:qQ mF ⟨0,0⟩=(⟨90,95⟩,0):=by decide +kernel
theorem y3:qQ mF ⟨0,3⟩=(⟨123,125⟩,0):=by decide +kernel
theorem y6:Fu mF=(0,0):=by decide +kernel
theorem z1:bq Tryz.prog 43 [mF.d,i64 1] (.tup [dH [⟨-15,-10⟩],i64 0]):=bq.cast (TW mF 1) (by rw[y1])
theorem z2:bq Tryz.prog 12 [mF.d,dt.d ⟨0,0⟩] (.tup [Span.d ⟨90,95⟩,i64 0]):=bq.cast (Qe mF ⟨0,0⟩) (by rw[y2])
theorem z3:bq Tryz.prog 12 [mF.d,dt.d ⟨0,3⟩] (.tup [Span.d ⟨123,125⟩,i64 0]):=bq.cast (Qe mF ⟨0,3⟩) (by rw[y3])
theorem z6:bq Tryz.prog 47 [mF.d] (.tup [i64 0,i64 0]):=bq.cast (X5 mF) (by rw[y6])
end Go.PX
