import Derived.Test.YtmbefpmbnhdbpaaGreatDoorPxR
import Derived.Test.YtmbefpmbnhdbpaaGreatDoorPxM
set_option linter.all false
set_option maxRecDepth 10000
namespace Go.PX
open Go.Proofs
theorem Bq{l:aN}{wider:Int}{conf:List Int}{i:Nat}{b:au}{s:rL}(hb:l.an[i]?=some b)(h:AN l wider conf i s):Cy l wider conf i 0 b s.pers ⟨s.steps++ek wider ⟨i,0⟩ b.off,s.many+1,s.first,⟨i,0⟩,[],[]⟩:=by
 refine⟨rfl,rfl,fun num=>⟨Int.le_refl 0,fun h=>absurd h (by show ¬ ((1:Int)<=0);decide),fun⟨m,hm,_⟩=>absurd hm (Nat.not_lt_zero m)⟩,fun num r hr=>?_,fun j m c y num hy hf hc ha=>?_,fun e he=>?_,fun j c hc hj e he=>?_,fun j c n hc hn Lh e he=>?_,fun j m c x z hx hz ha=>?_⟩
 ·obtain⟨j,m,c,x,h1,h2,h3,h4,h5⟩:=h.fst num r hr
  exact⟨j,m,c,x,h1,h2,h3,h4,.inl h5⟩
 ·rcases ha with ha|⟨_,ha⟩
  ·obtain⟨r,h1,h2⟩:=h.Ou j m c y num hy hf hc ha
   exact⟨r,h1,h2.imp id (xz.mono fun e he=>List.mem_append_left _ he)⟩
  ·exact absurd ha (Nat.not_lt_zero m)
 ·rcases List.mem_append.1 he with he|he
  ·exact h.sub e he
  ·exact .off i b hb e he
 ·rcases Nat.lt_or_ge j i with dh|AY
  ·exact List.mem_append_left _ (h.off j c hc dh e he)
  ·have:j=i:=by omega
   subst this;have la:c=b:=Option.some.inj (hc.symm.trans hb);subst la;exact List.mem_append_right _ he
 ·rcases Lh with⟨hj,A1⟩|⟨_,A1⟩
  ·exact List.mem_append_left _ (h.set j c n hc hn hj A1 e he)
  ·rw[Ab]at A1;omega
 ·rcases ha with ha|⟨_,ha⟩
  ·exact List.mem_append_left _ (h.ord j m c x z hx hz ha)
  ·omega
def cU(l:List cz):List (List D):=l.map cz.cells
set_option maxHeartbeats 4000000 in
theorem X7(l:aN)(hR:qh l)(wider:Int)(hw:0<=wider/\wider<=1048576)(conf:List Int)(hc:conf.length<1000000):bq Tryz.prog 107 [l.d,i64 wider,aV conf] (eO l (bI l wider conf)):=by
 refine aY Tryz.func107 rfl (ft:=Mq) 3 fun {σ} Y st=>?_;conv=>whnf
 have xV:=hR.an;unfold bI;generalize hRES:mV l wider conf 0 l.an ⟨[],0,[],[]⟩=Ot;have Ov:AN l wider conf 0 ⟨[],0,[],[]⟩:=⟨⟨rfl,fun j c _ hj=>absurd hj (Nat.not_lt_zero j)⟩,fun num r hr=>(by cases hr),fun j m c y num _ _ _ hj=>absurd hj (Nat.not_lt_zero j),fun e he=>(by cases he),fun j c _ hj=>absurd hj (Nat.not_lt_zero j),fun j c n _ _ hj=>absurd hj (Nat.not_lt_zero j),fun j m c x z _ _ hj=>absurd hj (Nat.not_lt_zero j)⟩;refine bB (T:=tys) av (by exact aj mixed av (by decide +kernel)) l.an (fun i (x:rL)=>⟨[(2,.d (aV conf)),(3,.ptr 3 0),(4,.ptr 4 0),(7,.ptr 7 0),(8,.mp 26),(9,.clo 168 [.ptr 7 0,.ptr 4 0]),(29,.d (bF l.an)),(30,.d (i64 l.an.length)),(31,.d (i64 i))],[(3,.box (.dd l.cells)),(4,.box (.dd [i64 wider])),(7,.box (.vv [.ptr 25 0])),(25,.box (.vv [.d (i64 l.near),.d (bF l.an),.sl 900000 5 0 x.steps.length,.sl 900001 1 0 x.pers.length,.d (i64 x.many)])),(900000,.arr 5 (.dd (aH x.steps))),(900001,.arr 1 (.dd (cN x.pers))),(26,.map (eZ aD dt.d x.first))],st⟩)
  (fun i r x=>mV l wider conf i r x=Ot/\AN l wider conf i x/\x.steps.length<=26*i/\(0<=x.many/\x.many<=9*i)) ⟨[],0,[],[]⟩ ?wk ⟨hRES,Ov,by simp,by simp⟩ ?_ ?_
 case wk=>
  refine(Wk.tT 25 900000 5 [i64 l.near,bF l.an] [.nils,i64 0] rfl rfl rfl rfl rfl).trans ((Wk.LR 25 900001 1 [.d (i64 l.near),.d (bF l.an),.sl 900000 5 0 0] [.d (i64 0)] rfl rfl rfl rfl).trans aw)
 ·rintro i b r x hx hi D7 ⟨vF,hI,ja,vH⟩
  rw[mV]at vF;have hB:=hR.book b (List.mem_of_getElem? hx);have DX:=yB hx hI;generalize hy:qp l wider conf i b x=y at vF DX;unfold qp at hy;conv=>whnf
  refine ag (fun _=>?_) (fun h=>absurd hi (by simpa using h));conv=>whnf
  refine aG hx ?_;conv=>whnf
  refine bH (B3 l wider hw x.steps (by omega) x.pers x.many (by omega) ⟨i,0⟩ b.off hB.off) [7,4,25,900000,900001] rfl ?lent rfl ?_;case lent=>exact⟨_,_,rfl,bS rfl ⟨⟨rfl,rfl⟩,trivial⟩,_,_,rfl,rfl,_,_,rfl,bS rfl ⟨rfl,rfl,⟨rfl,rfl,rfl,rfl⟩,⟨rfl,rfl,rfl,rfl⟩,rfl,trivial⟩,_,_,rfl,rfl,_,_,rfl,rfl,rfl⟩
  conv=>whnf
  have hE0:=Bq hx hI;generalize hER:mD l wider conf i b x.pers 0 b.ar ⟨x.steps++ek wider ⟨i,0⟩ b.off,x.many+1,x.first,⟨i,0⟩,[],[]⟩=ER at hy;simp only at hy;refine bB (T:=tys) av (by exact aj mixed av (by decide +kernel)) b.ar (fun k (e:Eb)=>⟨[(2,.d (aV conf)),(3,.ptr 3 0),(4,.ptr 4 0),(7,.ptr 7 0),(8,.mp 26),(9,.clo 168 [.ptr 7 0,.ptr 4 0]),(29,.d (bF l.an)),(30,.d (i64 l.an.length)),(31,.d (i64 i)),(10,.d (i64 i)),(11,.ptr 11 0),(12,.ptr 12 0),(13,.sl 55 2 0 e.of.length),(14,.mp 43),(45,.d (lF b.ar)),(46,.d (i64 b.ar.length)),(47,.d (i64 k))],[(3,.box (.dd l.cells)),(4,.box (.dd [i64 wider])),(7,.box (.vv [.ptr 25 0])),(25,.box (.vv [.d (i64 l.near),.d (bF l.an),.sl 900000 5 0 e.steps.length,.sl 900001 1 0 x.pers.length,.d (i64 e.many)])),(900000,.arr 5 (.dd (aH e.steps))),(900001,.arr 1 (.dd (cN x.pers))),(26,.map (eZ aD dt.d e.first)),(11,.box (.dd b.cells)),(12,.box (.dd e.now.cells)),(43,.map (eZ aD aD e.mine)),(55,.arr 2 (.dd (cU e.of)))],st⟩)
   (fun k r e=>Cy l wider conf i k b x.pers e/\mD l wider conf i b x.pers k r e=ER/\e.steps.length<=26*i+2+3*k/\(0<=e.many/\e.many<=9*i+1+k) /\ ∀ num,(bD e.mine num).getD 0<=k) ⟨x.steps++ek wider ⟨i,0⟩ b.off,x.many+1,x.first,⟨i,0⟩,[],[]⟩ ?wk2 ⟨hE0,hER,by simp[ek];omega,by simp only;omega,fun num=>by show(0:Int)<=_;omega⟩ ?_ ?_
  case wk2=>
   refine(Wk.born 13 55 2 rfl rfl rfl).trans ((Wk.move 102688 900000 rfl rfl).trans aw)
  ·rintro k y r e Kh hk hr3 ⟨hE,fP,zj,hem,C6⟩
   rw[mD]at fP;have nU:=CS hI.pers.2 hx Kh hE;generalize cI:xC l wider conf i b x.pers k y e=e2 at fP nU;unfold xC at cI;simp only at cI;have hK2:=Oa hx Kh hE;generalize hST:(if k=0 then e.steps else e.steps ++ [(⟨((e.of ++ [e.now])[k-1]?).getD .right,e.now,y.shown-((b.ar[k-1]?).getD ⟨0,0,.empty,0⟩).shown⟩:cv)])=ST at cI hK2;conv=>whnf
   refine ag (fun _=>?_) (fun h=>absurd hk (by simpa using h));conv=>whnf
   refine aG Kh ?_;conv=>whnf
   refine ak rfl ?_;conv=>whnf
   have MX:e.of.length=k:=by rw[hE.of];simp
   have hk8:k<8:=by have:=hB.ar;omega
   have hy0:=hB.fV y (List.mem_of_getElem? Kh);refine ak (by simp[bx.len,cU]) ?_;conv=>whnf
   refine aM (decide_eq_true (by
    show((cU e.of).length+1)*16<=140737488355328;have:=hB.ar;simp[cU];omega)) ?_
   conv=>whnf
   refine ag (fun h1=>?_) (fun h1=>?_)
   ·have h1:0<k:=by have:=of_decide_eq_true h1;omega
    conv=>whnf
    refine ao ((k-1:Nat):Int) (by omega) (wrap_i64 (by omega)) ?_;conv=>whnf
    obtain⟨z,hz⟩:∃ z,b.ar[k-1]?=some z:=⟨_,List.getElem?_eq_getElem (by omega)⟩;have TA:=hB.fV z (List.mem_of_getElem? hz);have MW:(e.of ++ [e.now])[k-1]?=some ⟨i,bE b (k-1)⟩:=by
     rw[List.getElem?_append_left (by omega),hE.of,List.getElem?_map,List.getElem?_range (by omega)];rfl
    refine ag (fun _=>?_) (fun h=>absurd h (by
     show ¬ ((decide (0<=((k-1:Nat):Int))&&decide (((k-1:Nat):Int)<(((cU e.of).length+1:Nat):Int)))=false);simp[cU,MX];omega))
    conv=>whnf
    refine cJ (cz.cells ⟨i,bE b (k-1)⟩) (by
     show(cU e.of ++ [e.now.cells])[0+((k-1:Nat):Int).toNat]?=_;have:cU e.of ++ [e.now.cells]=cU (e.of ++ [e.now]):=by simp[cU]
     rw[this,Int.toNat_natCast,Nat.zero_add];unfold cU;rw[List.getElem?_map,MW];rfl) ?_
    conv=>whnf
    refine ao ((k-1:Nat):Int) (by omega) (wrap_i64 (by omega)) ?_;conv=>whnf
    refine aU z.cells ⟨by omega,by rw[Int.toNat_natCast,List.getElem?_map,hz];rfl⟩ ?_;conv=>whnf
    refine ae ?_;conv=>whnf
    refine ak rfl ?_;conv=>whnf
    refine ak (by simp[bx.len,aH]) ?_;conv=>whnf
    refine aM (decide_eq_true (by
     show((aH e.steps).length+1)*40<=140737488355328;simp[aH];omega)) ?_
    conv=>whnf
    rw[if_neg (by omega),MW,hz]at hST;simp only[Option.getD_some]at hST;refine eg.OF ?_;refine af (Bc y) rfl rfl ?_;refine⟨⟨[(2,.d (aV conf)),(3,.ptr 3 0),(4,.ptr 4 0),(7,.ptr 7 0),(8,.mp 26),(9,.clo 168 [.ptr 7 0,.ptr 4 0]),(29,.d (bF l.an)),(30,.d (i64 l.an.length)),(31,.d (i64 i)),(10,.d (i64 i)),(11,.ptr 11 0),(12,.ptr 12 0),(13,.sl 55 2 0 (e.of ++ [e.now]).length),(14,.mp 43),(15,.d (i64 k)),(16,.ptr 16 0),(45,.d (lF b.ar)),(46,.d (i64 b.ar.length)),(47,.d (i64 k)),(85,.d (bQ y))],[(3,.box (.dd l.cells)),(4,.box (.dd [i64 wider])),(7,.box (.vv [.ptr 25 0])),(25,.box (.vv [.d (i64 l.near),.d (bF l.an),.sl 900000 5 0 ST.length,.sl 900001 1 0 x.pers.length,.d (i64 e.many)])),(900000,.arr 5 (.dd (aH ST))),(900001,.arr 1 (.dd (cN x.pers))),(26,.map (eZ aD dt.d e.first)),(11,.box (.dd b.cells)),(12,.box (.dd e.now.cells)),(16,.box (.dd y.cells)),(43,.map (eZ aD aD e.mine)),(55,.arr 2 (.dd (cU (e.of ++ [e.now]))))],st⟩,(Wk.move 81 900000 rfl rfl).trans (Wk.sub ⟨rfl,rfl,rfl,rfl,rfl,rfl,rfl,rfl,rfl,rfl,rfl,rfl,?_,rfl,rfl,rfl,rfl,rfl,rfl,rfl,trivial⟩ ⟨rfl,rfl,rfl,?_,?_,rfl,rfl,rfl,rfl,rfl,rfl,?_,trivial⟩),?_⟩
    ·show some (V.sl 55 2 0 ((cU e.of).length+1))=_
     simp[cU]
    ·show some (Obj.box (Cells.vv [.d (i64 l.near),.d (bF l.an),.sl 900000 5 0 ((aH e.steps).length+1),.sl 900001 1 0 x.pers.length,.d (i64 e.many)]))=_
     rw[<- hST];simp[aH]
    ·rw[<- hST]
     show some (Obj.arr 5 (bx.dd (aH e.steps ++ [[i64 i,i64 (bE b (k-1):Nat),i64 e.now.book,i64 e.now.n,i64 (y.shown-z.shown)]])))=_;unfold aH;rw[List.map_append];rfl
    ·show some (Obj.arr 2 (bx.dd (cU e.of ++ [e.now.cells])))=_
     simp[cU]
    have Tu:ST.length<=e.steps.length+1:=by rw[<- hST];simp
    by_cases h2:y.kind=2
    ·rw[if_pos h2]at cI
     have ht:bQ y = .ifc 288 (.agg []):=by unfold bQ;rw[if_neg (by omega),if_pos h2]
     rw[ht];have W2:=nb b k;have Uw:=oL b;have IS:=hB.ar;have J4:e.now.n=(bE b k:Nat):=by rw[hE.now]
     conv=>whnf
     refine ae ?_;conv=>whnf
     refine bH (B3 l wider hw ST (by omega) x.pers e.many (by omega) ⟨e.now.book,e.now.n+1⟩ b.set hB.set) [7,4,25,900000,900001] rfl ?lent rfl ?_;case lent=>exact⟨_,_,rfl,bS rfl ⟨⟨rfl,rfl⟩,trivial⟩,_,_,rfl,rfl,_,_,rfl,bS rfl ⟨rfl,rfl,⟨rfl,rfl,rfl,rfl⟩,⟨rfl,rfl,rfl,rfl⟩,rfl,trivial⟩,_,_,rfl,rfl,_,_,rfl,rfl,rfl⟩
     conv=>whnf
     refine ae ?_;conv=>whnf
     subst cI;refine⟨_,⟨nU,fP,?_,?_,fun num=>by have:=C6 num;simp only;omega⟩,?_⟩
     ·simp[ek];omega
     ·simp only;omega
     ·exact(Wk.move 106208 900000 rfl rfl).trans aw
    ·rw[if_neg h2]at cI
     by_cases h3:y.kind=3
     ·rw[if_pos h3]at cI
      have ht:bQ y = .ifc 228 (.agg [.str y.word,i64 y.number]):=by unfold bQ;rw[if_neg (by omega),if_neg h2,if_pos h3]
      rw[ht];have vH:=C6 y.number;have MR:=(hE.mine y.number).1;generalize hN:(bD e.mine y.number).getD 0=N at cI vH MR;have ic:∀ num,(bD (cW e.mine y.number (N+1)) num).getD 0<=((k+1:Nat):Int):=fun num=>by
       rw[dL];split
       ·simp only[Option.getD_some];omega
       ·have:=C6 num;omega
      conv=>whnf
      cases uw:bD e.mine y.number with
      | none=>
       have GU:N=0:=by rw[<- hN,uw];rfl
       have A4:=cG (kd:=aD) (vd:=aD) (N+1) uw;refine⟨none,aQ (kd:=aD) aP uw 0,?_⟩;conv=>whnf
       refine ao (N+1) (by omega) (wrap_i64 (by omega)) ?_;conv=>whnf
       refine⟨none,aQ (kd:=aD) aP uw 0,?_⟩;conv=>whnf
       have mL:eZ aD aD e.mine ++ [(i64 y.number,i64 (N+1))]=eZ aD aD (cW e.mine y.number (N+1)):=A4;rw[mL];obtain⟨iz,_,zn,_⟩:=bf (kd:=aD) (vd:=aD) aP (show bD (cW e.mine y.number (N+1)) y.number=some (N+1) by rw[dL,if_pos rfl]) 0;refine⟨_,zn,?_⟩;conv=>whnf
       refine ag (fun h5=>?_) (fun h5=>?_)
       ·have h5:1<N+1:=of_decide_eq_true h5
        rw[if_pos (.inl (by omega))]at cI;conv=>whnf
        refine ae ?_;conv=>whnf
        subst cI;exact⟨_,⟨nU,fP,by simp only;omega,by simp only;omega,ic⟩,aw⟩
       ·have h5:¬ 1<N+1:=of_decide_eq_false h5
        conv=>whnf
        refine af (EF conf y.number (by omega)) rfl rfl ?_;conv=>whnf
        refine ag (fun h6=>?_) (fun h6=>?_)
        ·have h6:y.number∈conf:=of_decide_eq_true h6
         rw[if_pos (.inr h6)]at cI;conv=>whnf
         refine ae ?_;conv=>whnf
         subst cI;exact⟨_,⟨nU,fP,by simp only;omega,by simp only;omega,ic⟩,aw⟩
        ·have h6:¬ y.number∈conf:=of_decide_eq_false h6
         rw[if_neg (fun h=>h.elim (fun h=>h5 (by omega)) h6)]at cI;conv=>whnf
         cases jh:bD e.first y.number with
         | none=>
          rw[jh]at cI;simp only at cI;have G7:=cG (kd:=aD) (vd:=dt.d) (⟨i,k⟩:dt) jh;refine⟨none,aQ (kd:=aD) aP jh 0,?_⟩;conv=>whnf
          refine⟨none,aQ (kd:=aD) aP jh 0,?_⟩;conv=>whnf
          have s9:eZ aD dt.d e.first ++ [(i64 y.number,dt.d ⟨i,k⟩)]=eZ aD dt.d (cW e.first y.number ⟨i,k⟩):=G7
          refine ae ?_;conv=>whnf
          subst cI;refine⟨_,⟨nU,fP,by simp only;omega,by simp only;omega,ic⟩,?_⟩;simp only;rw[<- s9];exact aw
         | some r0=>
          rw[jh]at cI;simp only at cI;obtain⟨j0,m0,c0,x0,E3,eY,AJ,-,mJ⟩:=hE.fst _ _ jh;obtain⟨iy,_,rU,_⟩:=bf (kd:=aD) (vd:=dt.d) aP jh 0;refine⟨_,rU,?_⟩;conv=>whnf
          subst E3;have s8:=(List.getElem?_eq_some_iff.1 eY.fV).1;have C5:=(List.getElem?_eq_some_iff.1 eY.book).1;refine aU c0.cells ⟨by show(0:Int)<=((j0:Nat):Int);omega,by show(l.an.map au.cells)[((j0:Nat):Int).toNat]?=_;rw[Int.toNat_natCast,List.getElem?_map,eY.book];rfl⟩ ?_;conv=>whnf
          refine aU x0.cells ⟨by show(0:Int)<=((m0:Nat):Int);omega,by show(c0.ar.map aZ.cells)[((m0:Nat):Int).toNat]?=_;rw[Int.toNat_natCast,List.getElem?_map,eY.fV];rfl⟩ ?_;conv=>whnf
          have Df:=(hR.book c0 (List.mem_of_getElem? eY.book)).fV x0 (List.mem_of_getElem? eY.fV);have D4:j0<i:=by
           rcases mJ with mJ|⟨EZ,mJ⟩
           ·exact mJ
           ·have kC:=eY.book
            rw[EZ]at kC;have la:c0=b:=Option.some.inj (kC.symm.trans hx);have h7:=(hE.mine y.number).2.2 ⟨m0,mJ,la▸AJ⟩;rw[hN]at h7;omega
          have xI:=hI.pers.2 j0 c0 eY.book D4;refine ao (y.shown-x0.shown) rfl (wrap_i64 (by omega)) ?_;conv=>whnf
          refine ag (fun _=>?_) (fun h=>absurd h (by
           show ¬ ((decide (0<=((j0:Nat):Int))&&decide (((j0:Nat):Int)<((x.pers.length:Nat):Int)))=false);have:=hI.pers.1;simp;omega))
          conv=>whnf
          refine cJ [.vs ((fe j0 c0).map cz.cells)] (by
           show(cN x.pers)[0+((j0:Nat):Int).toNat]?=_;unfold cN;rw[Int.toNat_natCast,Nat.zero_add,List.getElem?_map,xI];rfl) ?_
          conv=>whnf
          refine aU (cz.cells ⟨j0,(bE c0 m0:Nat)⟩) ⟨by show(0:Int)<=((m0:Nat):Int);omega,by show((fe j0 c0).map cz.cells)[((m0:Nat):Int).toNat]?=_;rw[Int.toNat_natCast,List.getElem?_map,fT s8];rfl⟩ ?_;conv=>whnf
          refine ao (-(y.shown-x0.shown)) (by omega) (wrap_i64 (by omega)) ?_;conv=>whnf
          refine ak rfl ?_;conv=>whnf
          refine ak (by simp[bx.len,aH]) ?_;conv=>whnf
          refine aM (decide_eq_true (by
           show((aH ST).length+2)*40<=140737488355328;simp[aH];omega)) ?_
          conv=>whnf
          refine ae ?_;conv=>whnf
          rw[iv eY xI,eJ eY]at cI;subst cI;refine⟨_,⟨nU,fP,by simp only[List.length_append,List.length_cons,List.length_nil];omega,by simp only;omega,ic⟩,?_⟩;have He:∀ p q:cv,aH (ST ++ [p,q])=aH ST++aH [p,q]:=fun p q=>by unfold aH;rw[List.map_append]
          simp only[He];refine(Wk.move 174 900000 rfl rfl).trans (Wk.sub ⟨rfl,rfl,rfl,rfl,rfl,rfl,rfl,rfl,rfl,rfl,rfl,rfl,rfl,rfl,rfl,rfl,rfl,trivial⟩ ⟨rfl,rfl,rfl,?_,rfl,rfl,rfl,rfl,rfl,rfl,rfl,trivial⟩);show some (Obj.box (Cells.vv [.d (i64 l.near),.d (bF l.an),.sl 900000 5 0 ((aH ST).length+2),.sl 900001 1 0 x.pers.length,.d (i64 e.many)]))=_;simp[aH]
      | some n0=>
       have GU:N=n0:=by rw[<- hN,uw];rfl
       obtain⟨ix,_,qN,zm,_⟩:=bf (kd:=aD) (vd:=aD) aP uw 0;refine⟨_,qN,?_⟩;conv=>whnf
       refine ao (N+1) (by rw[GU]) (wrap_i64 (by omega)) ?_;conv=>whnf
       refine⟨_,qN,?_⟩;conv=>whnf
       have mL:(eZ aD aD e.mine).set (0+ix,aD n0).fst (i64 y.number,i64 (N+1))=eZ aD aD (cW e.mine y.number (N+1)):=by
        show(eZ aD aD e.mine).set (0+ix) _=_;rw[Nat.zero_add];exact zm (N+1)
       rw[mL];obtain⟨iz,_,zn,_⟩:=bf (kd:=aD) (vd:=aD) aP (show bD (cW e.mine y.number (N+1)) y.number=some (N+1) by rw[dL,if_pos rfl]) 0;refine⟨_,zn,?_⟩;conv=>whnf
       refine ag (fun h5=>?_) (fun h5=>?_)
       ·have h5:1<N+1:=of_decide_eq_true h5
        rw[if_pos (.inl (by omega))]at cI;conv=>whnf
        refine ae ?_;conv=>whnf
        subst cI;exact⟨_,⟨nU,fP,by simp only;omega,by simp only;omega,ic⟩,aw⟩
       ·have h5:¬ 1<N+1:=of_decide_eq_false h5
        conv=>whnf
        refine af (EF conf y.number (by omega)) rfl rfl ?_;conv=>whnf
        refine ag (fun h6=>?_) (fun h6=>?_)
        ·have h6:y.number∈conf:=of_decide_eq_true h6
         rw[if_pos (.inr h6)]at cI;conv=>whnf
         refine ae ?_;conv=>whnf
         subst cI;exact⟨_,⟨nU,fP,by simp only;omega,by simp only;omega,ic⟩,aw⟩
        ·have h6:¬ y.number∈conf:=of_decide_eq_false h6
         rw[if_neg (fun h=>h.elim (fun h=>h5 (by omega)) h6)]at cI;conv=>whnf
         cases jh:bD e.first y.number with
         | none=>
          rw[jh]at cI;simp only at cI;have G7:=cG (kd:=aD) (vd:=dt.d) (⟨i,k⟩:dt) jh;refine⟨none,aQ (kd:=aD) aP jh 0,?_⟩;conv=>whnf
          refine⟨none,aQ (kd:=aD) aP jh 0,?_⟩;conv=>whnf
          have s9:eZ aD dt.d e.first ++ [(i64 y.number,dt.d ⟨i,k⟩)]=eZ aD dt.d (cW e.first y.number ⟨i,k⟩):=G7
          refine ae ?_;conv=>whnf
          subst cI;refine⟨_,⟨nU,fP,by simp only;omega,by simp only;omega,ic⟩,?_⟩;simp only;rw[<- s9];exact aw
         | some r0=>
          rw[jh]at cI;simp only at cI;obtain⟨j0,m0,c0,x0,E3,eY,AJ,-,mJ⟩:=hE.fst _ _ jh;obtain⟨iy,_,rU,_⟩:=bf (kd:=aD) (vd:=dt.d) aP jh 0;refine⟨_,rU,?_⟩;conv=>whnf
          subst E3;have s8:=(List.getElem?_eq_some_iff.1 eY.fV).1;have C5:=(List.getElem?_eq_some_iff.1 eY.book).1;refine aU c0.cells ⟨by show(0:Int)<=((j0:Nat):Int);omega,by show(l.an.map au.cells)[((j0:Nat):Int).toNat]?=_;rw[Int.toNat_natCast,List.getElem?_map,eY.book];rfl⟩ ?_;conv=>whnf
          refine aU x0.cells ⟨by show(0:Int)<=((m0:Nat):Int);omega,by show(c0.ar.map aZ.cells)[((m0:Nat):Int).toNat]?=_;rw[Int.toNat_natCast,List.getElem?_map,eY.fV];rfl⟩ ?_;conv=>whnf
          have Df:=(hR.book c0 (List.mem_of_getElem? eY.book)).fV x0 (List.mem_of_getElem? eY.fV);have D4:j0<i:=by
           rcases mJ with mJ|⟨EZ,mJ⟩
           ·exact mJ
           ·have kC:=eY.book
            rw[EZ]at kC;have la:c0=b:=Option.some.inj (kC.symm.trans hx);have h7:=(hE.mine y.number).2.2 ⟨m0,mJ,la▸AJ⟩;rw[hN]at h7;omega
          have xI:=hI.pers.2 j0 c0 eY.book D4;refine ao (y.shown-x0.shown) rfl (wrap_i64 (by omega)) ?_;conv=>whnf
          refine ag (fun _=>?_) (fun h=>absurd h (by
           show ¬ ((decide (0<=((j0:Nat):Int))&&decide (((j0:Nat):Int)<((x.pers.length:Nat):Int)))=false);have:=hI.pers.1;simp;omega))
          conv=>whnf
          refine cJ [.vs ((fe j0 c0).map cz.cells)] (by
           show(cN x.pers)[0+((j0:Nat):Int).toNat]?=_;unfold cN;rw[Int.toNat_natCast,Nat.zero_add,List.getElem?_map,xI];rfl) ?_
          conv=>whnf
          refine aU (cz.cells ⟨j0,(bE c0 m0:Nat)⟩) ⟨by show(0:Int)<=((m0:Nat):Int);omega,by show((fe j0 c0).map cz.cells)[((m0:Nat):Int).toNat]?=_;rw[Int.toNat_natCast,List.getElem?_map,fT s8];rfl⟩ ?_;conv=>whnf
          refine ao (-(y.shown-x0.shown)) (by omega) (wrap_i64 (by omega)) ?_;conv=>whnf
          refine ak rfl ?_;conv=>whnf
          refine ak (by simp[bx.len,aH]) ?_;conv=>whnf
          refine aM (decide_eq_true (by
           show((aH ST).length+2)*40<=140737488355328;simp[aH];omega)) ?_
          conv=>whnf
          refine ae ?_;conv=>whnf
          rw[iv eY xI,eJ eY]at cI;subst cI;refine⟨_,⟨nU,fP,by simp only[List.length_append,List.length_cons,List.length_nil];omega,by simp only;omega,ic⟩,?_⟩;have He:∀ p q:cv,aH (ST ++ [p,q])=aH ST++aH [p,q]:=fun p q=>by unfold aH;rw[List.map_append]
          simp only[He];refine(Wk.move 174 900000 rfl rfl).trans (Wk.sub ⟨rfl,rfl,rfl,rfl,rfl,rfl,rfl,rfl,rfl,rfl,rfl,rfl,rfl,rfl,rfl,rfl,rfl,trivial⟩ ⟨rfl,rfl,rfl,?_,rfl,rfl,rfl,rfl,rfl,rfl,rfl,trivial⟩);show some (Obj.box (Cells.vv [.d (i64 l.near),.d (bF l.an),.sl 900000 5 0 ((aH ST).length+2),.sl 900001 1 0 x.pers.length,.d (i64 e.many)]))=_;simp[aH]
     ·rw[if_neg h3]at cI
      have Sq:y.kind=1:=by omega
      have ht:bQ y = .ifc 214 (.agg [.str y.word]):=by unfold bQ;rw[if_pos Sq]
      rw[ht];conv=>whnf
      refine ae ?_;conv=>whnf
      subst cI;exact⟨_,⟨nU,fP,by simp only;omega,by simp only;omega,fun num=>by have:=C6 num;simp only;omega⟩,aw⟩
   ·have h1:k=0:=by have:=of_decide_eq_false h1;omega
    rw[if_pos h1]at hST;conv=>whnf
    refine eg.OF ?_;refine af (Bc y) rfl rfl ?_;refine⟨⟨[(2,.d (aV conf)),(3,.ptr 3 0),(4,.ptr 4 0),(7,.ptr 7 0),(8,.mp 26),(9,.clo 168 [.ptr 7 0,.ptr 4 0]),(29,.d (bF l.an)),(30,.d (i64 l.an.length)),(31,.d (i64 i)),(10,.d (i64 i)),(11,.ptr 11 0),(12,.ptr 12 0),(13,.sl 55 2 0 (e.of ++ [e.now]).length),(14,.mp 43),(15,.d (i64 k)),(16,.ptr 16 0),(45,.d (lF b.ar)),(46,.d (i64 b.ar.length)),(47,.d (i64 k)),(85,.d (bQ y))],[(3,.box (.dd l.cells)),(4,.box (.dd [i64 wider])),(7,.box (.vv [.ptr 25 0])),(25,.box (.vv [.d (i64 l.near),.d (bF l.an),.sl 900000 5 0 ST.length,.sl 900001 1 0 x.pers.length,.d (i64 e.many)])),(900000,.arr 5 (.dd (aH ST))),(900001,.arr 1 (.dd (cN x.pers))),(26,.map (eZ aD dt.d e.first)),(11,.box (.dd b.cells)),(12,.box (.dd e.now.cells)),(16,.box (.dd y.cells)),(43,.map (eZ aD aD e.mine)),(55,.arr 2 (.dd (cU (e.of ++ [e.now]))))],st⟩,Wk.sub ⟨rfl,rfl,rfl,rfl,rfl,rfl,rfl,rfl,rfl,rfl,rfl,rfl,?_,rfl,rfl,rfl,rfl,rfl,rfl,rfl,trivial⟩ ⟨rfl,rfl,rfl,?_,?_,rfl,rfl,rfl,rfl,rfl,rfl,?_,trivial⟩,?_⟩
    ·show some (V.sl 55 2 0 ((cU e.of).length+1))=_
     simp[cU]
    ·rw[<- hST];rfl
    ·rw[<- hST];rfl
    ·show some (Obj.arr 2 (bx.dd (cU e.of ++ [e.now.cells])))=_
     simp[cU]
    have Tu:ST.length<=e.steps.length+1:=by rw[<- hST];simp
    by_cases h2:y.kind=2
    ·rw[if_pos h2]at cI
     have ht:bQ y = .ifc 288 (.agg []):=by unfold bQ;rw[if_neg (by omega),if_pos h2]
     rw[ht];have W2:=nb b k;have Uw:=oL b;have IS:=hB.ar;have J4:e.now.n=(bE b k:Nat):=by rw[hE.now]
     conv=>whnf
     refine ae ?_;conv=>whnf
     refine bH (B3 l wider hw ST (by omega) x.pers e.many (by omega) ⟨e.now.book,e.now.n+1⟩ b.set hB.set) [7,4,25,900000,900001] rfl ?lent rfl ?_;case lent=>exact⟨_,_,rfl,bS rfl ⟨⟨rfl,rfl⟩,trivial⟩,_,_,rfl,rfl,_,_,rfl,bS rfl ⟨rfl,rfl,⟨rfl,rfl,rfl,rfl⟩,⟨rfl,rfl,rfl,rfl⟩,rfl,trivial⟩,_,_,rfl,rfl,_,_,rfl,rfl,rfl⟩
     conv=>whnf
     refine ae ?_;conv=>whnf
     subst cI;refine⟨_,⟨nU,fP,?_,?_,fun num=>by have:=C6 num;simp only;omega⟩,?_⟩
     ·simp[ek];omega
     ·simp only;omega
     ·exact(Wk.move 106208 900000 rfl rfl).trans aw
    ·rw[if_neg h2]at cI
     by_cases h3:y.kind=3
     ·rw[if_pos h3]at cI
      have ht:bQ y = .ifc 228 (.agg [.str y.word,i64 y.number]):=by unfold bQ;rw[if_neg (by omega),if_neg h2,if_pos h3]
      rw[ht];have vH:=C6 y.number;have MR:=(hE.mine y.number).1;generalize hN:(bD e.mine y.number).getD 0=N at cI vH MR;have ic:∀ num,(bD (cW e.mine y.number (N+1)) num).getD 0<=((k+1:Nat):Int):=fun num=>by
       rw[dL];split
       ·simp only[Option.getD_some];omega
       ·have:=C6 num;omega
      conv=>whnf
      cases uw:bD e.mine y.number with
      | none=>
       have GU:N=0:=by rw[<- hN,uw];rfl
       have A4:=cG (kd:=aD) (vd:=aD) (N+1) uw;refine⟨none,aQ (kd:=aD) aP uw 0,?_⟩;conv=>whnf
       refine ao (N+1) (by omega) (wrap_i64 (by omega)) ?_;conv=>whnf
       refine⟨none,aQ (kd:=aD) aP uw 0,?_⟩;conv=>whnf
       have mL:eZ aD aD e.mine ++ [(i64 y.number,i64 (N+1))]=eZ aD aD (cW e.mine y.number (N+1)):=A4;rw[mL];obtain⟨iz,_,zn,_⟩:=bf (kd:=aD) (vd:=aD) aP (show bD (cW e.mine y.number (N+1)) y.number=some (N+1) by rw[dL,if_pos rfl]) 0;refine⟨_,zn,?_⟩;conv=>whnf
       refine ag (fun h5=>?_) (fun h5=>?_)
       ·have h5:1<N+1:=of_decide_eq_true h5
        rw[if_pos (.inl (by omega))]at cI;conv=>whnf
        refine ae ?_;conv=>whnf
        subst cI;exact⟨_,⟨nU,fP,by simp only;omega,by simp only;omega,ic⟩,aw⟩
       ·have h5:¬ 1<N+1:=of_decide_eq_false h5
        conv=>whnf
        refine af (EF conf y.number (by omega)) rfl rfl ?_;conv=>whnf
        refine ag (fun h6=>?_) (fun h6=>?_)
        ·have h6:y.number∈conf:=of_decide_eq_true h6
         rw[if_pos (.inr h6)]at cI;conv=>whnf
         refine ae ?_;conv=>whnf
         subst cI;exact⟨_,⟨nU,fP,by simp only;omega,by simp only;omega,ic⟩,aw⟩
        ·have h6:¬ y.number∈conf:=of_decide_eq_false h6
         rw[if_neg (fun h=>h.elim (fun h=>h5 (by omega)) h6)]at cI;conv=>whnf
         cases jh:bD e.first y.number with
         | none=>
          rw[jh]at cI;simp only at cI;have G7:=cG (kd:=aD) (vd:=dt.d) (⟨i,k⟩:dt) jh;refine⟨none,aQ (kd:=aD) aP jh 0,?_⟩;conv=>whnf
          refine⟨none,aQ (kd:=aD) aP jh 0,?_⟩;conv=>whnf
          have s9:eZ aD dt.d e.first ++ [(i64 y.number,dt.d ⟨i,k⟩)]=eZ aD dt.d (cW e.first y.number ⟨i,k⟩):=G7
          refine ae ?_;conv=>whnf
          subst cI;refine⟨_,⟨nU,fP,by simp only;omega,by simp only;omega,ic⟩,?_⟩;simp only;rw[<- s9];exact aw
         | some r0=>
          rw[jh]at cI;simp only at cI;obtain⟨j0,m0,c0,x0,E3,eY,AJ,-,mJ⟩:=hE.fst _ _ jh;obtain⟨iy,_,rU,_⟩:=bf (kd:=aD) (vd:=dt.d) aP jh 0;refine⟨_,rU,?_⟩;conv=>whnf
          subst E3;have s8:=(List.getElem?_eq_some_iff.1 eY.fV).1;have C5:=(List.getElem?_eq_some_iff.1 eY.book).1;refine aU c0.cells ⟨by show(0:Int)<=((j0:Nat):Int);omega,by show(l.an.map au.cells)[((j0:Nat):Int).toNat]?=_;rw[Int.toNat_natCast,List.getElem?_map,eY.book];rfl⟩ ?_;conv=>whnf
          refine aU x0.cells ⟨by show(0:Int)<=((m0:Nat):Int);omega,by show(c0.ar.map aZ.cells)[((m0:Nat):Int).toNat]?=_;rw[Int.toNat_natCast,List.getElem?_map,eY.fV];rfl⟩ ?_;conv=>whnf
          have Df:=(hR.book c0 (List.mem_of_getElem? eY.book)).fV x0 (List.mem_of_getElem? eY.fV);have D4:j0<i:=by
           rcases mJ with mJ|⟨EZ,mJ⟩
           ·exact mJ
           ·have kC:=eY.book
            rw[EZ]at kC;have la:c0=b:=Option.some.inj (kC.symm.trans hx);have h7:=(hE.mine y.number).2.2 ⟨m0,mJ,la▸AJ⟩;rw[hN]at h7;omega
          have xI:=hI.pers.2 j0 c0 eY.book D4;refine ao (y.shown-x0.shown) rfl (wrap_i64 (by omega)) ?_;conv=>whnf
          refine ag (fun _=>?_) (fun h=>absurd h (by
           show ¬ ((decide (0<=((j0:Nat):Int))&&decide (((j0:Nat):Int)<((x.pers.length:Nat):Int)))=false);have:=hI.pers.1;simp;omega))
          conv=>whnf
          refine cJ [.vs ((fe j0 c0).map cz.cells)] (by
           show(cN x.pers)[0+((j0:Nat):Int).toNat]?=_;unfold cN;rw[Int.toNat_natCast,Nat.zero_add,List.getElem?_map,xI];rfl) ?_
          conv=>whnf
          refine aU (cz.cells ⟨j0,(bE c0 m0:Nat)⟩) ⟨by show(0:Int)<=((m0:Nat):Int);omega,by show((fe j0 c0).map cz.cells)[((m0:Nat):Int).toNat]?=_;rw[Int.toNat_natCast,List.getElem?_map,fT s8];rfl⟩ ?_;conv=>whnf
          refine ao (-(y.shown-x0.shown)) (by omega) (wrap_i64 (by omega)) ?_;conv=>whnf
          refine ak rfl ?_;conv=>whnf
          refine ak (by simp[bx.len,aH]) ?_;conv=>whnf
          refine aM (decide_eq_true (by
           show((aH ST).length+2)*40<=140737488355328;simp[aH];omega)) ?_
          conv=>whnf
          refine ae ?_;conv=>whnf
          rw[iv eY xI,eJ eY]at cI;subst cI;refine⟨_,⟨nU,fP,by simp only[List.length_append,List.length_cons,List.length_nil];omega,by simp only;omega,ic⟩,?_⟩;have He:∀ p q:cv,aH (ST ++ [p,q])=aH ST++aH [p,q]:=fun p q=>by unfold aH;rw[List.map_append]
          simp only[He];refine(Wk.move 174 900000 rfl rfl).trans (Wk.sub ⟨rfl,rfl,rfl,rfl,rfl,rfl,rfl,rfl,rfl,rfl,rfl,rfl,rfl,rfl,rfl,rfl,rfl,trivial⟩ ⟨rfl,rfl,rfl,?_,rfl,rfl,rfl,rfl,rfl,rfl,rfl,trivial⟩);show some (Obj.box (Cells.vv [.d (i64 l.near),.d (bF l.an),.sl 900000 5 0 ((aH ST).length+2),.sl 900001 1 0 x.pers.length,.d (i64 e.many)]))=_;simp[aH]
      | some n0=>
       have GU:N=n0:=by rw[<- hN,uw];rfl
       obtain⟨ix,_,qN,zm,_⟩:=bf (kd:=aD) (vd:=aD) aP uw 0;refine⟨_,qN,?_⟩;conv=>whnf
       refine ao (N+1) (by rw[GU]) (wrap_i64 (by omega)) ?_;conv=>whnf
       refine⟨_,qN,?_⟩;conv=>whnf
       have mL:(eZ aD aD e.mine).set (0+ix,aD n0).fst (i64 y.number,i64 (N+1))=eZ aD aD (cW e.mine y.number (N+1)):=by
        show(eZ aD aD e.mine).set (0+ix) _=_;rw[Nat.zero_add];exact zm (N+1)
       rw[mL];obtain⟨iz,_,zn,_⟩:=bf (kd:=aD) (vd:=aD) aP (show bD (cW e.mine y.number (N+1)) y.number=some (N+1) by rw[dL,if_pos rfl]) 0;refine⟨_,zn,?_⟩;conv=>whnf
       refine ag (fun h5=>?_) (fun h5=>?_)
       ·have h5:1<N+1:=of_decide_eq_true h5
        rw[if_pos (.inl (by omega))]at cI;conv=>whnf
        refine ae ?_;conv=>whnf
        subst cI;exact⟨_,⟨nU,fP,by simp only;omega,by simp only;omega,ic⟩,aw⟩
       ·have h5:¬ 1<N+1:=of_decide_eq_false h5
        conv=>whnf
        refine af (EF conf y.number (by omega)) rfl rfl ?_;conv=>whnf
        refine ag (fun h6=>?_) (fun h6=>?_)
        ·have h6:y.number∈conf:=of_decide_eq_true h6
         rw[if_pos (.inr h6)]at cI;conv=>whnf
         refine ae ?_;conv=>whnf
         subst cI;exact⟨_,⟨nU,fP,by simp only;omega,by simp only;omega,ic⟩,aw⟩
        ·have h6:¬ y.number∈conf:=of_decide_eq_false h6
         rw[if_neg (fun h=>h.elim (fun h=>h5 (by omega)) h6)]at cI;conv=>whnf
         cases jh:bD e.first y.number with
         | none=>
          rw[jh]at cI;simp only at cI;have G7:=cG (kd:=aD) (vd:=dt.d) (⟨i,k⟩:dt) jh;refine⟨none,aQ (kd:=aD) aP jh 0,?_⟩;conv=>whnf
          refine⟨none,aQ (kd:=aD) aP jh 0,?_⟩;conv=>whnf
          have s9:eZ aD dt.d e.first ++ [(i64 y.number,dt.d ⟨i,k⟩)]=eZ aD dt.d (cW e.first y.number ⟨i,k⟩):=G7
          refine ae ?_;conv=>whnf
          subst cI;refine⟨_,⟨nU,fP,by simp only;omega,by simp only;omega,ic⟩,?_⟩;simp only;rw[<- s9];exact aw
         | some r0=>
          rw[jh]at cI;simp only at cI;obtain⟨j0,m0,c0,x0,E3,eY,AJ,-,mJ⟩:=hE.fst _ _ jh;obtain⟨iy,_,rU,_⟩:=bf (kd:=aD) (vd:=dt.d) aP jh 0;refine⟨_,rU,?_⟩;conv=>whnf
          subst E3;have s8:=(List.getElem?_eq_some_iff.1 eY.fV).1;have C5:=(List.getElem?_eq_some_iff.1 eY.book).1;refine aU c0.cells ⟨by show(0:Int)<=((j0:Nat):Int);omega,by show(l.an.map au.cells)[((j0:Nat):Int).toNat]?=_;rw[Int.toNat_natCast,List.getElem?_map,eY.book];rfl⟩ ?_;conv=>whnf
          refine aU x0.cells ⟨by show(0:Int)<=((m0:Nat):Int);omega,by show(c0.ar.map aZ.cells)[((m0:Nat):Int).toNat]?=_;rw[Int.toNat_natCast,List.getElem?_map,eY.fV];rfl⟩ ?_;conv=>whnf
          have Df:=(hR.book c0 (List.mem_of_getElem? eY.book)).fV x0 (List.mem_of_getElem? eY.fV);have D4:j0<i:=by
           rcases mJ with mJ|⟨EZ,mJ⟩
           ·exact mJ
           ·have kC:=eY.book
            rw[EZ]at kC;have la:c0=b:=Option.some.inj (kC.symm.trans hx);have h7:=(hE.mine y.number).2.2 ⟨m0,mJ,la▸AJ⟩;rw[hN]at h7;omega
          have xI:=hI.pers.2 j0 c0 eY.book D4;refine ao (y.shown-x0.shown) rfl (wrap_i64 (by omega)) ?_;conv=>whnf
          refine ag (fun _=>?_) (fun h=>absurd h (by
           show ¬ ((decide (0<=((j0:Nat):Int))&&decide (((j0:Nat):Int)<((x.pers.length:Nat):Int)))=false);have:=hI.pers.1;simp;omega))
          conv=>whnf
          refine cJ [.vs ((fe j0 c0).map cz.cells)] (by
           show(cN x.pers)[0+((j0:Nat):Int).toNat]?=_;unfold cN;rw[Int.toNat_natCast,Nat.zero_add,List.getElem?_map,xI];rfl) ?_
          conv=>whnf
          refine aU (cz.cells ⟨j0,(bE c0 m0:Nat)⟩) ⟨by show(0:Int)<=((m0:Nat):Int);omega,by show((fe j0 c0).map cz.cells)[((m0:Nat):Int).toNat]?=_;rw[Int.toNat_natCast,List.getElem?_map,fT s8];rfl⟩ ?_;conv=>whnf
          refine ao (-(y.shown-x0.shown)) (by omega) (wrap_i64 (by omega)) ?_;conv=>whnf
          refine ak rfl ?_;conv=>whnf
          refine ak (by simp[bx.len,aH]) ?_;conv=>whnf
          refine aM (decide_eq_true (by
           show((aH ST).length+2)*40<=140737488355328;simp[aH];omega)) ?_
          conv=>whnf
          refine ae ?_;conv=>whnf
          rw[iv eY xI,eJ eY]at cI;subst cI;refine⟨_,⟨nU,fP,by simp only[List.length_append,List.length_cons,List.length_nil];omega,by simp only;omega,ic⟩,?_⟩;have He:∀ p q:cv,aH (ST ++ [p,q])=aH ST++aH [p,q]:=fun p q=>by unfold aH;rw[List.map_append]
          simp only[He];refine(Wk.move 174 900000 rfl rfl).trans (Wk.sub ⟨rfl,rfl,rfl,rfl,rfl,rfl,rfl,rfl,rfl,rfl,rfl,rfl,rfl,rfl,rfl,rfl,rfl,trivial⟩ ⟨rfl,rfl,rfl,?_,rfl,rfl,rfl,rfl,rfl,rfl,rfl,trivial⟩);show some (Obj.box (Cells.vv [.d (i64 l.near),.d (bF l.an),.sl 900000 5 0 ((aH ST).length+2),.sl 900001 1 0 x.pers.length,.d (i64 e.many)]))=_;simp[aH]
     ·rw[if_neg h3]at cI
      have Sq:y.kind=1:=by omega
      have ht:bQ y = .ifc 214 (.agg [.str y.word]):=by unfold bQ;rw[if_pos Sq]
      rw[ht];conv=>whnf
      refine ae ?_;conv=>whnf
      subst cI;exact⟨_,⟨nU,fP,by simp only;omega,by simp only;omega,fun num=>by have:=C6 num;simp only;omega⟩,aw⟩
  ·rintro e ⟨hE,fP,zj,hem,C6⟩
   conv=>whnf
   refine ag (fun h=>absurd h (by simp)) (fun _=>?_);conv=>whnf
   refine ak rfl ?_;conv=>whnf
   refine ak (by simp[bx.len,cN]) ?_;conv=>whnf
   have jv:(true && !eU 185 ((bg (cN x.pers) ++ [[V.sl 55 2 0 e.of.length]]).flatten))=true:=by
    rw[il];rfl
   refine aM jv ?_;conv=>whnf
   refine aM (decide_eq_true (by
    show((cN x.pers).length+1)*24<=140737488355328;have:=hI.pers.1;simp[cN];omega)) ?_
   conv=>whnf
   refine mb [55,185] (by
    show ck ((bg (cN x.pers) ++ [[V.sl 55 2 0 e.of.length]]).flatten)++([185] ++ [])=_;rw[fS];rfl) ?_
   conv=>whnf
   refine ao ((i+1:Nat):Int) (by omega) (wrap_i64 (by omega)) ?_;conv=>whnf
   have fP:e=ER:=fP;subst fP;have MX:e.of.length=b.ar.length:=by rw[hE.of];simp
   refine⟨⟨e.steps,e.many,e.first,x.pers ++ [e.of]⟩,⟨by rw[<- hy]at vF;exact vF,by rw[<- hy]at DX;exact DX,by simp only;have:=hB.ar;omega,by simp only;have:=hB.ar;omega⟩,?_⟩;refine(Wk.s4 1 [55] 185 (sz:=1) (vs:=bg (cN x.pers) ++ [[.sl 55 2 0 e.of.length]]) (ds:=cN x.pers ++ [[.vs (cU e.of)]]) ?_ (iA (jm (aC (cH rfl (by simp[cU])) rfl)) _)).trans ((Wk.move 185 900001 rfl rfl).trans (Wk.sub ⟨rfl,rfl,rfl,rfl,rfl,rfl,rfl,rfl,rfl,trivial⟩ ⟨rfl,rfl,rfl,?_,rfl,?_,rfl,trivial⟩))
   ·rfl
   ·show some (Obj.box (Cells.vv [.d (i64 l.near),.d (bF l.an),.sl 900000 5 0 e.steps.length,.sl 900001 1 0 ((cN x.pers).length+1),.d (i64 e.many)]))=_
    simp[cN]
   ·show some (Obj.arr 1 (bx.dd (cN x.pers ++ [[.vs (cU e.of)]])))=_
    unfold cN cU;rw[List.map_append];rfl
 ·rintro x ⟨vF,hI,ja,vH⟩
  have vF:x=Ot:=vF;subst vF;conv=>whnf
  refine ag (fun h=>absurd h (by simp)) (fun _=>?_);conv=>whnf
  refine aO 2 (ds:=[eO l x]) (aC (Cp rfl (ky (a:=[i64 l.near,bF l.an]) (aC (fq (es':=aH x.steps) rfl rfl (by simp[aH])) (aC (fq (es':=cN x.pers) rfl rfl (by simp[cN])) rfl)))) rfl) ⟨⟨rfl,rfl⟩,rfl⟩
theorem NP(l:aN)(hR:qh l):bq Tryz.prog 107 [l.d,i64 0,.vs []] (eO l (bI l 0 [])):=X7 l hR 0 (by omega) [] (by simp)
theorem oS{P:Program}{σ:Type}{Y:Hd σ}{st:St σ}{d:Option Nat}{f:FuncId}{a b:V}{r:List V}{K:St σ->Prop}(hc:eg P Y st d f (a::b :: .d (.vs [])::r) K):eg P Y st d f (a::b :: .d .nils::r) K:=by
 refine rJ (fun yv L F w l h=>?_) hc;obtain⟨x,l',rfl,h1,y,Xv,rfl,h2,z,l3,rfl,h3,h4⟩:=h;exact⟨x,_,rfl,h1,y,_,rfl,h2,z,_,rfl,bR.df .nils z h3,h4⟩
theorem abT(l:aN)(x:rL)(hR:wF x):bq Tryz.prog 67 [eO l x] (i64 (if uh x (gk x .right)=true then 0 else 9)):=by
 refine aY Tryz.func67 rfl (ft:=Z1) 1 fun {σ} Y st=>?_;conv=>whnf
 refine af (Dx) rfl rfl ?_;conv=>whnf
 refine af (Qh l x hR .right) rfl rfl ?_
 cases h:uh x (gk x .right) with
 | true=>
  simp only[if_true];conv=>whnf
  exact ai
 | false=>
  simp only[Bool.false_eq_true,if_false];conv=>whnf
  exact ai
theorem R8{l:aN}{i k:Nat}{b:au}{y:aZ}(h:At l i k b y):(0:Int)<=(i:Int)/\(l.an.map au.cells)[((i:Nat):Int).toNat]?=some b.cells:=
 ⟨by omega,by rw[Int.toNat_natCast,List.getElem?_map,h.book];rfl⟩
theorem Sf{l:aN}{i k:Nat}{b:au}{y:aZ}(h:At l i k b y):(0:Int)<=(k:Int)/\(b.ar.map aZ.cells)[((k:Nat):Int).toNat]?=some y.cells:=
 ⟨by omega,by rw[Int.toNat_natCast,List.getElem?_map,h.fV];rfl⟩
theorem Qi(l:aN)(x:rL){i k:Nat}{b:au}{y:aZ}(h:At l i k b y):bq Tryz.prog 70 [eO l x,(dt.mk i k).d] y.d:=by
 refine aY Tryz.func70 rfl (ft:=Z4) 2 fun {σ} Y st=>?_;conv=>whnf
 refine aU b.cells (R8 h) ?_;conv=>whnf
 refine aU y.cells (Sf h) ?_;conv=>whnf
 exact ai
theorem HO{l:aN}{i k:Nat}{b:au}{y:aZ}(h:At l i k b y):(0:Int)<=(i:Int)/\((bI l 0 []).pers.map fun r=>[D.vs (r.map cz.cells)])[((i:Nat):Int).toNat]?=some [D.vs ((fe i b).map cz.cells)]:=
 ⟨by omega,by rw[Int.toNat_natCast,List.getElem?_map,(rY l 0 []).pers.2 i b h.book (El h)];rfl⟩
theorem HN{l:aN}{i k:Nat}{b:au}{y:aZ}(h:At l i k b y):(0:Int)<=(k:Int)/\((fe i b).map cz.cells)[((k:Nat):Int).toNat]?=some (cz.cells ⟨i,bE b k⟩):=
 ⟨by omega,by rw[Int.toNat_natCast,List.getElem?_map,fT (List.getElem?_eq_some_iff.1 h.fV).1];rfl⟩
theorem Jy{l:aN}{i k j m:Nat}{b c:au}{y z:aZ}(h:At l i k b y)(h':At l j m c z):my l ⟨i,k⟩ ⟨j,m⟩=⟨(z.shown-y.shown)-(cZ (bI l 0 []) ⟨j,bE c m⟩ ⟨i,bE b k⟩).hi,(z.shown-y.shown)-(cZ (bI l 0 []) ⟨j,bE c m⟩ ⟨i,bE b k⟩).lo⟩:=by
 unfold my;rw[lV h,lV h',eJ h,eJ h']
theorem Yc(l:aN){i k j m:Nat}{b c:au}{y z:aZ}(h:At l i k b y)(h':At l j m c z)(A B:Int)(hA : -4000000000<=A/\A<=4000000000)(hB : -4000000000<=B/\B<=4000000000)(hy:0<=y.shown/\y.shown<=20000)(hz:0<=z.shown/\z.shown<=20000)
  (Sr:bq Tryz.prog 68 [eO l (bI l 0 []),cz.d ⟨j,bE c m⟩,cz.d ⟨i,bE b k⟩] (.agg [i64 A,i64 B])):bq Tryz.prog 110 [eO l (bI l 0 []),(dt.mk i k).d,(dt.mk j m).d] (.agg [i64 ((z.shown-y.shown)-B),i64 ((z.shown-y.shown)-A)]):=by
 refine aY Tryz.func110 rfl (ft:=Va) 3 fun {σ} Y st=>?_;conv=>whnf
 refine aU _ (HO h') ?_;conv=>whnf
 refine aU _ (HN h') ?_;conv=>whnf
 refine aU _ (HO h) ?_;conv=>whnf
 refine aU _ (HN h) ?_;conv=>whnf
 refine ax (ds:=[eO l (bI l 0 []),cz.d ⟨j,bE c m⟩,cz.d ⟨i,bE b k⟩]) Sr rfl rfl ?_;conv=>whnf
 refine ax (Qi l _ h') rfl rfl ?_;conv=>whnf
 refine ax (Qi l _ h) rfl rfl ?_;conv=>whnf
 refine ae ?_;conv=>whnf
 refine ae ?_;conv=>whnf
 refine ae ?_;conv=>whnf
 exact ai
theorem Yb(l:aN)(hR:qh l)(hf:gV l 0 []=true){i k j m:Nat}{b c:au}{y z:aZ}(h:At l i k b y)(h':At l j m c z):bq Tryz.prog 110 [eO l (bI l 0 []),(dt.mk i k).d,(dt.mk j m).d] (my l ⟨i,k⟩ ⟨j,m⟩).d:=by
 rw[Jy h h'];have hL:=vP hR (w:=0) (by omega) [];have hn:=kq (iW.2 ⟨i,k,b,y,rfl,h⟩);have J3:=kq (iW.2 ⟨j,m,c,z,rfl,h'⟩);rw[lV h]at hn;rw[lV h']at J3;have hb:=yy hL ⟨j,bE c m⟩ ⟨i,bE b k⟩;have lO:=yy hL ⟨i,bE b k⟩ ⟨j,bE c m⟩;have hy:=((hR.book b (List.mem_of_getElem? h.book)).fV y (List.mem_of_getElem? h.fV)).1;have hz:=((hR.book c (List.mem_of_getElem? h'.book)).fV z (List.mem_of_getElem? h'.fV)).1;exact fun {σ}=>bq.cast (fun {σ}=>Yc l h h' (cZ (bI l 0 []) ⟨j,bE c m⟩ ⟨i,bE b k⟩).lo (cZ (bI l 0 []) ⟨j,bE c m⟩ ⟨i,bE b k⟩).hi ⟨by show -4000000000 <= -_;omega,by show -_<=4000000000;omega⟩ lO hy hz (fun {σ}=>X9 l (bI l 0 []) hL ⟨j,bE c m⟩ ⟨i,bE b k⟩ (xT hf J3) (xT hf hn))) rfl
def Iz(l:aN)(xs:List dt):D:=if hU l xs=0 then eO l (bI l 0 []) else .nilp
def o5(l:List dt):D:=.vs (l.map dt.cells)
theorem kl(l:aN):gf l=((gf l).1,(gf l).2.1,bC l):=rfl
theorem lI(l:aN)(p q e:Int)(h:gf l=(p,q,e)):bq Tryz.prog 106 [l.d] (.tup [i64 p,i64 q,i64 e]):=bq.cast (fun {σ}=>abE l) (by rw[h];rfl)
theorem Ya(l:aN)(xs:List dt)(hx:xs.length<1000000):bq Tryz.prog 66 [l.d,o5 xs] (.tup [Iz l xs,i64 (hU l xs)]):=by
 unfold Iz hU;refine aY Tryz.func66 rfl (ft:=Z0) 2 fun {σ} Y st=>?_;conv=>whnf
 by_cases hc:bC l=0
 ·rw[if_pos hc]
  have hR:=fI hc;have xV:=hR.an;refine af (lI l 0 0 0 (km hc)) rfl rfl ?_;conv=>whnf
  generalize hE:(if xs.all (uC l)=true then (0:Int) else 4)=E;refine bB (T:=tys) av (by exact aj mixed av (by decide +kernel)) xs (fun i (_:Unit)=>⟨[(2,.ptr 2 0),(20,.d (o5 xs)),(21,.d (i64 xs.length)),(22,.d (i64 i))],[(2,.box (.dd l.cells))],st⟩) (fun i r _=>(if r.all (uC l)=true then (0:Int) else 4)=E) () aw hE ?_ ?_
  ·rintro i x r _ hxi hi hr he
   conv=>whnf
   refine ag (fun _=>?_) (fun h=>absurd hi (by simpa using h));conv=>whnf
   refine aG hxi ?_;conv=>whnf
   refine ao ((l.an.length:Int)-1) (by simp) (wrap_i64 (by omega)) ?_;conv=>whnf
   refine a8 (zW 0 ((l.an.length:Int)-1) x.book) rfl 1 rfl ?_;rw[List.all_cons]at he;unfold uC at he
   cases h1:gi x.book 0 ((l.an.length:Int)-1) with
   | true=>
    rw[h1]at he;simp only[Bool.not_true,Bool.false_and,Bool.false_eq_true,if_false]at he;conv=>whnf
    subst he;exact ai
   | false=>
    rw[h1]at he;simp only[Bool.not_false,Bool.true_and]at he;have h1:=ea.1 h1;obtain⟨b,hb⟩:∃ b,l.an[x.book.toNat]?=some b:=⟨_,List.getElem?_eq_getElem (by omega)⟩;have MD:nR l x.book=b:=by unfold nR;rw[hb];rfl
    rw[MD]at he;have SG:=(hR.book b (List.mem_of_getElem? hb)).ar;conv=>whnf
    refine aU b.cells ⟨h1.1,by rw[List.getElem?_map,hb];rfl⟩ ?_;conv=>whnf
    refine ao ((b.ar.length:Int)-1) (by simp) (wrap_i64 (by omega)) ?_;conv=>whnf
    refine a8 (zW 0 ((b.ar.length:Int)-1) x.entry) rfl 1 rfl ?_
    cases h2:gi x.entry 0 ((b.ar.length:Int)-1) with
    | true=>
     rw[h2]at he;simp only[Bool.not_true,Bool.false_and,Bool.false_eq_true,if_false]at he;conv=>whnf
     subst he;exact ai
    | false=>
     rw[h2]at he;simp only[Bool.not_false,Bool.true_and]at he;conv=>whnf
     refine ae ?_;conv=>whnf
     exact⟨(),he,aw⟩
  ·rintro _ he
   have he:(0:Int)=E:=he;subst he;conv=>whnf
   refine ag (fun h=>absurd h (by simp)) (fun _=>?_);conv=>whnf
   refine oS ?_;refine af (NP l hR) rfl rfl ?_;conv=>whnf
   rw[if_pos rfl];exact ai
 ·rw[if_neg hc]
  refine af (lI l _ _ _ (kl l)) rfl rfl ?_;conv=>whnf
  generalize bC l=E at hc;refine ag (fun _=>?_) (fun h=>absurd hc (by simpa using h));conv=>whnf
  rw[if_neg hc];exact ai
theorem NQ(l:aN)(hR:qh l):bq Tryz.prog 67 [eO l (bI l 0 [])] (i64 (if gV l 0 []=true then 0 else 9)):=abT l (bI l 0 []) (vP hR (by omega) [])
theorem Ji(l:aN)(hR:qh l)(w:Int)(hw:0<=w/\w<=1048576)(conf:List Int):∃ m,bq Tryz.prog 108 [eO l (bI l w conf),cz.right.d] (.tup [m,.bool (gV l w conf)]):=⟨_,fun {σ}=>Qh l (bI l w conf) (vP hR hw conf) .right⟩
theorem X3(l:aN):bq Tryz.prog 40 [l.d] (.tup [.bool (ED l).1,i64 (ED l).2]):=by
 unfold ED;refine aY Tryz.func40 rfl (ft:=ZJ) 1 fun {σ} Y st=>?_;conv=>whnf
 by_cases hc:bC l=0
 ·rw[if_pos hc]
  have hR:=fI hc;refine af (lI l 0 0 0 (km hc)) rfl rfl ?_;conv=>whnf
  refine oS ?_;refine af (NP l hR) rfl rfl ?_;conv=>whnf
  refine af (Dx) rfl rfl ?_;conv=>whnf
  obtain⟨m,hm⟩:=Ji l hR 0 (by omega) [];refine af (hm) rfl rfl ?_;conv=>whnf
  exact ai
 ·rw[if_neg hc]
  refine af (lI l _ _ _ (kl l)) rfl rfl ?_;conv=>whnf
  generalize bC l=E at hc;refine ag (fun _=>?_) (fun h=>absurd hc (by simpa using h));conv=>whnf
  exact ai
theorem Zp{l:aN}(hR:qh l){i k:Nat}{b:au}{y:aZ}(h:At l i k b y):0<=y.shown/\y.shown<=20000:=((hR.book b (List.mem_of_getElem? h.book)).fV y (List.mem_of_getElem? h.fV)).1
theorem Nd{l:aN}{i k:Nat}{b:au}{y:aZ}(h:At l i k b y):iV l ⟨i,k⟩=⟨y.shown-(cZ (bI l 0 []) ⟨i,bE b k⟩ .right).hi,y.shown-(cZ (bI l 0 []) ⟨i,bE b k⟩ .right).lo⟩:=by
 unfold iV;rw[lV h,eJ h]
theorem RH{l:aN}(hR:qh l)(hf:gV l 0 []=true){p q:cz}(hp:p∈eB l)(hq:q∈eB l):bq Tryz.prog 68 [eO l (bI l 0 []),p.d,q.d] (.agg [i64 (cZ (bI l 0 []) p q).lo,i64 (cZ (bI l 0 []) p q).hi]):=
 X9 l (bI l 0 []) (vP hR (by omega) []) p q (xT hf hp) (xT hf hq)
theorem LF{l:aN}(hR:qh l)(p q:cz):(-4000000000<=(cZ (bI l 0 []) p q).lo/\(cZ (bI l 0 []) p q).lo<=4000000000)/\(-4000000000<=(cZ (bI l 0 []) p q).hi/\(cZ (bI l 0 []) p q).hi<=4000000000):=by
 have h1:=yy (vP hR (w:=0) (by omega) []) p q;have h2:=yy (vP hR (w:=0) (by omega) []) q p;unfold cZ;simp only;omega
theorem vr{l:aN}{xs:List dt}(h:hU l xs=0):bC l=0 /\ ∀ x∈xs,uC l x=true:=by
 unfold hU at h;split at h
 ·rename_i h1
  split at h
  ·rename_i h2;exact⟨h1,fun x hx=>List.all_eq_true.1 h2 x hx⟩
  ·cases h
 ·rename_i h1;exact absurd h h1
theorem HI{l:aN}{xs:List dt}(hx:xs.length<1000000)(h:hU l xs=0):bq Tryz.prog 66 [l.d,o5 xs] (.tup [eO l (bI l 0 []),i64 0]):=
 bq.cast (fun {σ}=>Ya l xs hx) (by unfold Iz;rw[if_pos h,h])
theorem HH{l:aN}{xs:List dt}(hx:xs.length<1000000)(h:hU l xs≠0):bq Tryz.prog 66 [l.d,o5 xs] (.tup [.nilp,i64 (hU l xs)]):=
 bq.cast (fun {σ}=>Ya l xs hx) (by unfold Iz;rw[if_neg h])
theorem Er{l:aN}{xs:List dt}(h:hU l xs≠0):qu l xs=hU l xs/\qu l xs≠0:=by
 unfold qu;rw[if_neg h];exact⟨rfl,h⟩
theorem Qe(l:aN)(x:dt):bq Tryz.prog 12 [l.d,x.d] (.tup [(qQ l x).1.d,i64 (qQ l x).2]):=by
 by_cases hc:hU l [x]=0
 ·obtain⟨ns,cR⟩:=vr hc
  have hR:=fI ns;have tJ:=cR x (by simp);obtain⟨i,k,b,y,rfl,hA⟩:=iW.1 tJ;have e:qQ l ⟨i,k⟩=if gV l 0 []=true then (iV l ⟨i,k⟩,0) else (⟨0,0⟩,9):=by
   unfold qQ qu;rw[if_pos hc];cases gV l 0 []<;>rfl
  rw[e];refine aY Tryz.func12 rfl (ft:=Vg) 2 fun {σ} Y st=>?_;conv=>whnf
  refine gX (ds:=[l.d,o5 [⟨i,k⟩]]) (HI (by simp) hc) 1 [13] rfl rfl ?_;conv=>whnf
  refine af (NQ l hR) rfl rfl ?_;conv=>whnf
  cases hf:gV l 0 []with
  | false=>
   simp only[Bool.false_eq_true,if_false];conv=>whnf
   exact ai
  | true=>
   simp only[if_true];rw[Nd hA];have hn:=kq tJ;rw[lV hA]at hn;have Sr:=fun {σ}=>@RH l hR hf _ _ hn (ku l) σ;have SF:=LF hR ⟨i,bE b k⟩ .right;have hy:=Zp hR hA;generalize (cZ (bI l 0 []) ⟨i,bE b k⟩ .right)=S at Sr SF ⊢;conv=>whnf
   refine aU _ (HO hA) ?_;conv=>whnf
   refine aU _ (HN hA) ?_;conv=>whnf
   refine ax (ds:=[]) Dx rfl rfl ?_;conv=>whnf
   refine ax (ds:=[eO l (bI l 0 []),cz.d ⟨i,bE b k⟩,cz.right.d]) Sr rfl rfl ?_;conv=>whnf
   refine ax (Qi l _ hA) rfl rfl ?_;conv=>whnf
   refine ae ?_;conv=>whnf
   refine ae ?_;conv=>whnf
   exact ai
 ·obtain⟨e1,e2⟩:=Er hc
  have e:qQ l x=(⟨0,0⟩,hU l [x]):=by
   unfold qQ;rw[if_neg e2,e1]
  rw[e];refine aY Tryz.func12 rfl (ft:=Vg) 2 fun {σ} Y st=>?_;conv=>whnf
  refine gX (ds:=[l.d,o5 [x]]) (HH (by simp) hc) 1 [13] rfl rfl ?_;generalize hU l [x]=E at hc ⊢;conv=>whnf
  refine ag (fun h=>absurd h (by simpa using hc)) (fun _=>?_);conv=>whnf
  refine ag (fun _=>?_) (fun h=>absurd hc (by simpa using h));conv=>whnf
  exact ai
theorem X4(l:aN)(x z:dt):bq Tryz.prog 45 [l.d,x.d,z.d] (.tup [(oY l x z).1.d,i64 (oY l x z).2.1,i64 (oY l x z).2.2]):=by
 by_cases hc:hU l [x,z]=0
 ·obtain⟨ns,cR⟩:=vr hc
  have hR:=fI ns;have tJ:=cR x (by simp);have aaC:=cR z (by simp);obtain⟨i,k,b,y,rfl,hA⟩:=iW.1 tJ;obtain⟨j,m,c,u,rfl,hA'⟩:=iW.1 aaC;have e:oY l ⟨i,k⟩ ⟨j,m⟩=if gV l 0 []=true then (my l ⟨i,k⟩ ⟨j,m⟩,HA (my l ⟨i,k⟩ ⟨j,m⟩),0) else (⟨0,0⟩,0,9):=by
   unfold oY qu;rw[if_pos hc];cases gV l 0 []<;>rfl
  rw[e];refine aY Tryz.func45 rfl (ft:=V0) 3 fun {σ} Y st=>?_;conv=>whnf
  refine gX (ds:=[l.d,o5 [⟨i,k⟩,⟨j,m⟩]]) (HI (by simp) hc) 1 [14] rfl rfl ?_;conv=>whnf
  refine af (NQ l hR) rfl rfl ?_;conv=>whnf
  cases hf:gV l 0 []with
  | false=>
   simp only[Bool.false_eq_true,if_false];conv=>whnf
   exact ai
  | true=>
   simp only[if_true];have V6:=fun {σ}=>@Yb l hR hf _ _ _ _ _ _ _ _ hA hA' σ;generalize my l ⟨i,k⟩ ⟨j,m⟩=S at V6 ⊢;conv=>whnf
   refine af V6 rfl rfl ?_;conv=>whnf
   unfold HA;have hS:(S=⟨0,0⟩)↔(S.lo=0/\S.hi=0):=by cases S;simp
   generalize hB:(decide (S.lo=0)&&(decide (S.hi=0)&&true))=B
   cases B with
   | true=>
    rw[if_pos (hS.2 (by simpa using hB))];conv=>whnf
    exact ai
   | false=>
    rw[if_neg (fun h=>by have:=hS.1 h;rw[this.1,this.2]at hB;cases hB)];conv=>whnf
    refine ag (fun h1=>?_) (fun h1=>?_)
    ·rw[if_pos (of_decide_eq_true h1)]
     conv=>whnf
     exact ai
    ·rw[if_neg (of_decide_eq_false h1)]
     conv=>whnf
     refine ag (fun h2=>?_) (fun h2=>?_)
     ·rw[if_pos (of_decide_eq_true h2)]
      conv=>whnf
      exact ai
     ·rw[if_neg (of_decide_eq_false h2)]
      conv=>whnf
      exact ai
 ·obtain⟨e1,e2⟩:=Er hc
  have e:oY l x z=(⟨0,0⟩,0,hU l [x,z]):=by
   unfold oY;rw[if_neg e2,e1]
  rw[e];refine aY Tryz.func45 rfl (ft:=V0) 3 fun {σ} Y st=>?_;conv=>whnf
  refine gX (ds:=[l.d,o5 [x,z]]) (HH (by simp) hc) 1 [14] rfl rfl ?_;generalize hU l [x,z]=E at hc ⊢;conv=>whnf
  refine ag (fun h=>absurd h (by simpa using hc)) (fun _=>?_);conv=>whnf
  refine ag (fun _=>?_) (fun h=>absurd hc (by simpa using h));conv=>whnf
  exact ai
theorem TW(l:aN)(book:Int):bq Tryz.prog 43 [l.d,i64 book] (.tup [dH (zR l book).1,i64 (zR l book).2]):=by
 unfold zR;refine aY Tryz.func43 rfl (ft:=ZL) 2 fun {σ} Y st=>?_;conv=>whnf
 by_cases hc:bC l=0
 ·rw[if_pos hc]
  have hR:=fI hc;have xV:=hR.an;refine af (lI l 0 0 0 (km hc)) rfl rfl ?_;conv=>whnf
  refine ao ((l.an.length:Int)-1) (by simp) (wrap_i64 (by omega)) ?_;conv=>whnf
  refine aA (zW 0 ((l.an.length:Int)-1) book) rfl 1 rfl ?_
  cases h1:gi book 0 ((l.an.length:Int)-1) with
  | true=>
   simp only[if_true];conv=>whnf
   refine gH ?_;exact ai
  | false=>
   simp only[Bool.false_eq_true,if_false];have h1:=ea.1 h1;obtain⟨i,rfl⟩:∃ i:Nat,book=i:=⟨book.toNat,by omega⟩;obtain⟨b,hb⟩:∃ b,l.an[i]?=some b:=⟨_,List.getElem?_eq_getElem (by omega)⟩;have MD:nR l i=b:=by unfold nR;rw[Int.toNat_natCast,hb];rfl
   conv=>whnf
   refine oS ?_;refine af (NP l hR) rfl rfl ?_;conv=>whnf
   refine af (Dx) rfl rfl ?_;conv=>whnf
   obtain⟨m,hm⟩:=Ji l hR 0 (by omega) [];refine af (hm) rfl rfl ?_;conv=>whnf
   cases hf:gV l 0 []with
   | false=>
    simp only[Bool.false_eq_true,if_false];conv=>whnf
    refine gH ?_;exact ai
   | true=>
    simp only[if_true];unfold RE;rw[MD];conv=>whnf
    refine aU b.cells ⟨by omega,by rw[Int.toNat_natCast,List.getElem?_map,hb];rfl⟩ ?_;conv=>whnf
    have SG:=(hR.book b (List.mem_of_getElem? hb)).ar;have zj:=oL b;refine bB (T:=tys) av (by exact aj mixed av (by decide +kernel)) b.ar (fun k (n:Nat)=>⟨[(1,.d (i64 i)),(4,.d .nils),(6,.d (eO l (bI l 0 []))),(9,.d (i64 n)),(46,.d (lF b.ar)),(47,.d (i64 b.ar.length)),(48,.d (i64 k))],[],st⟩) (fun k r n=>n+dF r=dF b.ar) 0 ?_ (by simp) ?_ ?_
    ·exact aw
    ·rintro k y r n Kh hk hr he
     rw[tD]at he;conv=>whnf
     refine ag (fun _=>?_) (fun h=>absurd hk (by simpa using h));conv=>whnf
     refine aG Kh ?_;conv=>whnf
     refine ag (fun h2=>?_) (fun h2=>?_)
     ·rw[if_pos (of_decide_eq_true h2)]at he
      conv=>whnf
      refine ao (((n+1:Nat):Int)) (by(try dsimp only);omega) (wrap_i64 (by(try dsimp only);omega)) ?_;conv=>whnf
      refine ae ?_;conv=>whnf
      exact⟨n+1,by omega,aw⟩
     ·rw[if_neg (of_decide_eq_false h2)]at he
      conv=>whnf
      refine ae ?_;conv=>whnf
      exact⟨n,by omega,aw⟩
    ·rintro n he
     have he:n=dF b.ar:=he;subst he;conv=>whnf
     refine ag (fun h=>absurd h (by simp)) (fun _=>?_);conv=>whnf
     generalize hN:dF b.ar=N at zj ⊢;generalize hF:(fun(n:Nat)=>cZ (bI l 0 []) ⟨(i:Int),(n:Int)⟩ .right)=F;refine ao (((N+1:Nat):Int)) (by(try dsimp only);omega) (wrap_i64 (by(try dsimp only);omega)) ?_;conv=>whnf
     refine cD (T:=tys) av (by exact aj mixed av (by decide +kernel)) (α:=Nat×List Span) (fun z=>⟨[(1,.d (i64 i)),(4,.sl 71 2 0 z.2.length),(6,.d (eO l (bI l 0 []))),(59,.d (i64 (N+1:Nat))),(60,.d (i64 z.1))],[(71,.arr 2 (.dd (z.2.map Span.cells)))],st⟩) (fun z=>z.1<=N+1/\z.2=(List.range z.1).map F) (fun z=>N+1-z.1) (0,[]) ?_ ⟨Nat.zero_le _,rfl⟩ ?_
     ·exact(Wk.born 4 71 2 rfl rfl rfl).trans aw
     rintro ⟨k,acc⟩ ⟨hk,dI⟩;simp only at hk dI;conv=>whnf
     refine ag (fun h3=>?_) (fun h3=>?_)
     ·have h3:k<N+1:=by have:=of_decide_eq_true h3;simp only at this;omega
      have hn:=FI hb (n:=k) (by omega);have Sr:=fun {σ}=>@RH l hR hf _ _ hn (ku l) σ;have hFk:F k=cZ (bI l 0 []) ⟨(i:Int),(k:Int)⟩ .right:=by rw[<- hF]
      rw[<- hFk]at Sr;have AV:acc.length=k:=by rw[dI];simp
      conv=>whnf
      refine af (Dx) rfl rfl ?_;conv=>whnf
      refine af (ds:=[eO l (bI l 0 []),cz.d ⟨(i:Int),(k:Int)⟩,cz.right.d]) Sr rfl rfl ?_;conv=>whnf
      refine ak rfl ?_;conv=>whnf
      refine ak (by simp[bx.len]) ?_;conv=>whnf
      refine aM (decide_eq_true (by
       show((acc.map Span.cells).length+1)*16<=140737488355328;rw[List.length_map];omega)) ?_
      conv=>whnf
      refine ae ?_;conv=>whnf
      refine⟨(k+1,acc ++ [F k]),by simp only;omega,⟨by simp only;omega,by simp only;rw[List.range_succ,List.map_append,dI];rfl⟩,Wk.sub ⟨rfl,?_,rfl,rfl,rfl,trivial⟩ ⟨?_,trivial⟩⟩
      ·show some (V.sl 71 2 0 ((acc.map Span.cells).length+1))=_
       simp
      ·show some (Obj.arr 2 (.dd (acc.map Span.cells ++ [[i64 (F k).lo,i64 (F k).hi]])))=_
       simp[Span.cells]
     ·have h3:¬ k<N+1:=by have:=of_decide_eq_false h3;simp only at this;omega
      have j8:k=N+1:=by omega
      subst j8;subst dI;conv=>whnf
      refine aO 1 (ds:=[dH ((List.range (N+1)).map F),i64 0]) (aC (cH rfl (by simp)) rfl) ⟨⟨rfl,rfl⟩,rfl⟩
 ·rw[if_neg hc]
  refine af (lI l _ _ _ (kl l)) rfl rfl ?_;conv=>whnf
  generalize bC l=E at hc;refine ag (fun _=>?_) (fun h=>absurd hc (by simpa using h));conv=>whnf
  refine gH ?_;exact ai
theorem abG(l:aN)(x:dt):bq Tryz.prog 46 [l.d,x.d] (.tup [o5 (Jl l x).1,i64 (Jl l x).2]):=by
 unfold Jl;by_cases hc:hU l [x]=0
 ·rw[if_pos hc]
  obtain⟨ns,cR⟩:=vr hc;have hR:=fI ns;have xV:=hR.an;have tJ:=cR x (by simp);obtain⟨xi,xk,xb,xy,rfl,hA⟩:=iW.1 tJ;rw[eJ hA];refine aY Tryz.func46 rfl (ft:=V1) 2 fun {σ} Y st=>?_;conv=>whnf
  refine gX (ds:=[l.d,o5 [⟨xi,xk⟩]]) (HI (by simp) hc) 1 [20] rfl rfl ?_;conv=>whnf
  refine af (Qi l (bI l 0 []) hA) rfl rfl ?_;conv=>whnf
  refine af (Bc xy) rfl rfl ?_;conv=>whnf
  by_cases h1:xy.kind=1
  ·rw[if_pos h1]
   have ht:bQ xy = .ifc 214 (.agg [.str xy.word]):=by unfold bQ;rw[if_pos h1]
   rw[ht];conv=>whnf
   refine af (NQ l hR) rfl rfl ?_;conv=>whnf
   cases hf:gV l 0 []with
   | false=>
    simp only[Bool.false_eq_true,if_false];conv=>whnf
    refine gH ?_;exact ai
   | true=>
    simp only[if_true];conv=>whnf
    generalize hT:tC l ⟨xi,xk⟩ 0 l.an=T;refine bB (T:=tys) av (by exact aj mixed av (by decide +kernel)) l.an (fun i (acc:List dt)=>⟨[(2,.ptr 2 0),(3,.ptr 3 0),(4,.sl 100 2 0 acc.length),(6,.d (eO l (bI l 0 []))),(7,.ptr 7 0),(43,.d (bF l.an)),(44,.d (i64 l.an.length)),(45,.d (i64 i))],[(2,.box (.dd l.cells)),(3,.box (.dd (dt.mk xi xk).cells)),(7,.box (.dd [.str xy.word])),(100,.arr 2 (.dd (acc.map dt.cells)))],st⟩) (fun i r acc=>acc++tC l ⟨xi,xk⟩ i r=T/\acc.length<=8*i) [] ?_ ⟨hT,by simp⟩ ?_ ?_
    ·exact(Wk.born 4 100 2 rfl rfl rfl).trans aw
    ·rintro i b r acc hb hi hr ⟨he,AV⟩
     rw[tC]at he;have hB:=hR.book b (List.mem_of_getElem? hb);have SG:=hB.ar;conv=>whnf
     refine ag (fun _=>?_) (fun h=>absurd hi (by simpa using h));conv=>whnf
     refine aG hb ?_;conv=>whnf
     refine bB (T:=tys) av (by exact aj mixed av (by decide +kernel)) b.ar (fun k (acc:List dt)=>⟨[(2,.ptr 2 0),(3,.ptr 3 0),(4,.sl 100 2 0 acc.length),(6,.d (eO l (bI l 0 []))),(7,.ptr 7 0),(9,.d (i64 i)),(43,.d (bF l.an)),(44,.d (i64 l.an.length)),(45,.d (i64 i)),(51,.d (lF b.ar)),(52,.d (i64 b.ar.length)),(53,.d (i64 k))],[(2,.box (.dd l.cells)),(3,.box (.dd (dt.mk xi xk).cells)),(7,.box (.dd [.str xy.word])),(100,.arr 2 (.dd (acc.map dt.cells)))],st⟩) (fun k q acc=>acc++(Ce l ⟨xi,xk⟩ i k q++tC l ⟨xi,xk⟩ (i+1) r)=T/\acc.length<=8*i+k) acc ?_ ⟨he,by omega⟩ ?_ ?_
     ·exact aw
     ·rintro k y q acc hy hk hq ⟨gN,AV⟩
      rw[Ce]at gN;have hA':At l i k b y:=⟨hb,hy⟩;have Kh:=(hB.fV y (List.mem_of_getElem? hy)).2.1;conv=>whnf
      refine ag (fun _=>?_) (fun h=>absurd hk (by simpa using h));conv=>whnf
      refine aG hy ?_;conv=>whnf
      refine af (Bc y) rfl rfl ?_;generalize hSB:N4 l ⟨xi,xk⟩ i k y=SB at gN;unfold N4 at hSB;simp only[eJ hA]at hSB;by_cases k1:y.kind=1
      ·have M4:bQ y = .ifc 214 (.agg [.str y.word]):=by unfold bQ;rw[if_pos k1]
       rw[M4];rw[decide_eq_true k1,Bool.true_and]at hSB;conv=>whnf
       generalize hd:decide (((i:Nat):Int)=(dt.mk (xi:Nat) (xk:Nat)).book)=Dd at hSB ⊢
       cases Dd with
       | true=>
        simp only[Bool.not_true,Bool.false_and]at hSB;subst hSB;simp only[Bool.false_eq_true,if_false]at gN;conv=>whnf
        refine ae ?_;conv=>whnf
        exact⟨acc,⟨gN,by omega⟩,aw⟩
       | false=>
        simp only[Bool.not_false,Bool.true_and]at hSB;conv=>whnf
        generalize hw:decide (y.word=xy.word)=Dw at hSB ⊢
        cases Dw with
        | false=>
         simp only[Bool.false_and]at hSB;subst hSB;simp only[Bool.false_eq_true,if_false]at gN;conv=>whnf
         refine ae ?_;conv=>whnf
         exact⟨acc,⟨gN,by omega⟩,aw⟩
        | true=>
         simp only[Bool.true_and]at hSB;have V6:=fun {σ}=>@Yb l hR hf _ _ _ _ _ _ _ _ hA hA' σ;generalize my l ⟨xi,xk⟩ ⟨i,k⟩=S at V6 hSB;conv=>whnf
         refine af (ds:=[eO l (bI l 0 []),(dt.mk xi xk).d,(dt.mk i k).d]) V6 rfl rfl ?_;conv=>whnf
         have C8:=hR.near;generalize Wt:decide (S.lo<=l.near)=D1 at hSB ⊢
         cases D1 with
         | false=>
          simp only[Bool.false_and]at hSB;subst hSB;simp only[Bool.false_eq_true,if_false]at gN;conv=>whnf
          refine ae ?_;conv=>whnf
          exact⟨acc,⟨gN,by omega⟩,aw⟩
         | true=>
          simp only[Bool.true_and]at hSB;conv=>whnf
          refine ao (-l.near) (by omega) (wrap_i64 (by omega)) ?_;conv=>whnf
          generalize SM:decide (-l.near<=S.hi)=D2 at hSB ⊢
          cases D2 with
          | false=>
           subst hSB;simp only[Bool.false_eq_true,if_false]at gN;conv=>whnf
           refine ae ?_;conv=>whnf
           exact⟨acc,⟨gN,by omega⟩,aw⟩
          | true=>
           subst hSB;simp only[if_true]at gN;conv=>whnf
           refine ak rfl ?_;conv=>whnf
           refine ak (by simp[bx.len]) ?_;conv=>whnf
           refine aM (decide_eq_true (by
            show((acc.map dt.cells).length+1)*16<=140737488355328;rw[List.length_map];omega)) ?_
           conv=>whnf
           refine ae ?_;conv=>whnf
           refine⟨acc ++ [⟨i,k⟩],⟨by rw[List.append_assoc];exact gN,by simp;omega⟩,Wk.sub ⟨rfl,rfl,?_,rfl,rfl,rfl,rfl,rfl,rfl,rfl,rfl,rfl,trivial⟩ ⟨rfl,rfl,rfl,?_,trivial⟩⟩
           ·show some (V.sl 100 2 0 ((acc.map dt.cells).length+1))=_
            simp
           ·show some (Obj.arr 2 (.dd (acc.map dt.cells ++ [[i64 i,i64 k]])))=_
            simp[dt.cells]
      ·rw[decide_eq_false k1,Bool.false_and,Bool.and_false]at hSB
       subst hSB;simp only[Bool.false_eq_true,if_false]at gN;by_cases k2:y.kind=2
       ·have M4:bQ y = .ifc 288 (.agg []):=by unfold bQ;rw[if_neg k1,if_pos k2]
        rw[M4];conv=>whnf
        generalize hd:decide (((i:Nat):Int)=(dt.mk (xi:Nat) (xk:Nat)).book)=Dd
        cases Dd with
        | true=>
         conv=>whnf
         refine ae ?_;conv=>whnf
         exact⟨acc,⟨gN,by omega⟩,aw⟩
        | false=>
         conv=>whnf
         refine ae ?_;conv=>whnf
         exact⟨acc,⟨gN,by omega⟩,aw⟩
       ·have M4:bQ y = .ifc 228 (.agg [.str y.word,i64 y.number]):=by unfold bQ;rw[if_neg k1,if_neg k2,if_pos (by omega)]
        rw[M4];conv=>whnf
        generalize hd:decide (((i:Nat):Int)=(dt.mk (xi:Nat) (xk:Nat)).book)=Dd
        cases Dd with
        | true=>
         conv=>whnf
         refine ae ?_;conv=>whnf
         exact⟨acc,⟨gN,by omega⟩,aw⟩
        | false=>
         conv=>whnf
         refine ae ?_;conv=>whnf
         exact⟨acc,⟨gN,by omega⟩,aw⟩
     ·rintro acc ⟨gN,AV⟩
      rw[Ce,List.nil_append]at gN;conv=>whnf
      refine ag (fun h=>absurd h (by simp)) (fun _=>?_);conv=>whnf
      refine ae ?_;conv=>whnf
      exact⟨acc,⟨gN,by omega⟩,aw⟩
    ·rintro acc ⟨he,AV⟩
     rw[tC,List.append_nil]at he;subst he;conv=>whnf
     refine ag (fun h=>absurd h (by simp)) (fun _=>?_);conv=>whnf
     refine aO 1 (ds:=[o5 acc,i64 0]) (aC (cH rfl (by simp)) rfl) ⟨⟨rfl,rfl⟩,rfl⟩
  ·rw[if_neg h1]
   have hk:=(hR.book xb (List.mem_of_getElem? hA.book)).fV xy (List.mem_of_getElem? hA.fV);by_cases h2:xy.kind=2
   ·have ht:bQ xy = .ifc 288 (.agg []):=by unfold bQ;rw[if_neg h1,if_pos h2]
    rw[ht];conv=>whnf
    refine gH ?_;exact ai
   ·have ht:bQ xy = .ifc 228 (.agg [.str xy.word,i64 xy.number]):=by unfold bQ;rw[if_neg h1,if_neg h2,if_pos (by omega)]
    rw[ht];conv=>whnf
    refine gH ?_;exact ai
 ·rw[if_neg hc]
  refine aY Tryz.func46 rfl (ft:=V1) 2 fun {σ} Y st=>?_;conv=>whnf
  refine gX (ds:=[l.d,o5 [x]]) (HH (by simp) hc) 1 [20] rfl rfl ?_;generalize hU l [x]=E at hc ⊢;conv=>whnf
  refine ag (fun _=>?_) (fun h=>absurd hc (by simpa using h));conv=>whnf
  refine gH ?_;exact ai
end Go.PX
