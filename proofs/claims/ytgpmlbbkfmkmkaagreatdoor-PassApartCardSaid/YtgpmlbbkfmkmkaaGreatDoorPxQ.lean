import Derived.Test.YtgpmlbbkfmkmkaaGreatDoorPxP
import Derived.Test.YtgpmlbbkfmkmkaaGreatDoorPxM
import Derived.Test.YtgpmlbbkfmkmkaaGreatDoorPxN
set_option linter.all false
set_option maxRecDepth 10000
namespace Go.PX
open Go.Proofs
theorem repl_ptr{g:Nat->Option DO}{i o:Nat}{d:D}(hv:jP g (.ptr i o)=some d):repl g (.ptr i o) = .d d:=by
 simp[repl,hv]
set_option maxHeartbeats 4000000 in
theorem pa68o(l:PLog)(hR:LogR l)(wider:Int)(hw:0<=wider/\wider<=1048576)(conf:List Int)(hc:conf.length<1000000):FnU Tryz.prog 68 [.d l.d,.d (i64 wider),.sl 1000000 1 0 conf.length] [(1000000,.arr 1 (.dd (je conf)))] fun v h'=>v = .d (qac l (qY l wider conf))/\h' = [(1000000,.arr 1 (.dd (je conf)))]:=by
 intro σ Y st;refine qaP mixed ql Tryz.func68 rfl (ft:=qrJ) (args:=[.d l.d,.d (i64 wider),.sl 1000000 1 0 conf.length]) (show fnB qrJ Tryz.f68 3=true from by decide +kernel) ?_;conv=>whnf
 have hbl:=hR.books;unfold qY;generalize hRES:qeE l wider conf 0 l.books ⟨[],0,[],[]⟩=RES;have hL0:LInv l wider conf 0 ⟨[],0,[],[]⟩:=⟨⟨rfl,fun j c _ hj=>absurd hj (Nat.not_lt_zero j)⟩,fun num r hr=>(by cases hr),fun j m c y num _ _ _ hj=>absurd hj (Nat.not_lt_zero j),fun e he=>(by cases he),fun j c _ hj=>absurd hj (Nat.not_lt_zero j),fun j c n _ _ hj=>absurd hj (Nat.not_lt_zero j),fun j m c x z _ _ hj=>absurd hj (Nat.not_lt_zero j)⟩;refine zr (T:=tys) ql (by exact qi mixed ql (by decide +kernel)) l.books (fun i (x:LkS)=>⟨[(2,.sl 1000000 1 0 conf.length),(3,.ptr 3 0),(4,.ptr 4 0),(7,.ptr 7 0),(8,.mp 26),(9,.clo 112 [.ptr 7 0,.ptr 4 0]),(29,.d (qR l.books)),(30,.d (i64 l.books.length)),(31,.d (i64 i))],[(3,.box (.dd l.cells)),(4,.box (.dd [i64 wider])),(7,.box (.vv [.ptr 25 0])),(25,.box (.vv [.d (i64 l.near),.d (qR l.books),.sl 900000 5 0 x.steps.length,.sl 900001 1 0 x.pers.length,.d (i64 x.many)])),(900000,.arr 5 (.dd (qu x.steps))),(900001,.arr 1 (.dd (zJ x.pers))),(26,.map (kvV qD PAt.d x.first)),(1000000,.arr 1 (.dd (je conf)))],st⟩)
  (fun i r x=>qeE l wider conf i r x=RES/\LInv l wider conf i x/\x.steps.length<=26*i/\(0<=x.many/\x.many<=9*i)) ⟨[],0,[],[]⟩ ?wk ⟨hRES,hL0,by simp,by simp⟩ ?_ ?_
 case wk=>
  refine(Wk.bornAtD 25 900000 5 [i64 l.near,qR l.books] [.nils,i64 0] rfl rfl rfl rfl rfl).trans ((Wk.bornAt 25 900001 1 [.d (i64 l.near),.d (qR l.books),.sl 900000 5 0 0] [.d (i64 0)] rfl rfl rfl rfl).trans (Wk.sub (by repeat' first|exact trivial|refine⟨?_,?_⟩|rfl|(simp only[List.length_map];rfl)|simp[PX.get]) (by repeat' first|exact trivial|refine⟨?_,?_⟩|rfl|(simp only[List.length_map];rfl)|simp[PX.get])))
 ·rintro i b r x hx hi hr2 ⟨hlk,hI,hst,hmn⟩
  rw[qeE]at hlk;have hB:=hR.book b (List.mem_of_getElem? hx);have hI2:=qjE hx hI;generalize hy:qhE l wider conf i b x=y at hlk hI2;unfold qhE at hy;conv=>whnf
  refine qj (fun _=>?_) (fun h=>absurd hi (by simpa using h));conv=>whnf
  refine qw hx ?_;conv=>whnf
  refine qS (qnF l wider hw x.steps (by omega) x.pers x.many (by omega) ⟨i,0⟩ b.off hB.off) [7,4,25,900000,900001] rfl ?lent rfl ?_
  case lent=>exact⟨_,_,rfl,zQ rfl ⟨⟨rfl,rfl⟩,trivial⟩,_,_,rfl,rfl,_,_,rfl,zQ rfl ⟨rfl,rfl,⟨rfl,rfl,rfl,rfl⟩,⟨rfl,rfl,rfl,rfl⟩,rfl,trivial⟩,_,_,rfl,rfl,_,_,rfl,rfl,rfl⟩
  conv=>whnf
  have hE0:=qlg hx hI;generalize hER:qeD l wider conf i b x.pers 0 b.ents ⟨x.steps++jl wider ⟨i,0⟩ b.off,x.many+1,x.first,⟨i,0⟩,[],[]⟩=ER at hy;simp only at hy;refine zr (T:=tys) ql (by exact qi mixed ql (by decide +kernel)) b.ents (fun k (e:LkE)=>⟨[(2,.sl 1000000 1 0 conf.length),(3,.ptr 3 0),(4,.ptr 4 0),(7,.ptr 7 0),(8,.mp 26),(9,.clo 112 [.ptr 7 0,.ptr 4 0]),(29,.d (qR l.books)),(30,.d (i64 l.books.length)),(31,.d (i64 i)),(10,.d (i64 i)),(11,.ptr 11 0),(12,.ptr 12 0),(13,.sl 55 2 0 e.of.length),(14,.mp 43),(45,.d (qeC b.ents)),(46,.d (i64 b.ents.length)),(47,.d (i64 k))],[(3,.box (.dd l.cells)),(4,.box (.dd [i64 wider])),(7,.box (.vv [.ptr 25 0])),(25,.box (.vv [.d (i64 l.near),.d (qR l.books),.sl 900000 5 0 e.steps.length,.sl 900001 1 0 x.pers.length,.d (i64 e.many)])),(900000,.arr 5 (.dd (qu e.steps))),(900001,.arr 1 (.dd (zJ x.pers))),(26,.map (kvV qD PAt.d e.first)),(11,.box (.dd b.cells)),(12,.box (.dd e.now.cells)),(43,.map (kvV qD qD e.mine)),(55,.arr 2 (.dd (zN e.of))),(1000000,.arr 1 (.dd (je conf)))],st⟩)
   (fun k r e=>EInv l wider conf i k b x.pers e/\qeD l wider conf i b x.pers k r e=ER/\e.steps.length<=26*i+2+3*k/\(0<=e.many/\e.many<=9*i+1+k) /\ ∀ num,(zu e.mine num).getD 0<=k) ⟨x.steps++jl wider ⟨i,0⟩ b.off,x.many+1,x.first,⟨i,0⟩,[],[]⟩ ?wk2 ⟨hE0,hER,by simp[jl];omega,by simp only;omega,fun num=>by show(0:Int)<=_;omega⟩ ?_ ?_
  case wk2=>
   refine(Wk.born 13 55 2 rfl rfl rfl).trans ((Wk.move 102688 900000 rfl rfl).trans (Wk.sub (by repeat' first|exact trivial|refine⟨?_,?_⟩|rfl|(simp only[List.length_map];rfl)|simp[PX.get]) (by repeat' first|exact trivial|refine⟨?_,?_⟩|rfl|(simp only[List.length_map];rfl)|simp[PX.get])))
  ·rintro k y r e hyk hk hr3 ⟨hE,hes,hsl,hem,hmi⟩
   rw[qeD]at hes;have hE2:=qlT hI.pers.2 hx hyk hE;generalize hnx:qnQ l wider conf i b x.pers k y e=e2 at hes hE2;unfold qnQ at hnx;simp only at hnx;have hK2:=qqj hx hyk hE;generalize hST:(if k=0 then e.steps else e.steps ++ [(⟨((e.of ++ [e.now])[k-1]?).getD .right,e.now,y.shown-((b.ents[k-1]?).getD ⟨0,0,.empty,0⟩).shown⟩:zt)])=ST at hnx hK2;conv=>whnf
   refine qj (fun _=>?_) (fun h=>absurd hk (by simpa using h));conv=>whnf
   refine qw hyk ?_;conv=>whnf
   refine qn rfl ?_;conv=>whnf
   have hofl:e.of.length=k:=by rw[hE.of];simp
   have hk8:k<8:=by have:=hB.ents;omega
   have hy0:=hB.ent y (List.mem_of_getElem? hyk);refine qn (by simp[Els.len,zN]) ?_;conv=>whnf
   refine zL (decide_eq_true (by
    show((zN e.of).length+1)*16<=140737488355328;have:=hB.ents;simp[zN];omega)) ?_
   conv=>whnf
   refine qj (fun h1=>?_) (fun h1=>?_)
   ·have h1:0<k:=by have:=of_decide_eq_true h1;omega
    conv=>whnf
    refine qm ((k-1:Nat):Int) (by omega) (qb (by omega)) ?_;conv=>whnf
    obtain⟨z,hz⟩:∃ z,b.ents[k-1]?=some z:=⟨_,List.getElem?_eq_getElem (by omega)⟩;have hz0:=hB.ent z (List.mem_of_getElem? hz);have hofk:(e.of ++ [e.now])[k-1]?=some ⟨i,qJ b (k-1)⟩:=by
     rw[List.getElem?_append_left (by omega),hE.of,List.getElem?_map,List.getElem?_range (by omega)];rfl
    refine qj (fun _=>?_) (fun h=>absurd h (by
     show ¬ ((decide (0<=((k-1:Nat):Int))&&decide (((k-1:Nat):Int)<(((zN e.of).length+1:Nat):Int)))=false);simp[zN,hofl];omega))
    conv=>whnf
    refine jb (Per.cells ⟨i,qJ b (k-1)⟩) (by
     show(zN e.of ++ [e.now.cells])[0+((k-1:Nat):Int).toNat]?=_;have:zN e.of ++ [e.now.cells]=zN (e.of ++ [e.now]):=by simp[zN]
     rw[this,Int.toNat_natCast,Nat.zero_add];unfold zN;rw[List.getElem?_map,hofk];rfl) ?_
    conv=>whnf
    refine qm ((k-1:Nat):Int) (by omega) (qb (by omega)) ?_;conv=>whnf
    refine qI z.cells ⟨by omega,by rw[Int.toNat_natCast,List.getElem?_map,hz];rfl⟩ ?_;conv=>whnf
    refine qf (qb (by(try dsimp only);omega)) ?_;conv=>whnf
    refine qn rfl ?_;conv=>whnf
    refine qn (by simp[Els.len,qu]) ?_;conv=>whnf
    refine zL (decide_eq_true (by
     show((qu e.steps).length+1)*40<=140737488355328;simp[qu];omega)) ?_
    conv=>whnf
    rw[if_neg (by omega),hofk,hz]at hST;simp only[Option.getD_some]at hST;refine CallA.wkK ?_;refine qk (qpd y) rfl rfl ?_;refine⟨⟨[(2,.sl 1000000 1 0 conf.length),(3,.ptr 3 0),(4,.ptr 4 0),(7,.ptr 7 0),(8,.mp 26),(9,.clo 112 [.ptr 7 0,.ptr 4 0]),(29,.d (qR l.books)),(30,.d (i64 l.books.length)),(31,.d (i64 i)),(10,.d (i64 i)),(11,.ptr 11 0),(12,.ptr 12 0),(13,.sl 55 2 0 (e.of ++ [e.now]).length),(14,.mp 43),(15,.d (i64 k)),(16,.ptr 16 0),(45,.d (qeC b.ents)),(46,.d (i64 b.ents.length)),(47,.d (i64 k)),(85,.d (zj y))],[(3,.box (.dd l.cells)),(4,.box (.dd [i64 wider])),(7,.box (.vv [.ptr 25 0])),(25,.box (.vv [.d (i64 l.near),.d (qR l.books),.sl 900000 5 0 ST.length,.sl 900001 1 0 x.pers.length,.d (i64 e.many)])),(900000,.arr 5 (.dd (qu ST))),(900001,.arr 1 (.dd (zJ x.pers))),(26,.map (kvV qD PAt.d e.first)),(11,.box (.dd b.cells)),(12,.box (.dd e.now.cells)),(16,.box (.dd y.cells)),(43,.map (kvV qD qD e.mine)),(55,.arr 2 (.dd (zN (e.of ++ [e.now])))),(1000000,.arr 1 (.dd (je conf)))],st⟩,(Wk.move 81 900000 rfl rfl).trans (Wk.sub ⟨rfl,rfl,rfl,rfl,rfl,rfl,rfl,rfl,rfl,rfl,rfl,rfl,?_,rfl,rfl,rfl,rfl,rfl,rfl,rfl,trivial⟩ ⟨rfl,rfl,rfl,?_,?_,rfl,rfl,rfl,rfl,rfl,rfl,?_,rfl,trivial⟩),?_⟩
    ·show some (V.sl 55 2 0 ((zN e.of).length+1))=_
     simp[zN]
    ·show some (Obj.box (Cells.vv [.d (i64 l.near),.d (qR l.books),.sl 900000 5 0 ((qu e.steps).length+1),.sl 900001 1 0 x.pers.length,.d (i64 e.many)]))=_
     rw[<- hST];simp[qu]
    ·rw[<- hST]
     show some (Obj.arr 5 (Els.dd (qu e.steps ++ [[i64 i,i64 (qJ b (k-1):Nat),i64 e.now.book,i64 e.now.n,i64 (y.shown-z.shown)]])))=_;unfold qu;rw[List.map_append];rfl
    ·show some (Obj.arr 2 (Els.dd (zN e.of ++ [e.now.cells])))=_
     simp[zN]
    have hstl:ST.length<=e.steps.length+1:=by rw[<- hST];simp
    by_cases h2:y.kind=2
    ·rw[if_pos h2]at hnx
     have ht:zj y = .ifc 175 (.agg []):=by unfold zj;rw[if_neg (by omega),if_pos h2]
     rw[ht];have hpo:=zE b k;have hse:=qaL b;have hen:=hB.ents;have hnn:e.now.n=(qJ b k:Nat):=by rw[hE.now]
     conv=>whnf
     refine qf (qb (by(try dsimp only);omega)) ?_;conv=>whnf
     refine qS (qnF l wider hw ST (by omega) x.pers e.many (by omega) ⟨e.now.book,e.now.n+1⟩ b.set hB.set) [7,4,25,900000,900001] rfl ?lent rfl ?_
     case lent=>exact⟨_,_,rfl,zQ rfl ⟨⟨rfl,rfl⟩,trivial⟩,_,_,rfl,rfl,_,_,rfl,zQ rfl ⟨rfl,rfl,⟨rfl,rfl,rfl,rfl⟩,⟨rfl,rfl,rfl,rfl⟩,rfl,trivial⟩,_,_,rfl,rfl,_,_,rfl,rfl,rfl⟩
     conv=>whnf
     refine qf (qb (by(try dsimp only);omega)) ?_;conv=>whnf
     subst hnx;refine⟨_,⟨hE2,hes,?_,?_,fun num=>by have:=hmi num;simp only;omega⟩,?_⟩
     ·simp[jl];omega
     ·simp only;omega
     ·exact(Wk.move 106208 900000 rfl rfl).trans (Wk.sub ⟨rfl,rfl,rfl,rfl,rfl,rfl,rfl,rfl,rfl,rfl,rfl,rfl,rfl,rfl,rfl,rfl,rfl,trivial⟩ ⟨rfl,rfl,rfl,rfl,rfl,rfl,rfl,rfl,rfl,rfl,rfl,rfl,trivial⟩)
    ·rw[if_neg h2]at hnx
     by_cases h3:y.kind=3
     ·rw[if_pos h3]at hnx
      have ht:zj y = .ifc 156 (.agg [.str y.word,i64 y.number]):=by unfold zj;rw[if_neg (by omega),if_neg h2,if_pos h3]
      rw[ht];have hmn:=hmi y.number;have hm0:=(hE.mine y.number).1;generalize hN:(zu e.mine y.number).getD 0=N at hnx hmn hm0;have hmi2:∀ num,(zu (jL e.mine y.number (N+1)) num).getD 0<=((k+1:Nat):Int):=fun num=>by
       rw[zK]
       split
       ·simp only[Option.getD_some];omega
       ·have:=hmi num;omega
      conv=>whnf
      cases hgm:zu e.mine y.number with
      | none=>
       have hN0:N=0:=by rw[<- hN,hgm];rfl
       have hput:=zf (kd:=qD) (vd:=qD) (N+1) hgm;refine⟨none,qt (kd:=qD) qv hgm 0,?_⟩;conv=>whnf
       refine qm (N+1) (by omega) (qb (by omega)) ?_;conv=>whnf
       refine⟨none,qt (kd:=qD) qv hgm 0,?_⟩;conv=>whnf
       have hput2:kvV qD qD e.mine ++ [(i64 y.number,i64 (N+1))]=kvV qD qD (jL e.mine y.number (N+1)):=hput;rw[hput2];obtain⟨iz,_,hz1,_⟩:=qC (kd:=qD) (vd:=qD) qv (show zu (jL e.mine y.number (N+1)) y.number=some (N+1) by rw[zK,if_pos rfl]) 0;refine⟨_,hz1,?_⟩;conv=>whnf
       refine qj (fun h5=>?_) (fun h5=>?_)
       ·have h5:1<N+1:=of_decide_eq_true h5
        rw[if_pos (.inl (by omega))]at hnx;conv=>whnf
        refine qf (qb (by(try dsimp only);omega)) ?_;conv=>whnf
        subst hnx;exact⟨_,⟨hE2,hes,by simp only;omega,by simp only;omega,hmi2⟩,(Wk.sub ⟨rfl,rfl,rfl,rfl,rfl,rfl,rfl,rfl,rfl,rfl,rfl,rfl,rfl,rfl,rfl,rfl,rfl,trivial⟩ ⟨rfl,rfl,rfl,rfl,rfl,rfl,rfl,rfl,rfl,rfl,rfl,rfl,trivial⟩)⟩
       ·have h5:¬ 1<N+1:=of_decide_eq_false h5
        conv=>whnf
        refine qs (ds:=[qU conf,i64 y.number]) (qpQ conf y.number (by omega)) rfl 1 (qH (jq rfl (by simp[je])) rfl) ?_;conv=>whnf
        refine qj (fun h6=>?_) (fun h6=>?_)
        ·have h6:y.number∈conf:=of_decide_eq_true h6
         rw[if_pos (.inr h6)]at hnx;conv=>whnf
         refine qf (qb (by(try dsimp only);omega)) ?_;conv=>whnf
         subst hnx;exact⟨_,⟨hE2,hes,by simp only;omega,by simp only;omega,hmi2⟩,(Wk.sub ⟨rfl,rfl,rfl,rfl,rfl,rfl,rfl,rfl,rfl,rfl,rfl,rfl,rfl,rfl,rfl,rfl,rfl,trivial⟩ ⟨rfl,rfl,rfl,rfl,rfl,rfl,rfl,rfl,rfl,rfl,rfl,rfl,trivial⟩)⟩
        ·have h6:¬ y.number∈conf:=of_decide_eq_false h6
         rw[if_neg (fun h=>h.elim (fun h=>h5 (by omega)) h6)]at hnx;conv=>whnf
         cases hgf:zu e.first y.number with
         | none=>
          rw[hgf]at hnx;simp only at hnx;have hpf:=zf (kd:=qD) (vd:=PAt.d) (⟨i,k⟩:PAt) hgf;refine⟨none,qt (kd:=qD) qv hgf 0,?_⟩;conv=>whnf
          refine⟨none,qt (kd:=qD) qv hgf 0,?_⟩;conv=>whnf
          have hpf2:kvV qD PAt.d e.first ++ [(i64 y.number,PAt.d ⟨i,k⟩)]=kvV qD PAt.d (jL e.first y.number ⟨i,k⟩):=hpf
          refine qf (qb (by(try dsimp only);omega)) ?_;conv=>whnf
          subst hnx;refine⟨_,⟨hE2,hes,by simp only;omega,by simp only;omega,hmi2⟩,?_⟩;simp only;rw[<- hpf2];exact(Wk.sub ⟨rfl,rfl,rfl,rfl,rfl,rfl,rfl,rfl,rfl,rfl,rfl,rfl,rfl,rfl,rfl,rfl,rfl,trivial⟩ ⟨rfl,rfl,rfl,rfl,rfl,rfl,rfl,rfl,rfl,rfl,rfl,rfl,trivial⟩)
         | some r0=>
          rw[hgf]at hnx;simp only at hnx;obtain⟨j0,m0,c0,x0,hr0,hx0,hf0,-,hah⟩:=hE.fst _ _ hgf;obtain⟨iy,_,hy1,_⟩:=qC (kd:=qD) (vd:=PAt.d) qv hgf 0;refine⟨_,hy1,?_⟩;conv=>whnf
          subst hr0;have hml:=(List.getElem?_eq_some_iff.1 hx0.ent).1;have hjl:=(List.getElem?_eq_some_iff.1 hx0.book).1;refine qI c0.cells ⟨by show(0:Int)<=((j0:Nat):Int);omega,by show(l.books.map PBook.cells)[((j0:Nat):Int).toNat]?=_;rw[Int.toNat_natCast,List.getElem?_map,hx0.book];rfl⟩ ?_;conv=>whnf
          refine qI x0.cells ⟨by show(0:Int)<=((m0:Nat):Int);omega,by show(c0.ents.map PEnt.cells)[((m0:Nat):Int).toNat]?=_;rw[Int.toNat_natCast,List.getElem?_map,hx0.ent];rfl⟩ ?_;conv=>whnf
          have hxs:=(hR.book c0 (List.mem_of_getElem? hx0.book)).ent x0 (List.mem_of_getElem? hx0.ent);have hj0:j0<i:=by
           rcases hah with hah | ⟨hji,hah⟩
           ·exact hah
           ·have hb0:=hx0.book
            rw[hji]at hb0;have hcb:c0=b:=Option.some.inj (hb0.symm.trans hx);have h7:=(hE.mine y.number).2.2 ⟨m0,hah,hcb▸hf0⟩;rw[hN]at h7;omega
          have hpj:=hI.pers.2 j0 c0 hx0.book hj0;refine qm (y.shown-x0.shown) rfl (qb (by omega)) ?_;conv=>whnf
          refine qj (fun _=>?_) (fun h=>absurd h (by
           show ¬ ((decide (0<=((j0:Nat):Int))&&decide (((j0:Nat):Int)<((x.pers.length:Nat):Int)))=false);have:=hI.pers.1;simp;omega))
          conv=>whnf
          refine jb [.vs ((jM j0 c0).map Per.cells)] (by
           show(zJ x.pers)[0+((j0:Nat):Int).toNat]?=_;unfold zJ;rw[Int.toNat_natCast,Nat.zero_add,List.getElem?_map,hpj];rfl) ?_
          conv=>whnf
          refine qI (Per.cells ⟨j0,(qJ c0 m0:Nat)⟩) ⟨by show(0:Int)<=((m0:Nat):Int);omega,by show((jM j0 c0).map Per.cells)[((m0:Nat):Int).toNat]?=_;rw[Int.toNat_natCast,List.getElem?_map,jG hml];rfl⟩ ?_;conv=>whnf
          refine qm (-(y.shown-x0.shown)) (by omega) (qb (by omega)) ?_;conv=>whnf
          refine qn rfl ?_;conv=>whnf
          refine qn (by simp[Els.len,qu]) ?_;conv=>whnf
          refine zL (decide_eq_true (by
           show((qu ST).length+2)*40<=140737488355328;simp[qu];omega)) ?_
          conv=>whnf
          refine qf (qb (by(try dsimp only);omega)) ?_;conv=>whnf
          rw[qaK hx0 hpj,jc hx0]at hnx;subst hnx;refine⟨_,⟨hE2,hes,by simp only[List.length_append,List.length_cons,List.length_nil];omega,by simp only;omega,hmi2⟩,?_⟩;have hsc:∀ p q:zt,qu (ST ++ [p,q])=qu ST++qu [p,q]:=fun p q=>by unfold qu;rw[List.map_append]
          simp only[hsc];refine(Wk.move 174 900000 rfl rfl).trans (Wk.sub ⟨rfl,rfl,rfl,rfl,rfl,rfl,rfl,rfl,rfl,rfl,rfl,rfl,rfl,rfl,rfl,rfl,rfl,trivial⟩ ⟨rfl,rfl,rfl,?_,rfl,rfl,rfl,rfl,rfl,rfl,rfl,rfl,trivial⟩);show some (Obj.box (Cells.vv [.d (i64 l.near),.d (qR l.books),.sl 900000 5 0 ((qu ST).length+2),.sl 900001 1 0 x.pers.length,.d (i64 e.many)]))=_;simp[qu]
      | some n0=>
       have hN0:N=n0:=by rw[<- hN,hgm];rfl
       obtain⟨ix,_,hx1,hx2,_⟩:=qC (kd:=qD) (vd:=qD) qv hgm 0;refine⟨_,hx1,?_⟩;conv=>whnf
       refine qm (N+1) (by rw[hN0]) (qb (by omega)) ?_;conv=>whnf
       refine⟨_,hx1,?_⟩;conv=>whnf
       have hput2:(kvV qD qD e.mine).set (0+ix,qD n0).fst (i64 y.number,i64 (N+1))=kvV qD qD (jL e.mine y.number (N+1)):=by
        show(kvV qD qD e.mine).set (0+ix) _=_;rw[Nat.zero_add];exact hx2 (N+1)
       rw[hput2];obtain⟨iz,_,hz1,_⟩:=qC (kd:=qD) (vd:=qD) qv (show zu (jL e.mine y.number (N+1)) y.number=some (N+1) by rw[zK,if_pos rfl]) 0;refine⟨_,hz1,?_⟩;conv=>whnf
       refine qj (fun h5=>?_) (fun h5=>?_)
       ·have h5:1<N+1:=of_decide_eq_true h5
        rw[if_pos (.inl (by omega))]at hnx;conv=>whnf
        refine qf (qb (by(try dsimp only);omega)) ?_;conv=>whnf
        subst hnx;exact⟨_,⟨hE2,hes,by simp only;omega,by simp only;omega,hmi2⟩,(Wk.sub ⟨rfl,rfl,rfl,rfl,rfl,rfl,rfl,rfl,rfl,rfl,rfl,rfl,rfl,rfl,rfl,rfl,rfl,trivial⟩ ⟨rfl,rfl,rfl,rfl,rfl,rfl,rfl,rfl,rfl,rfl,rfl,rfl,trivial⟩)⟩
       ·have h5:¬ 1<N+1:=of_decide_eq_false h5
        conv=>whnf
        refine qs (ds:=[qU conf,i64 y.number]) (qpQ conf y.number (by omega)) rfl 1 (qH (jq rfl (by simp[je])) rfl) ?_;conv=>whnf
        refine qj (fun h6=>?_) (fun h6=>?_)
        ·have h6:y.number∈conf:=of_decide_eq_true h6
         rw[if_pos (.inr h6)]at hnx;conv=>whnf
         refine qf (qb (by(try dsimp only);omega)) ?_;conv=>whnf
         subst hnx;exact⟨_,⟨hE2,hes,by simp only;omega,by simp only;omega,hmi2⟩,(Wk.sub ⟨rfl,rfl,rfl,rfl,rfl,rfl,rfl,rfl,rfl,rfl,rfl,rfl,rfl,rfl,rfl,rfl,rfl,trivial⟩ ⟨rfl,rfl,rfl,rfl,rfl,rfl,rfl,rfl,rfl,rfl,rfl,rfl,trivial⟩)⟩
        ·have h6:¬ y.number∈conf:=of_decide_eq_false h6
         rw[if_neg (fun h=>h.elim (fun h=>h5 (by omega)) h6)]at hnx;conv=>whnf
         cases hgf:zu e.first y.number with
         | none=>
          rw[hgf]at hnx;simp only at hnx;have hpf:=zf (kd:=qD) (vd:=PAt.d) (⟨i,k⟩:PAt) hgf;refine⟨none,qt (kd:=qD) qv hgf 0,?_⟩;conv=>whnf
          refine⟨none,qt (kd:=qD) qv hgf 0,?_⟩;conv=>whnf
          have hpf2:kvV qD PAt.d e.first ++ [(i64 y.number,PAt.d ⟨i,k⟩)]=kvV qD PAt.d (jL e.first y.number ⟨i,k⟩):=hpf
          refine qf (qb (by(try dsimp only);omega)) ?_;conv=>whnf
          subst hnx;refine⟨_,⟨hE2,hes,by simp only;omega,by simp only;omega,hmi2⟩,?_⟩;simp only;rw[<- hpf2];exact(Wk.sub ⟨rfl,rfl,rfl,rfl,rfl,rfl,rfl,rfl,rfl,rfl,rfl,rfl,rfl,rfl,rfl,rfl,rfl,trivial⟩ ⟨rfl,rfl,rfl,rfl,rfl,rfl,rfl,rfl,rfl,rfl,rfl,rfl,trivial⟩)
         | some r0=>
          rw[hgf]at hnx;simp only at hnx;obtain⟨j0,m0,c0,x0,hr0,hx0,hf0,-,hah⟩:=hE.fst _ _ hgf;obtain⟨iy,_,hy1,_⟩:=qC (kd:=qD) (vd:=PAt.d) qv hgf 0;refine⟨_,hy1,?_⟩;conv=>whnf
          subst hr0;have hml:=(List.getElem?_eq_some_iff.1 hx0.ent).1;have hjl:=(List.getElem?_eq_some_iff.1 hx0.book).1;refine qI c0.cells ⟨by show(0:Int)<=((j0:Nat):Int);omega,by show(l.books.map PBook.cells)[((j0:Nat):Int).toNat]?=_;rw[Int.toNat_natCast,List.getElem?_map,hx0.book];rfl⟩ ?_;conv=>whnf
          refine qI x0.cells ⟨by show(0:Int)<=((m0:Nat):Int);omega,by show(c0.ents.map PEnt.cells)[((m0:Nat):Int).toNat]?=_;rw[Int.toNat_natCast,List.getElem?_map,hx0.ent];rfl⟩ ?_;conv=>whnf
          have hxs:=(hR.book c0 (List.mem_of_getElem? hx0.book)).ent x0 (List.mem_of_getElem? hx0.ent);have hj0:j0<i:=by
           rcases hah with hah | ⟨hji,hah⟩
           ·exact hah
           ·have hb0:=hx0.book
            rw[hji]at hb0;have hcb:c0=b:=Option.some.inj (hb0.symm.trans hx);have h7:=(hE.mine y.number).2.2 ⟨m0,hah,hcb▸hf0⟩;rw[hN]at h7;omega
          have hpj:=hI.pers.2 j0 c0 hx0.book hj0;refine qm (y.shown-x0.shown) rfl (qb (by omega)) ?_;conv=>whnf
          refine qj (fun _=>?_) (fun h=>absurd h (by
           show ¬ ((decide (0<=((j0:Nat):Int))&&decide (((j0:Nat):Int)<((x.pers.length:Nat):Int)))=false);have:=hI.pers.1;simp;omega))
          conv=>whnf
          refine jb [.vs ((jM j0 c0).map Per.cells)] (by
           show(zJ x.pers)[0+((j0:Nat):Int).toNat]?=_;unfold zJ;rw[Int.toNat_natCast,Nat.zero_add,List.getElem?_map,hpj];rfl) ?_
          conv=>whnf
          refine qI (Per.cells ⟨j0,(qJ c0 m0:Nat)⟩) ⟨by show(0:Int)<=((m0:Nat):Int);omega,by show((jM j0 c0).map Per.cells)[((m0:Nat):Int).toNat]?=_;rw[Int.toNat_natCast,List.getElem?_map,jG hml];rfl⟩ ?_;conv=>whnf
          refine qm (-(y.shown-x0.shown)) (by omega) (qb (by omega)) ?_;conv=>whnf
          refine qn rfl ?_;conv=>whnf
          refine qn (by simp[Els.len,qu]) ?_;conv=>whnf
          refine zL (decide_eq_true (by
           show((qu ST).length+2)*40<=140737488355328;simp[qu];omega)) ?_
          conv=>whnf
          refine qf (qb (by(try dsimp only);omega)) ?_;conv=>whnf
          rw[qaK hx0 hpj,jc hx0]at hnx;subst hnx;refine⟨_,⟨hE2,hes,by simp only[List.length_append,List.length_cons,List.length_nil];omega,by simp only;omega,hmi2⟩,?_⟩;have hsc:∀ p q:zt,qu (ST ++ [p,q])=qu ST++qu [p,q]:=fun p q=>by unfold qu;rw[List.map_append]
          simp only[hsc];refine(Wk.move 174 900000 rfl rfl).trans (Wk.sub ⟨rfl,rfl,rfl,rfl,rfl,rfl,rfl,rfl,rfl,rfl,rfl,rfl,rfl,rfl,rfl,rfl,rfl,trivial⟩ ⟨rfl,rfl,rfl,?_,rfl,rfl,rfl,rfl,rfl,rfl,rfl,rfl,trivial⟩);show some (Obj.box (Cells.vv [.d (i64 l.near),.d (qR l.books),.sl 900000 5 0 ((qu ST).length+2),.sl 900001 1 0 x.pers.length,.d (i64 e.many)]))=_;simp[qu]
     ·rw[if_neg h3]at hnx
      have h1k:y.kind=1:=by omega
      have ht:zj y = .ifc 138 (.agg [.str y.word]):=by unfold zj;rw[if_pos h1k]
      rw[ht];conv=>whnf
      refine qf (qb (by(try dsimp only);omega)) ?_;conv=>whnf
      subst hnx;exact⟨_,⟨hE2,hes,by simp only;omega,by simp only;omega,fun num=>by have:=hmi num;simp only;omega⟩,(Wk.sub ⟨rfl,rfl,rfl,rfl,rfl,rfl,rfl,rfl,rfl,rfl,rfl,rfl,rfl,rfl,rfl,rfl,rfl,trivial⟩ ⟨rfl,rfl,rfl,rfl,rfl,rfl,rfl,rfl,rfl,rfl,rfl,rfl,trivial⟩)⟩
   ·have h1:k=0:=by have:=of_decide_eq_false h1;omega
    rw[if_pos h1]at hST;conv=>whnf
    refine CallA.wkK ?_;refine qk (qpd y) rfl rfl ?_;refine⟨⟨[(2,.sl 1000000 1 0 conf.length),(3,.ptr 3 0),(4,.ptr 4 0),(7,.ptr 7 0),(8,.mp 26),(9,.clo 112 [.ptr 7 0,.ptr 4 0]),(29,.d (qR l.books)),(30,.d (i64 l.books.length)),(31,.d (i64 i)),(10,.d (i64 i)),(11,.ptr 11 0),(12,.ptr 12 0),(13,.sl 55 2 0 (e.of ++ [e.now]).length),(14,.mp 43),(15,.d (i64 k)),(16,.ptr 16 0),(45,.d (qeC b.ents)),(46,.d (i64 b.ents.length)),(47,.d (i64 k)),(85,.d (zj y))],[(3,.box (.dd l.cells)),(4,.box (.dd [i64 wider])),(7,.box (.vv [.ptr 25 0])),(25,.box (.vv [.d (i64 l.near),.d (qR l.books),.sl 900000 5 0 ST.length,.sl 900001 1 0 x.pers.length,.d (i64 e.many)])),(900000,.arr 5 (.dd (qu ST))),(900001,.arr 1 (.dd (zJ x.pers))),(26,.map (kvV qD PAt.d e.first)),(11,.box (.dd b.cells)),(12,.box (.dd e.now.cells)),(16,.box (.dd y.cells)),(43,.map (kvV qD qD e.mine)),(55,.arr 2 (.dd (zN (e.of ++ [e.now])))),(1000000,.arr 1 (.dd (je conf)))],st⟩,Wk.sub ⟨rfl,rfl,rfl,rfl,rfl,rfl,rfl,rfl,rfl,rfl,rfl,rfl,?_,rfl,rfl,rfl,rfl,rfl,rfl,rfl,trivial⟩ ⟨rfl,rfl,rfl,?_,?_,rfl,rfl,rfl,rfl,rfl,rfl,?_,rfl,trivial⟩,?_⟩
    ·show some (V.sl 55 2 0 ((zN e.of).length+1))=_
     simp[zN]
    ·rw[<- hST];rfl
    ·rw[<- hST];rfl
    ·show some (Obj.arr 2 (Els.dd (zN e.of ++ [e.now.cells])))=_
     simp[zN]
    have hstl:ST.length<=e.steps.length+1:=by rw[<- hST];simp
    by_cases h2:y.kind=2
    ·rw[if_pos h2]at hnx
     have ht:zj y = .ifc 175 (.agg []):=by unfold zj;rw[if_neg (by omega),if_pos h2]
     rw[ht];have hpo:=zE b k;have hse:=qaL b;have hen:=hB.ents;have hnn:e.now.n=(qJ b k:Nat):=by rw[hE.now]
     conv=>whnf
     refine qf (qb (by(try dsimp only);omega)) ?_;conv=>whnf
     refine qS (qnF l wider hw ST (by omega) x.pers e.many (by omega) ⟨e.now.book,e.now.n+1⟩ b.set hB.set) [7,4,25,900000,900001] rfl ?lent rfl ?_
     case lent=>exact⟨_,_,rfl,zQ rfl ⟨⟨rfl,rfl⟩,trivial⟩,_,_,rfl,rfl,_,_,rfl,zQ rfl ⟨rfl,rfl,⟨rfl,rfl,rfl,rfl⟩,⟨rfl,rfl,rfl,rfl⟩,rfl,trivial⟩,_,_,rfl,rfl,_,_,rfl,rfl,rfl⟩
     conv=>whnf
     refine qf (qb (by(try dsimp only);omega)) ?_;conv=>whnf
     subst hnx;refine⟨_,⟨hE2,hes,?_,?_,fun num=>by have:=hmi num;simp only;omega⟩,?_⟩
     ·simp[jl];omega
     ·simp only;omega
     ·exact(Wk.move 106208 900000 rfl rfl).trans (Wk.sub ⟨rfl,rfl,rfl,rfl,rfl,rfl,rfl,rfl,rfl,rfl,rfl,rfl,rfl,rfl,rfl,rfl,rfl,trivial⟩ ⟨rfl,rfl,rfl,rfl,rfl,rfl,rfl,rfl,rfl,rfl,rfl,rfl,trivial⟩)
    ·rw[if_neg h2]at hnx
     by_cases h3:y.kind=3
     ·rw[if_pos h3]at hnx
      have ht:zj y = .ifc 156 (.agg [.str y.word,i64 y.number]):=by unfold zj;rw[if_neg (by omega),if_neg h2,if_pos h3]
      rw[ht];have hmn:=hmi y.number;have hm0:=(hE.mine y.number).1;generalize hN:(zu e.mine y.number).getD 0=N at hnx hmn hm0;have hmi2:∀ num,(zu (jL e.mine y.number (N+1)) num).getD 0<=((k+1:Nat):Int):=fun num=>by
       rw[zK]
       split
       ·simp only[Option.getD_some];omega
       ·have:=hmi num;omega
      conv=>whnf
      cases hgm:zu e.mine y.number with
      | none=>
       have hN0:N=0:=by rw[<- hN,hgm];rfl
       have hput:=zf (kd:=qD) (vd:=qD) (N+1) hgm;refine⟨none,qt (kd:=qD) qv hgm 0,?_⟩;conv=>whnf
       refine qm (N+1) (by omega) (qb (by omega)) ?_;conv=>whnf
       refine⟨none,qt (kd:=qD) qv hgm 0,?_⟩;conv=>whnf
       have hput2:kvV qD qD e.mine ++ [(i64 y.number,i64 (N+1))]=kvV qD qD (jL e.mine y.number (N+1)):=hput;rw[hput2];obtain⟨iz,_,hz1,_⟩:=qC (kd:=qD) (vd:=qD) qv (show zu (jL e.mine y.number (N+1)) y.number=some (N+1) by rw[zK,if_pos rfl]) 0;refine⟨_,hz1,?_⟩;conv=>whnf
       refine qj (fun h5=>?_) (fun h5=>?_)
       ·have h5:1<N+1:=of_decide_eq_true h5
        rw[if_pos (.inl (by omega))]at hnx;conv=>whnf
        refine qf (qb (by(try dsimp only);omega)) ?_;conv=>whnf
        subst hnx;exact⟨_,⟨hE2,hes,by simp only;omega,by simp only;omega,hmi2⟩,(Wk.sub ⟨rfl,rfl,rfl,rfl,rfl,rfl,rfl,rfl,rfl,rfl,rfl,rfl,rfl,rfl,rfl,rfl,rfl,trivial⟩ ⟨rfl,rfl,rfl,rfl,rfl,rfl,rfl,rfl,rfl,rfl,rfl,rfl,trivial⟩)⟩
       ·have h5:¬ 1<N+1:=of_decide_eq_false h5
        conv=>whnf
        refine qs (ds:=[qU conf,i64 y.number]) (qpQ conf y.number (by omega)) rfl 1 (qH (jq rfl (by simp[je])) rfl) ?_;conv=>whnf
        refine qj (fun h6=>?_) (fun h6=>?_)
        ·have h6:y.number∈conf:=of_decide_eq_true h6
         rw[if_pos (.inr h6)]at hnx;conv=>whnf
         refine qf (qb (by(try dsimp only);omega)) ?_;conv=>whnf
         subst hnx;exact⟨_,⟨hE2,hes,by simp only;omega,by simp only;omega,hmi2⟩,(Wk.sub ⟨rfl,rfl,rfl,rfl,rfl,rfl,rfl,rfl,rfl,rfl,rfl,rfl,rfl,rfl,rfl,rfl,rfl,trivial⟩ ⟨rfl,rfl,rfl,rfl,rfl,rfl,rfl,rfl,rfl,rfl,rfl,rfl,trivial⟩)⟩
        ·have h6:¬ y.number∈conf:=of_decide_eq_false h6
         rw[if_neg (fun h=>h.elim (fun h=>h5 (by omega)) h6)]at hnx;conv=>whnf
         cases hgf:zu e.first y.number with
         | none=>
          rw[hgf]at hnx;simp only at hnx;have hpf:=zf (kd:=qD) (vd:=PAt.d) (⟨i,k⟩:PAt) hgf;refine⟨none,qt (kd:=qD) qv hgf 0,?_⟩;conv=>whnf
          refine⟨none,qt (kd:=qD) qv hgf 0,?_⟩;conv=>whnf
          have hpf2:kvV qD PAt.d e.first ++ [(i64 y.number,PAt.d ⟨i,k⟩)]=kvV qD PAt.d (jL e.first y.number ⟨i,k⟩):=hpf
          refine qf (qb (by(try dsimp only);omega)) ?_;conv=>whnf
          subst hnx;refine⟨_,⟨hE2,hes,by simp only;omega,by simp only;omega,hmi2⟩,?_⟩;simp only;rw[<- hpf2];exact(Wk.sub ⟨rfl,rfl,rfl,rfl,rfl,rfl,rfl,rfl,rfl,rfl,rfl,rfl,rfl,rfl,rfl,rfl,rfl,trivial⟩ ⟨rfl,rfl,rfl,rfl,rfl,rfl,rfl,rfl,rfl,rfl,rfl,rfl,trivial⟩)
         | some r0=>
          rw[hgf]at hnx;simp only at hnx;obtain⟨j0,m0,c0,x0,hr0,hx0,hf0,-,hah⟩:=hE.fst _ _ hgf;obtain⟨iy,_,hy1,_⟩:=qC (kd:=qD) (vd:=PAt.d) qv hgf 0;refine⟨_,hy1,?_⟩;conv=>whnf
          subst hr0;have hml:=(List.getElem?_eq_some_iff.1 hx0.ent).1;have hjl:=(List.getElem?_eq_some_iff.1 hx0.book).1;refine qI c0.cells ⟨by show(0:Int)<=((j0:Nat):Int);omega,by show(l.books.map PBook.cells)[((j0:Nat):Int).toNat]?=_;rw[Int.toNat_natCast,List.getElem?_map,hx0.book];rfl⟩ ?_;conv=>whnf
          refine qI x0.cells ⟨by show(0:Int)<=((m0:Nat):Int);omega,by show(c0.ents.map PEnt.cells)[((m0:Nat):Int).toNat]?=_;rw[Int.toNat_natCast,List.getElem?_map,hx0.ent];rfl⟩ ?_;conv=>whnf
          have hxs:=(hR.book c0 (List.mem_of_getElem? hx0.book)).ent x0 (List.mem_of_getElem? hx0.ent);have hj0:j0<i:=by
           rcases hah with hah | ⟨hji,hah⟩
           ·exact hah
           ·have hb0:=hx0.book
            rw[hji]at hb0;have hcb:c0=b:=Option.some.inj (hb0.symm.trans hx);have h7:=(hE.mine y.number).2.2 ⟨m0,hah,hcb▸hf0⟩;rw[hN]at h7;omega
          have hpj:=hI.pers.2 j0 c0 hx0.book hj0;refine qm (y.shown-x0.shown) rfl (qb (by omega)) ?_;conv=>whnf
          refine qj (fun _=>?_) (fun h=>absurd h (by
           show ¬ ((decide (0<=((j0:Nat):Int))&&decide (((j0:Nat):Int)<((x.pers.length:Nat):Int)))=false);have:=hI.pers.1;simp;omega))
          conv=>whnf
          refine jb [.vs ((jM j0 c0).map Per.cells)] (by
           show(zJ x.pers)[0+((j0:Nat):Int).toNat]?=_;unfold zJ;rw[Int.toNat_natCast,Nat.zero_add,List.getElem?_map,hpj];rfl) ?_
          conv=>whnf
          refine qI (Per.cells ⟨j0,(qJ c0 m0:Nat)⟩) ⟨by show(0:Int)<=((m0:Nat):Int);omega,by show((jM j0 c0).map Per.cells)[((m0:Nat):Int).toNat]?=_;rw[Int.toNat_natCast,List.getElem?_map,jG hml];rfl⟩ ?_;conv=>whnf
          refine qm (-(y.shown-x0.shown)) (by omega) (qb (by omega)) ?_;conv=>whnf
          refine qn rfl ?_;conv=>whnf
          refine qn (by simp[Els.len,qu]) ?_;conv=>whnf
          refine zL (decide_eq_true (by
           show((qu ST).length+2)*40<=140737488355328;simp[qu];omega)) ?_
          conv=>whnf
          refine qf (qb (by(try dsimp only);omega)) ?_;conv=>whnf
          rw[qaK hx0 hpj,jc hx0]at hnx;subst hnx;refine⟨_,⟨hE2,hes,by simp only[List.length_append,List.length_cons,List.length_nil];omega,by simp only;omega,hmi2⟩,?_⟩;have hsc:∀ p q:zt,qu (ST ++ [p,q])=qu ST++qu [p,q]:=fun p q=>by unfold qu;rw[List.map_append]
          simp only[hsc];refine(Wk.move 174 900000 rfl rfl).trans (Wk.sub ⟨rfl,rfl,rfl,rfl,rfl,rfl,rfl,rfl,rfl,rfl,rfl,rfl,rfl,rfl,rfl,rfl,rfl,trivial⟩ ⟨rfl,rfl,rfl,?_,rfl,rfl,rfl,rfl,rfl,rfl,rfl,rfl,trivial⟩);show some (Obj.box (Cells.vv [.d (i64 l.near),.d (qR l.books),.sl 900000 5 0 ((qu ST).length+2),.sl 900001 1 0 x.pers.length,.d (i64 e.many)]))=_;simp[qu]
      | some n0=>
       have hN0:N=n0:=by rw[<- hN,hgm];rfl
       obtain⟨ix,_,hx1,hx2,_⟩:=qC (kd:=qD) (vd:=qD) qv hgm 0;refine⟨_,hx1,?_⟩;conv=>whnf
       refine qm (N+1) (by rw[hN0]) (qb (by omega)) ?_;conv=>whnf
       refine⟨_,hx1,?_⟩;conv=>whnf
       have hput2:(kvV qD qD e.mine).set (0+ix,qD n0).fst (i64 y.number,i64 (N+1))=kvV qD qD (jL e.mine y.number (N+1)):=by
        show(kvV qD qD e.mine).set (0+ix) _=_;rw[Nat.zero_add];exact hx2 (N+1)
       rw[hput2];obtain⟨iz,_,hz1,_⟩:=qC (kd:=qD) (vd:=qD) qv (show zu (jL e.mine y.number (N+1)) y.number=some (N+1) by rw[zK,if_pos rfl]) 0;refine⟨_,hz1,?_⟩;conv=>whnf
       refine qj (fun h5=>?_) (fun h5=>?_)
       ·have h5:1<N+1:=of_decide_eq_true h5
        rw[if_pos (.inl (by omega))]at hnx;conv=>whnf
        refine qf (qb (by(try dsimp only);omega)) ?_;conv=>whnf
        subst hnx;exact⟨_,⟨hE2,hes,by simp only;omega,by simp only;omega,hmi2⟩,(Wk.sub ⟨rfl,rfl,rfl,rfl,rfl,rfl,rfl,rfl,rfl,rfl,rfl,rfl,rfl,rfl,rfl,rfl,rfl,trivial⟩ ⟨rfl,rfl,rfl,rfl,rfl,rfl,rfl,rfl,rfl,rfl,rfl,rfl,trivial⟩)⟩
       ·have h5:¬ 1<N+1:=of_decide_eq_false h5
        conv=>whnf
        refine qs (ds:=[qU conf,i64 y.number]) (qpQ conf y.number (by omega)) rfl 1 (qH (jq rfl (by simp[je])) rfl) ?_;conv=>whnf
        refine qj (fun h6=>?_) (fun h6=>?_)
        ·have h6:y.number∈conf:=of_decide_eq_true h6
         rw[if_pos (.inr h6)]at hnx;conv=>whnf
         refine qf (qb (by(try dsimp only);omega)) ?_;conv=>whnf
         subst hnx;exact⟨_,⟨hE2,hes,by simp only;omega,by simp only;omega,hmi2⟩,(Wk.sub ⟨rfl,rfl,rfl,rfl,rfl,rfl,rfl,rfl,rfl,rfl,rfl,rfl,rfl,rfl,rfl,rfl,rfl,trivial⟩ ⟨rfl,rfl,rfl,rfl,rfl,rfl,rfl,rfl,rfl,rfl,rfl,rfl,trivial⟩)⟩
        ·have h6:¬ y.number∈conf:=of_decide_eq_false h6
         rw[if_neg (fun h=>h.elim (fun h=>h5 (by omega)) h6)]at hnx;conv=>whnf
         cases hgf:zu e.first y.number with
         | none=>
          rw[hgf]at hnx;simp only at hnx;have hpf:=zf (kd:=qD) (vd:=PAt.d) (⟨i,k⟩:PAt) hgf;refine⟨none,qt (kd:=qD) qv hgf 0,?_⟩;conv=>whnf
          refine⟨none,qt (kd:=qD) qv hgf 0,?_⟩;conv=>whnf
          have hpf2:kvV qD PAt.d e.first ++ [(i64 y.number,PAt.d ⟨i,k⟩)]=kvV qD PAt.d (jL e.first y.number ⟨i,k⟩):=hpf
          refine qf (qb (by(try dsimp only);omega)) ?_;conv=>whnf
          subst hnx;refine⟨_,⟨hE2,hes,by simp only;omega,by simp only;omega,hmi2⟩,?_⟩;simp only;rw[<- hpf2];exact(Wk.sub ⟨rfl,rfl,rfl,rfl,rfl,rfl,rfl,rfl,rfl,rfl,rfl,rfl,rfl,rfl,rfl,rfl,rfl,trivial⟩ ⟨rfl,rfl,rfl,rfl,rfl,rfl,rfl,rfl,rfl,rfl,rfl,rfl,trivial⟩)
         | some r0=>
          rw[hgf]at hnx;simp only at hnx;obtain⟨j0,m0,c0,x0,hr0,hx0,hf0,-,hah⟩:=hE.fst _ _ hgf;obtain⟨iy,_,hy1,_⟩:=qC (kd:=qD) (vd:=PAt.d) qv hgf 0;refine⟨_,hy1,?_⟩;conv=>whnf
          subst hr0;have hml:=(List.getElem?_eq_some_iff.1 hx0.ent).1;have hjl:=(List.getElem?_eq_some_iff.1 hx0.book).1;refine qI c0.cells ⟨by show(0:Int)<=((j0:Nat):Int);omega,by show(l.books.map PBook.cells)[((j0:Nat):Int).toNat]?=_;rw[Int.toNat_natCast,List.getElem?_map,hx0.book];rfl⟩ ?_;conv=>whnf
          refine qI x0.cells ⟨by show(0:Int)<=((m0:Nat):Int);omega,by show(c0.ents.map PEnt.cells)[((m0:Nat):Int).toNat]?=_;rw[Int.toNat_natCast,List.getElem?_map,hx0.ent];rfl⟩ ?_;conv=>whnf
          have hxs:=(hR.book c0 (List.mem_of_getElem? hx0.book)).ent x0 (List.mem_of_getElem? hx0.ent);have hj0:j0<i:=by
           rcases hah with hah | ⟨hji,hah⟩
           ·exact hah
           ·have hb0:=hx0.book
            rw[hji]at hb0;have hcb:c0=b:=Option.some.inj (hb0.symm.trans hx);have h7:=(hE.mine y.number).2.2 ⟨m0,hah,hcb▸hf0⟩;rw[hN]at h7;omega
          have hpj:=hI.pers.2 j0 c0 hx0.book hj0;refine qm (y.shown-x0.shown) rfl (qb (by omega)) ?_;conv=>whnf
          refine qj (fun _=>?_) (fun h=>absurd h (by
           show ¬ ((decide (0<=((j0:Nat):Int))&&decide (((j0:Nat):Int)<((x.pers.length:Nat):Int)))=false);have:=hI.pers.1;simp;omega))
          conv=>whnf
          refine jb [.vs ((jM j0 c0).map Per.cells)] (by
           show(zJ x.pers)[0+((j0:Nat):Int).toNat]?=_;unfold zJ;rw[Int.toNat_natCast,Nat.zero_add,List.getElem?_map,hpj];rfl) ?_
          conv=>whnf
          refine qI (Per.cells ⟨j0,(qJ c0 m0:Nat)⟩) ⟨by show(0:Int)<=((m0:Nat):Int);omega,by show((jM j0 c0).map Per.cells)[((m0:Nat):Int).toNat]?=_;rw[Int.toNat_natCast,List.getElem?_map,jG hml];rfl⟩ ?_;conv=>whnf
          refine qm (-(y.shown-x0.shown)) (by omega) (qb (by omega)) ?_;conv=>whnf
          refine qn rfl ?_;conv=>whnf
          refine qn (by simp[Els.len,qu]) ?_;conv=>whnf
          refine zL (decide_eq_true (by
           show((qu ST).length+2)*40<=140737488355328;simp[qu];omega)) ?_
          conv=>whnf
          refine qf (qb (by(try dsimp only);omega)) ?_;conv=>whnf
          rw[qaK hx0 hpj,jc hx0]at hnx;subst hnx;refine⟨_,⟨hE2,hes,by simp only[List.length_append,List.length_cons,List.length_nil];omega,by simp only;omega,hmi2⟩,?_⟩;have hsc:∀ p q:zt,qu (ST ++ [p,q])=qu ST++qu [p,q]:=fun p q=>by unfold qu;rw[List.map_append]
          simp only[hsc];refine(Wk.move 174 900000 rfl rfl).trans (Wk.sub ⟨rfl,rfl,rfl,rfl,rfl,rfl,rfl,rfl,rfl,rfl,rfl,rfl,rfl,rfl,rfl,rfl,rfl,trivial⟩ ⟨rfl,rfl,rfl,?_,rfl,rfl,rfl,rfl,rfl,rfl,rfl,rfl,trivial⟩);show some (Obj.box (Cells.vv [.d (i64 l.near),.d (qR l.books),.sl 900000 5 0 ((qu ST).length+2),.sl 900001 1 0 x.pers.length,.d (i64 e.many)]))=_;simp[qu]
     ·rw[if_neg h3]at hnx
      have h1k:y.kind=1:=by omega
      have ht:zj y = .ifc 138 (.agg [.str y.word]):=by unfold zj;rw[if_pos h1k]
      rw[ht];conv=>whnf
      refine qf (qb (by(try dsimp only);omega)) ?_;conv=>whnf
      subst hnx;exact⟨_,⟨hE2,hes,by simp only;omega,by simp only;omega,fun num=>by have:=hmi num;simp only;omega⟩,(Wk.sub ⟨rfl,rfl,rfl,rfl,rfl,rfl,rfl,rfl,rfl,rfl,rfl,rfl,rfl,rfl,rfl,rfl,rfl,trivial⟩ ⟨rfl,rfl,rfl,rfl,rfl,rfl,rfl,rfl,rfl,rfl,rfl,rfl,trivial⟩)⟩
  ·rintro e ⟨hE,hes,hsl,hem,hmi⟩
   conv=>whnf
   refine qj (fun h=>absurd h (by simp)) (fun _=>?_);conv=>whnf
   refine qn rfl ?_;conv=>whnf
   refine qn (by simp[Els.len,zJ]) ?_;conv=>whnf
   have hfree:(true && !qae 185 ((zd (zJ x.pers) ++ [[V.sl 55 2 0 e.of.length]]).flatten))=true:=by
    rw[qdd];rfl
   refine zL hfree ?_;conv=>whnf
   refine zL (decide_eq_true (by
    show((zJ x.pers).length+1)*24<=140737488355328;have:=hI.pers.1;simp[zJ];omega)) ?_
   conv=>whnf
   refine qcB [55,185] (by
    show zg ((zd (zJ x.pers) ++ [[V.sl 55 2 0 e.of.length]]).flatten)++([185] ++ [])=_;rw[jB];rfl) ?_
   conv=>whnf
   refine qm ((i+1:Nat):Int) (by omega) (qb (by omega)) ?_;conv=>whnf
   have hes:e=ER:=hes;subst hes;have hofl:e.of.length=b.ents.length:=by rw[hE.of];simp
   refine⟨⟨e.steps,e.many,e.first,x.pers ++ [e.of]⟩,⟨by rw[<- hy]at hlk;exact hlk,by rw[<- hy]at hI2;exact hI2,by simp only;have:=hB.ents;omega,by simp only;have:=hB.ents;omega⟩,?_⟩;refine(Wk.frzArr 1 [55] 185 (sz:=1) (vs:=zd (zJ x.pers) ++ [[.sl 55 2 0 e.of.length]]) (ds:=zJ x.pers ++ [[.vs (zN e.of)]]) ?_ (qcA (qeb (qH (jq rfl (by simp[zN])) rfl)) _)).trans ((Wk.move 185 900001 rfl rfl).trans (Wk.sub ⟨rfl,rfl,rfl,rfl,rfl,rfl,rfl,rfl,rfl,trivial⟩ ⟨rfl,rfl,rfl,?_,rfl,?_,rfl,rfl,trivial⟩))
   ·rfl
   ·show some (Obj.box (Cells.vv [.d (i64 l.near),.d (qR l.books),.sl 900000 5 0 e.steps.length,.sl 900001 1 0 ((zJ x.pers).length+1),.d (i64 e.many)]))=_
    simp[zJ]
   ·show some (Obj.arr 1 (Els.dd (zJ x.pers ++ [[.vs (zN e.of)]])))=_
    unfold zJ zN;rw[List.map_append];rfl
 ·rintro x ⟨hlk,hI,hst,hmn⟩
  have hlk:x=RES:=hlk;subst hlk;conv=>whnf
  refine qj (fun h=>absurd h (by simp)) (fun _=>?_);conv=>whnf
  have hv:jP (qco [(25,.box (.vv [.d (i64 l.near),.d (qR l.books),.sl 900000 5 0 x.steps.length,.sl 900001 1 0 x.pers.length,.d (i64 x.many)])),(900000,.arr 5 (.dd (qu x.steps))),(900001,.arr 1 (.dd (zJ x.pers)))] 2) (.ptr 25 0)=some (qac l x):=
   qkI rfl (qcz (a:=[i64 l.near,qR l.books]) (qH (qbh (es':=qu x.steps) rfl rfl (by simp[qu])) (qH (qbh (es':=zJ x.pers) rfl rfl (by simp[zJ])) rfl)))
  refine qjz ((Wk.frz 2 [25,900000,900001]).trans (Wk.sub (e':=jj 0 [.d (qac l x)]) (h':=[(1000000,.arr 1 (.dd (je conf)))]) ⟨congrArg some (repl_ptr hv),trivial⟩ ⟨rfl,trivial⟩)) rfl rfl ?_;exact qz [] [.d (qac l x)] [(1000000,.arr 1 (.dd (je conf)))] rfl ⟨rfl,trivial⟩ rfl ⟨⟨rfl,rfl⟩,rfl⟩
end Go.PX
namespace Go.PX
open Go.Proofs
theorem pa88o(p:List Int)(hp:p.length<=1000):FnU Tryz.prog 88 [.sl 1000000 1 0 p.length] [(1000000,.arr 1 (.dd (je p)))] fun v h'=>v = .d (qU p)/\h' = [(1000000,.arr 1 (.dd (je p)))]:=by
 intro σ Y s;refine qaP mixed ql Tryz.func88 rfl (ft:=qrZ) (args:=[.sl 1000000 1 0 p.length]) (show fnB qrZ Tryz.f88 1=true from by decide +kernel) ?_;conv=>whnf
 refine⟨fun b hb=>?_⟩
 cases b with
 | true=>
  have hp0:p = []:=by
   cases p with
   | nil=>rfl
   | cons a r=>exact absurd (hb (by simp)) (by simp)
  subst hp0;conv=>whnf
  refine jt ?_;exact qz [] [.d (.vs [])] [(1000000,.arr 1 (.dd (je [])))] rfl ⟨rfl,trivial⟩ rfl ⟨⟨rfl,rfl⟩,rfl⟩
 | false=>
  have hcl:(je p).length=p.length:=by simp[je]
  conv=>whnf
  refine qn (by simp[Els.len,je]) ?_;conv=>whnf
  refine qn rfl ?_;conv=>whnf
  refine zL (by
   show(qdr 1 (p.map fun n=>[i64 n])&&true)=true;rw[qhv (fun x=>⟨rfl,rfl⟩)];rfl) ?_
  conv=>whnf
  refine zL (decide_eq_true (by
   show(0+(je p).length)*8<=140737488355328;omega)) ?_
  conv=>whnf
  refine qjz ((Wk.frz 1 [7]).trans (Wk.sub (e':=jj 0 [.d (qU p)]) (h':=[(1000000,.arr 1 (.dd (je p)))]) ⟨congrArg some (repl_sl (qbh (es':=je p) rfl rfl (by simp[Els.len,hcl]))),trivial⟩ ⟨rfl,trivial⟩)) rfl rfl ?_;exact qz [] [.d (qU p)] [(1000000,.arr 1 (.dd (je p)))] rfl ⟨rfl,trivial⟩ rfl ⟨⟨rfl,rfl⟩,rfl⟩
theorem item_okP(x:List Int):okL (qlo x).1 (qlo x).2=true:=by
 have h:qiw (.arr 1 (.dd (je x)))=true:=by
  simp only[qiw,Els.toV];rw[zU];exact qiC _
 show(qnO (qM 1000000 64) [1000000]&&qnO (qM 1000000 64) [1000000]&&(qcy [.sl 1000000 1 0 x.length]&&(qiw (.arr 1 (.dd (je x)))&&true)))=true;rw[h];rfl
theorem shared_len(l:PLog):(qjG l).length<=100:=by
 unfold qjG;refine Nat.le_trans (List.length_filter_le _ _) ?_;simp
theorem lists_sub{of:List Int}{q:List Int}(h:q∈qkY of):q.length<=of.length:=by
 unfold qkY at h;obtain⟨n,hn,h⟩:=List.mem_flatMap.1 h;have:=lists_len h;rw[List.mem_range'_1]at hn;omega
set_option maxHeartbeats 4000000 in
theorem pa34(l:PLog):FnV Tryz.prog 34 [l.d] (.tup [qU (qpv l).1,i64 (qpv l).2]):=by
 unfold qpv;refine qG mixed ql Tryz.func34 rfl (ft:=ft34) 1 (by decide +kernel) (by rfl) fun {σ} Y st=>?_;conv=>whnf
 by_cases hc:qK l=0
 ·rw[if_pos hc]
  have hR:=zT hc;have hbl:=hR.books;refine qk (qeg l 0 0 0 (qbU hc)) rfl rfl ?_;conv=>whnf
  refine qjx (qso l hR Y st) [] rfl rfl rfl rfl ?_;rintro v h1 s' ⟨⟨rfl,m1,m2,hC,rfl⟩,rfl⟩;refine⟨rfl,?_⟩;conv=>whnf
  generalize hS:qjG l=S;refine zP (T:=tys) ql (by exact qi mixed ql (by decide +kernel)) (α:=Nat×List Int) (fun z=>⟨[(1,.ptr 1 0),(2,.ptr 2 0),(3,.ptr 3 0),(7,.d (.mv (kvV qD qD m1))),(9,.sl 38 1 0 z.2.length),(28,.d (i64 z.1))],[(1,.box (.dd l.cells)),(2,.box (.dd [.nils])),(3,.box (.dd [i64 0])),(38,.arr 1 (.dd (je z.2)))],s'⟩) (fun z=>z.1<=100/\z.2.length<=z.1/\z.2++(((List.range' z.1 (100-z.1)).map fun(n:Nat)=>(n:Int)).filter fun n=>decide (1<inN l n))=S) (fun z=>100-z.1) (0,[]) ?_ ⟨by simp,by simp,hS⟩ ?_
  ·exact(Wk.born 9 38 1 rfl rfl rfl).trans (Wk.sub (by repeat' first|exact trivial|refine⟨?_,?_⟩|rfl|(simp only[List.length_map];rfl)|simp[PX.get]) (by repeat' first|exact trivial|refine⟨?_,?_⟩|rfl|(simp only[List.length_map];rfl)|simp[PX.get]))
  rintro ⟨n,acc⟩ ⟨hn,hal,hacc⟩;simp only at hn hal hacc;conv=>whnf
  refine qj (fun h1=>?_) (fun h1=>?_)
  ·have h1:n<100:=by have:=of_decide_eq_true h1;simp only at this;omega
   obtain⟨m,hm1⟩:∃ m,100-n=m+1:=⟨99-n,by omega⟩;have hm2:100-(n+1)=m:=by omega
   rw[hm1,List.range'_succ,List.map_cons,List.filter_cons]at hacc;have hin:qbv m1 n=(inN l n:Nat):=hC.in' n;have hno:¬ 1<inN l n->acc++((List.range' (n+1) m).map fun(n:Nat)=>(n:Int)).filter (fun n=>decide (1<inN l n))=S:=fun h=>by rw[if_neg (by simpa using h)]at hacc;exact hacc
   conv=>whnf
   cases hg:zu m1 n with
   | none=>
    have h0:inN l n=0:=by unfold qbv at hin;rw[hg]at hin;simp only[Option.getD_none]at hin;omega
    refine⟨none,qt (kd:=qD) qv hg 0,?_⟩;conv=>whnf
    refine qm (((n+1:Nat):Int)) (by(try dsimp only);omega) (qb (by(try dsimp only);omega)) ?_;conv=>whnf
    exact⟨(n+1,acc),by simp only;omega,⟨by simp only;omega,by simp only;omega,by simp only;rw[hm2];exact hno (by omega)⟩,(Wk.sub (by repeat' first|exact trivial|refine⟨?_,?_⟩|rfl|(simp only[List.length_map];rfl)|simp[PX.get]) (by repeat' first|exact trivial|refine⟨?_,?_⟩|rfl|(simp only[List.length_map];rfl)|simp[PX.get]))⟩
   | some v=>
    have h0:(inN l n:Int)=v:=by unfold qbv at hin;rw[hg]at hin;simp only[Option.getD_some]at hin;omega
    obtain⟨ix,_,hx1,_⟩:=qC (kd:=qD) (vd:=qD) qv hg 0;refine⟨_,hx1,?_⟩;conv=>whnf
    refine qj (fun h2=>?_) (fun h2=>?_)
    ·have h2:1<v:=of_decide_eq_true h2
     rw[if_pos (by simp;omega)]at hacc;conv=>whnf
     refine qn rfl ?_;conv=>whnf
     refine qn (by simp[Els.len,je]) ?_;conv=>whnf
     refine zL (decide_eq_true (by
      show((je acc).length+1)*8<=140737488355328;simp[je];omega)) ?_
     conv=>whnf
     refine qm (((n+1:Nat):Int)) (by(try dsimp only);omega) (qb (by(try dsimp only);omega)) ?_;conv=>whnf
     refine⟨(n+1,acc ++ [(n:Int)]),by simp only;omega,⟨by simp only;omega,by simp only[List.length_append,List.length_singleton];omega,by simp only;rw[hm2,List.append_assoc];exact hacc⟩,Wk.sub ⟨rfl,rfl,rfl,rfl,?_,rfl,trivial⟩ ⟨rfl,rfl,rfl,?_,trivial⟩⟩
     ·show some (V.sl 38 1 0 ((je acc).length+1))=_
      simp[je]
     ·show some (Obj.arr 1 (.dd (je acc ++ [[i64 n]])))=_
      simp[je]
    ·have h2:¬ 1<v:=of_decide_eq_false h2
     conv=>whnf
     refine qm (((n+1:Nat):Int)) (by(try dsimp only);omega) (qb (by(try dsimp only);omega)) ?_;conv=>whnf
     exact⟨(n+1,acc),by simp only;omega,⟨by simp only;omega,by simp only;omega,by simp only;rw[hm2];exact hno (by omega)⟩,(Wk.sub (by repeat' first|exact trivial|refine⟨?_,?_⟩|rfl|(simp only[List.length_map];rfl)|simp[PX.get]) (by repeat' first|exact trivial|refine⟨?_,?_⟩|rfl|(simp only[List.length_map];rfl)|simp[PX.get]))⟩
  ·have h1:¬ n<100:=by have:=of_decide_eq_false h1;simp only at this;omega
   rw[show 100-n=0 by omega]at hacc;have hacc:acc=S:=by simpa using hacc
   subst hacc;have hSl:acc.length<=100:=by rw[<- hS];exact shared_len l
   conv=>whnf
   refine qdc (ds:=[qU acc]) (pa87 acc) 1 [38] (qH (jq rfl (by simp[je])) rfl) rfl ?_;conv=>whnf
   refine RangeA.wk (st':=⟨[(1,.ptr 1 0),(2,.ptr 2 0),(3,.ptr 3 0),(41,.d (.clo 115 [.ref [qU acc]]))],[(1,.box (.dd l.cells)),(2,.box (.dd [.nils])),(3,.box (.dd [i64 0]))],s'⟩) (Wk.sub ⟨rfl,rfl,rfl,rfl,trivial⟩ ⟨rfl,rfl,rfl,trivial⟩) ?_;refine RangeA_list ql (by exact qi mixed ql (by decide +kernel)) (by exact qi mixed ql (by decide +kernel)) rfl 1500000 1600000 [1,2,3] (by exact yields115 acc (by omega))
    (fun(_:Unit)=>([(1500000,.box (.dd l.cells)),(1500001,.box (.dd [.nils])),(1500002,.box (.dd [i64 0]))],s'))
    (fun rest _=>(∀ p∈rest,p.length<=100)/\(qkY acc).find? (qcn l 0)=rest.find? (qcn l 0)) () rfl rfl rfl ⟨fun p hp=>by have:=lists_sub hp;omega,rfl⟩ ?_ ?_
   ·rintro p rest _ ⟨hpl,he⟩ Q hQ1 hQ
    refine⟨⟨rfl,item_okP _⟩,?_⟩;have hp:=hpl p (by simp);rw[List.find?_cons]at he;conv=>whnf
    refine qS (pa68o l hR 0 (by omega) p (by omega)) [1600000] rfl ⟨_,_,rfl,rfl,rfl⟩ rfl ?_;conv=>whnf
    refine qk (qps) rfl rfl ?_;conv=>whnf
    obtain⟨m,hm⟩:=qpy l hR 0 (by omega) p;refine qk (ds:=[qac l (qY l 0 p),Per.right.d]) hm rfl rfl ?_
    cases hf:qcn l 0 p with
    | true=>
     rw[hf]at he;simp only at he;conv=>whnf
     refine qS (pa88o p (by omega)) [1600000] rfl ⟨_,_,rfl,rfl,rfl⟩ rfl ?_;conv=>whnf
     refine⟨[(1500000,.box (.dd l.cells)),(1500001,.box (.dd [qU p])),(1500002,.box (.dd [i64 0]))],s',(Wk.sub trivial (by repeat' first|exact trivial|refine⟨?_,?_⟩|rfl|(simp only[List.length_map];rfl)|simp[PX.get])),rfl,hQ _ _ _ ?_⟩;rw[he];conv=>whnf
     exact qc 0 rfl ⟨⟨rfl,rfl⟩,rfl⟩
    | false=>
     rw[hf]at he;simp only at he;conv=>whnf
     exact⟨(),(Wk.sub trivial (by repeat' first|exact trivial|refine⟨?_,?_⟩|rfl|(simp only[List.length_map];rfl)|simp[PX.get])),rfl,hQ1 () ⟨fun q hq=>hpl q (by simp[hq]),he⟩⟩
   ·rintro _ ⟨_,he⟩
    rw[List.find?_nil]at he;rw[he];conv=>whnf
    refine jt ?_;exact qc 0 rfl ⟨⟨rfl,rfl⟩,rfl⟩
 ·rw[if_neg hc]
  refine qk (qeg l _ _ _ (qbW l)) rfl rfl ?_;conv=>whnf
  generalize qK l=E at hc;refine qj (fun _=>?_) (fun h=>absurd hc (by simpa using h));conv=>whnf
  refine jt ?_;exact qc 0 rfl ⟨⟨rfl,rfl⟩,rfl⟩
end Go.PX
namespace Go.PX
open Go.Proofs
open Go.RowKit
deriving instance DecidableEq for PEnt
deriving instance DecidableEq for PBook
deriving instance DecidableEq for PLog
theorem qsp(a b:List PAt)(ha:a.length<1000000):FnV Tryz.prog 31 [qdp a,qdp b] (.bool (decide (a=b))):=by
 refine qG mixed ql Tryz.func31 rfl (ft:=ft31) 2 (by decide +kernel) (by rfl) fun {σ} Y st=>?_;conv=>whnf
 refine qj (fun h0=>?_) (fun h0=>?_)
 ·have h0:a.length≠b.length:=by
   intro e;simp[e]at h0
  conv=>whnf
  rw[decide_eq_false (by rintro rfl;exact h0 rfl)];exact qc 0 rfl ⟨⟨rfl,rfl⟩,rfl⟩
 ·have h0:a.length=b.length:=by
   have:=h0;simp at this;omega
  conv=>whnf
  refine zP (T:=tys) ql (by exact qi mixed ql (by decide +kernel)) (α:=Nat) (fun i=>⟨[(0,.d (qdp a)),(1,.d (qdp b)),(5,.d (i64 i))],[],st⟩) (fun i=>i<=a.length/\a.take i=b.take i) (fun i=>a.length-i) 0
   (Wk.sub ⟨rfl,rfl,rfl,trivial⟩ trivial) (by simp) ?_
  rintro i ⟨hi,he⟩;conv=>whnf
  refine qj (fun hc=>?_) (fun hc=>?_)
  ·have hc:i<a.length:=by simpa using hc
   have hc':i<b.length:=by omega
   conv=>whnf
   refine qI a[i].cells (by simp[hc]) ?_;conv=>whnf
   refine qI b[i].cells (by simp[hc']) ?_;conv=>whnf
   refine qj (fun h1=>?_) (fun h1=>?_)
   ·conv=>whnf
    have h1:a[i]≠b[i]:=by
     intro e;rw[e]at h1;simp at h1
    rw[decide_eq_false (by rintro rfl;exact h1 rfl)];exact qc 0 rfl ⟨⟨rfl,rfl⟩,rfl⟩
   ·have h1:a[i]=b[i]:=by
     cases hx:a[i]with
     | mk x y=>
      cases hy:b[i]with
      | mk u v=>
       rw[hx,hy]at h1;simpa using h1
    refine qf (qb (by(try dsimp only);omega)) ?_;conv=>whnf
    exact⟨i+1,by omega,⟨hc,by rw[List.take_succ_eq_append_getElem hc,List.take_succ_eq_append_getElem hc',he,h1]⟩,Wk.sub ⟨rfl,rfl,rfl,trivial⟩ trivial⟩
  ·have hc:¬ i<a.length:=by simpa using hc
   conv=>whnf
   rw[List.take_of_length_le (by omega),List.take_of_length_le (by omega)]at he;rw[decide_eq_true he];exact qc 0 rfl ⟨⟨rfl,rfl⟩,rfl⟩
structure FewP(l:PLog):Prop where
 books:l.books.length<1000000
 ents:∀ b∈l.books,b.ents.length<1000000
set_option maxHeartbeats 4000000 in
theorem pa43(a b:PLog)(ha:FewP a):FnV Tryz.prog 43 [a.d,b.d] (.bool (decide (a=b))):=by
 refine qG mixed ql Tryz.func43 rfl (ft:=ft43) 2 (by decide +kernel) (by rfl) fun {σ} Y st=>?_;conv=>whnf
 have hm1:=ha.books;refine qj (fun h0=>?_) (fun h0=>?_)
 ·have h0:a.near≠b.near:=by
   intro e;simp[e]at h0
  conv=>whnf
  rw[decide_eq_false (by rintro rfl;exact h0 rfl)];exact qc 0 rfl ⟨⟨rfl,rfl⟩,rfl⟩
 have hnr:a.near=b.near:=by simpa using h0
 conv=>whnf
 refine qj (fun h0=>?_) (fun h0=>?_)
 ·have h0:a.books.length≠b.books.length:=by
   intro e;simp[e]at h0
  conv=>whnf
  rw[decide_eq_false (by rintro rfl;exact h0 rfl)];exact qc 0 rfl ⟨⟨rfl,rfl⟩,rfl⟩
 have hml:a.books.length=b.books.length:=by
  have:=h0;simp at this;omega
 conv=>whnf
 refine zP (T:=tys) ql (by exact qi mixed ql (by decide +kernel)) (α:=Nat) (fun i=>⟨[(2,.ptr 2 0),(3,.ptr 3 0),(5,.d (i64 i))],[(2,.box (.dd a.cells)),(3,.box (.dd b.cells))],st⟩) (fun i=>i<=a.books.length/\a.books.take i=b.books.take i) (fun i=>a.books.length-i) 0
  (Wk.sub (by repeat' first|exact trivial|refine⟨?_,?_⟩|rfl|(simp only[List.length_map];rfl)|simp[PX.get]) (by repeat' first|exact trivial|refine⟨?_,?_⟩|rfl|(simp only[List.length_map];rfl)|simp[PX.get])) (by simp) ?_
 rintro i ⟨hi,he⟩;conv=>whnf
 refine qj (fun hc=>?_) (fun hc=>?_)
 ·have hc:i<a.books.length:=by simpa using hc
  have hc':i<b.books.length:=by omega
  have hpl:=ha.ents a.books[i] (List.getElem_mem hc);have hne:a.books[i]≠b.books[i]->a≠b:=by rintro h rfl;exact h rfl
  have hnx:a.books[i]=b.books[i]->a.books.take (i+1)=b.books.take (i+1):=fun h1=>by rw[List.take_succ_eq_append_getElem hc,List.take_succ_eq_append_getElem hc',he,h1]
  generalize hx:a.books[i]=x at *;generalize hy:b.books[i]=y at *;conv=>whnf
  refine qI x.cells (by simp[hc,hx]) ?_;conv=>whnf
  refine qI y.cells (by simp[hc',hy]) ?_;conv=>whnf
  refine qj (fun h1=>?_) (fun h1=>?_)
  ·have h1:x≠y:=by rintro rfl;simp at h1
   conv=>whnf
   rw[decide_eq_false (hne h1)];exact qc 0 rfl ⟨⟨rfl,rfl⟩,rfl⟩
  have n1:x.name=y.name:=by simpa using h1
  conv=>whnf
  refine qj (fun h1=>?_) (fun h1=>?_)
  ·have h1:x≠y:=by rintro rfl;simp at h1
   conv=>whnf
   rw[decide_eq_false (hne h1)];exact qc 0 rfl ⟨⟨rfl,rfl⟩,rfl⟩
  have n2:x.off=y.off:=by
   cases h4:x.off with
   | mk p q=>
    cases h5:y.off with
    | mk u v=>
     rw[h4,h5]at h1;simpa using h1
  conv=>whnf
  refine qj (fun h1=>?_) (fun h1=>?_)
  ·have h1:x≠y:=by rintro rfl;simp at h1
   conv=>whnf
   rw[decide_eq_false (hne h1)];exact qc 0 rfl ⟨⟨rfl,rfl⟩,rfl⟩
  have n3:x.set=y.set:=by
   cases h4:x.set with
   | mk p q=>
    cases h5:y.set with
    | mk u v=>
     rw[h4,h5]at h1;simpa using h1
  conv=>whnf
  refine qj (fun h1=>?_) (fun h1=>?_)
  ·have h1:x≠y:=by rintro rfl;simp at h1
   conv=>whnf
   rw[decide_eq_false (hne h1)];exact qc 0 rfl ⟨⟨rfl,rfl⟩,rfl⟩
  have hxy:x.ents.length=y.ents.length:=by
   have:=h1;simp at this;omega
  conv=>whnf
  refine zP (T:=tys) ql (by exact qi mixed ql (by decide +kernel)) (α:=Nat) (fun k=>⟨[(2,.ptr 2 0),(3,.ptr 3 0),(5,.d (i64 i)),(6,.ptr 6 0),(7,.ptr 7 0),(8,.d (i64 k))],[(2,.box (.dd a.cells)),(3,.box (.dd b.cells)),(6,.box (.dd x.cells)),(7,.box (.dd y.cells))],st⟩) (fun k=>k<=x.ents.length/\x.ents.take k=y.ents.take k) (fun k=>x.ents.length-k) 0
   (Wk.sub (by repeat' first|exact trivial|refine⟨?_,?_⟩|rfl|(simp only[List.length_map];rfl)|simp[PX.get]) (by repeat' first|exact trivial|refine⟨?_,?_⟩|rfl|(simp only[List.length_map];rfl)|simp[PX.get])) (by simp) ?_
  rintro k ⟨hk,hke⟩;conv=>whnf
  refine qj (fun hc2=>?_) (fun hc2=>?_)
  ·have hc2:k<x.ents.length:=by simpa using hc2
   have hc3:k<y.ents.length:=by omega
   conv=>whnf
   refine qI x.ents[k].cells (by simp[hc2]) ?_;conv=>whnf
   refine qI y.ents[k].cells (by simp[hc3]) ?_;conv=>whnf
   refine qj (fun h1=>?_) (fun h1=>?_)
   ·conv=>whnf
    have h1:x.ents[k]≠y.ents[k]:=by
     intro e;rw[e]at h1;simp at h1
    rw[decide_eq_false (hne (by rintro rfl;exact h1 rfl))];exact qc 0 rfl ⟨⟨rfl,rfl⟩,rfl⟩
   ·have h1:x.ents[k]=y.ents[k]:=by
     cases hx:x.ents[k]with
     | mk p q r s=>
      cases hy:y.ents[k]with
      | mk u v w z=>
       rw[hx,hy]at h1;simpa using h1
    refine qf (qb (by(try dsimp only);omega)) ?_;conv=>whnf
    exact⟨k+1,by omega,⟨hc2,by rw[List.take_succ_eq_append_getElem hc2,List.take_succ_eq_append_getElem hc3,hke,h1]⟩,(Wk.sub (by repeat' first|exact trivial|refine⟨?_,?_⟩|rfl|(simp only[List.length_map];rfl)|simp[PX.get]) (by repeat' first|exact trivial|refine⟨?_,?_⟩|rfl|(simp only[List.length_map];rfl)|simp[PX.get]))⟩
  ·have hc2:¬ k<x.ents.length:=by simpa using hc2
   rw[List.take_of_length_le (by omega),List.take_of_length_le (by omega)]at hke;have hxe:x=y:=by
    cases x;cases y
    simp only at n1 n2 n3 hke;rw[n1,n2,n3,hke]
   conv=>whnf
   refine qf (qb (by(try dsimp only);omega)) ?_;conv=>whnf
   exact⟨i+1,by omega,⟨hc,hnx hxe⟩,(Wk.sub (by repeat' first|exact trivial|refine⟨?_,?_⟩|rfl|(simp only[List.length_map];rfl)|simp[PX.get]) (by repeat' first|exact trivial|refine⟨?_,?_⟩|rfl|(simp only[List.length_map];rfl)|simp[PX.get]))⟩
 ·have hc:¬ i<a.books.length:=by simpa using hc
  rw[List.take_of_length_le (by omega),List.take_of_length_le (by omega)]at he;have hab:a=b:=by
   cases a;cases b
   simp only at hnr he;rw[hnr,he]
  conv=>whnf
  rw[decide_eq_true hab];exact qc 0 rfl ⟨⟨rfl,rfl⟩,rfl⟩
def exA:List PEnt:=[⟨100,1,⟨#[111,114,105,101,110,116]⟩,0⟩,⟨110,3,⟨#[115,117,110,107]⟩,1⟩,⟨130,2,⟨#[]⟩,0⟩,⟨125,1,⟨#[116,117,103]⟩,0⟩]
def exB:List PEnt:=[⟨90,3,⟨#[115,117,110,107]⟩,1⟩,⟨95,1,⟨#[111,114,105,101,110,116]⟩,0⟩,⟨112,1,⟨#[116,117,103]⟩,0⟩]
def qsq(p q:Span):List PBook:=[⟨⟨#[98,114,105,100,103,101]⟩,p,⟨0,2⟩,exA⟩,⟨⟨#[100,101,99,107]⟩,q,⟨0,0⟩,exB⟩]
def exL:PLog:=⟨5,qsq ⟨-10,10⟩ ⟨-20,20⟩⟩
def narL:PLog:=⟨5,qsq ⟨0,10⟩ ⟨5,20⟩⟩
def exT:ByteArray:=⟨#[110,101,97,114,32,53,10,98,111,111,107,32,98,114,105,100,103,101,32,45,49,48,32,49,48,32,48,32,50,10,112,97,115,115,32,49,48,48,32,111,114,105,101,110,116,10,114,101,112,111,114,116,32,49,49,48,32,115,117,110,107,32,49,10,115,101,116,32,49,51,48,10,112,97,115,115,32,49,50,53,32,116,117,103,10,98,111,111,107,32,100,101,99,107,32,45,50,48,32,50,48,32,48,32,48,10,114,101,112,111,114,116,32,57,48,32,115,117,110,107,32,49,10,112,97,115,115,32,57,53,32,111,114,105,101,110,116,10,112,97,115,115,32,49,49,50,32,116,117,103,10]⟩
theorem qrr:FnV Tryz.prog 80 [] (.str exT):=by
 refine qG mixed ql Tryz.func80 rfl (ft:=ft80) 0 (by decide +kernel) (by rfl) fun {σ} Y st=>?_;conv=>whnf
 exact qc 0 rfl ⟨⟨rfl,rfl⟩,rfl⟩
theorem qrs(a b:Int):FnV Tryz.prog 45 [i64 a,i64 b] (PAt.d ⟨a,b⟩):=by
 refine qG mixed ql Tryz.func45 rfl (ft:=ft45) 2 (by decide +kernel) (by rfl) fun {σ} Y st=>?_;conv=>whnf
 exact qc 0 rfl ⟨⟨rfl,rfl⟩,rfl⟩
theorem qlD(a b:Int):FnV Tryz.prog 46 [i64 a,i64 b] (Span.d ⟨a,b⟩):=by
 refine qG mixed ql Tryz.func46 rfl (ft:=ft46) 2 (by decide +kernel) (by rfl) fun {σ} Y st=>?_;conv=>whnf
 exact qc 0 rfl ⟨⟨rfl,rfl⟩,rfl⟩
def exH:Heap:=[(2000000,.arr 6 (.dd (exL.books.map PBook.cells)))]
theorem pa44h:FnU Tryz.prog 44 [] [] (fun v h'=>v = .agg [.d (i64 5),.sl 2000000 6 0 2]/\h'=exH):=by
 intro σ Y st;refine qaP mixed ql Tryz.func44 rfl (ft:=qrI) (args:=[]) (h:=[]) (show fnB qrI Tryz.f44 0=true from by decide +kernel) ?_;conv=>whnf
 repeat' (first
  | (refine qk (qlD _ _) rfl rfl ?_;conv=>whnf)
  | (refine qs (qlD _ _) rfl 1 rfl ?_;conv=>whnf)
  | (refine qo (qlD _ _) rfl rfl ?_;conv=>whnf)
  | (refine qA (qlD _ _) rfl 1 rfl ?_;conv=>whnf)
  | (refine qf (qb (by(try dsimp only);omega)) ?_;conv=>whnf)
  | (refine qw (by assumption) ?_;conv=>whnf)
  | (refine qn (by first | rfl | assumption | (simp[Els.len];done) | (simp[Els.len];omega)) ?_;conv=>whnf)
  | (refine zL (by first | (exact decide_eq_true (by(try simp only[List.length_map]);omega)) | (simp[Els.len,Els.cons,V.cells,Els.toV,zd];done) | (simp[Els.len,Els.cons,V.cells,Els.toV,zd];omega)) ?_;conv=>whnf)
  | fail)
 refine qjz (l':=[.agg [.d (i64 5),.sl 15 6 0 2]]) (h':=[(15,.arr 6 (.dd (exL.books.map PBook.cells)))]) ((Wk.frzArr 1 [7,13] 15 (sz:=6) (ds:=exL.books.map PBook.cells) rfl rfl).trans (Wk.sub ⟨rfl,trivial⟩ ⟨rfl,trivial⟩)) rfl rfl ?_;exact qz [15] [.agg [.d (i64 5),.sl 2000000 6 0 2]] exH rfl ⟨rfl,trivial⟩ rfl ⟨⟨rfl,rfl⟩,rfl⟩
theorem qrt:FnV Tryz.prog 44 [] exL.d:=by
 refine qG mixed ql Tryz.func44 rfl (ft:=qrI) 0 (by decide +kernel) (by rfl) fun {σ} Y st=>?_;conv=>whnf
 repeat' (first
  | (refine qk (qlD _ _) rfl rfl ?_;conv=>whnf)
  | (refine qs (qlD _ _) rfl 1 rfl ?_;conv=>whnf)
  | (refine qo (qlD _ _) rfl rfl ?_;conv=>whnf)
  | (refine qA (qlD _ _) rfl 1 rfl ?_;conv=>whnf)
  | (refine qf (qb (by(try dsimp only);omega)) ?_;conv=>whnf)
  | (refine qw (by assumption) ?_;conv=>whnf)
  | (refine qn (by first | rfl | assumption | (simp[Els.len];done) | (simp[Els.len];omega)) ?_;conv=>whnf)
  | (refine zL (by first | (exact decide_eq_true (by(try simp only[List.length_map]);omega)) | (simp[Els.len,Els.cons,V.cells,Els.toV,zd];done) | (simp[Els.len,Els.cons,V.cells,Els.toV,zd];omega)) ?_;conv=>whnf)
  | fail)
 exact qc 2 rfl ⟨⟨rfl,rfl⟩,rfl⟩
theorem qru:FnV Tryz.prog 79 [] narL.d:=by
 refine qG mixed ql Tryz.func79 rfl (ft:=ft79) 0 (by decide +kernel) (by rfl) fun {σ} Y st=>?_;conv=>whnf
 refine qS pa44h [] rfl rfl rfl ?_;conv=>whnf
 repeat' (first
  | (refine qk (qlD _ _) rfl rfl ?_;conv=>whnf)
  | (refine qs (qlD _ _) rfl 1 rfl ?_;conv=>whnf)
  | (refine qo (qlD _ _) rfl rfl ?_;conv=>whnf)
  | (refine qA (qlD _ _) rfl 1 rfl ?_;conv=>whnf)
  | (refine qf (qb (by(try dsimp only);omega)) ?_;conv=>whnf)
  | (refine qw (by assumption) ?_;conv=>whnf)
  | (refine qn (by first | rfl | assumption | (simp[Els.len];done) | (simp[Els.len];omega)) ?_;conv=>whnf)
  | (refine zL (by first | (exact decide_eq_true (by(try simp only[List.length_map]);omega)) | (simp[Els.len,Els.cons,V.cells,Els.toV,zd];done) | (simp[Els.len,Els.cons,V.cells,Els.toV,zd];omega)) ?_;conv=>whnf)
  | fail)
 exact qc 2 rfl ⟨⟨rfl,rfl⟩,rfl⟩
theorem x1:qoJ exL=(true,0):=by decide +kernel
theorem x2:qoJ narL=(false,0):=by decide +kernel
theorem x3:qlX exL 0=([⟨5,10⟩,⟨0,2⟩],0):=by decide +kernel
theorem x4:qjF exL ⟨1,2⟩=(⟨122,127⟩,0):=by decide +kernel
theorem x5:qch exL ⟨0,3⟩ ⟨1,2⟩=(⟨-3,2⟩,0,0):=by decide +kernel
theorem x6:qch exL ⟨0,0⟩ ⟨1,1⟩=(⟨15,15⟩,1,0):=by decide +kernel
theorem x7:qib exL ⟨0,3⟩=([⟨1,2⟩],0):=by decide +kernel
theorem x8:qoL narL=(8,0):=by decide +kernel
theorem x9:qpv narL=([1],0):=by decide +kernel
theorem x10:qqU exL=([],[],0):=by decide +kernel
theorem x11:qnn exL=(exT,0):=by decide +kernel
theorem x12:qlj exT=(exL,0):=by decide +kernel
theorem x13:(qlX narL 0).2=9:=by decide +kernel
end Go.PX
namespace Go.PX
open Go.Proofs
open Go.RowKit
theorem w1:FnV Tryz.prog 19 [exL.d] (.tup [.bool true,i64 0]):=FnV.cast (qsl exL) (by rw[x1])
theorem w2:FnV Tryz.prog 19 [narL.d] (.tup [.bool false,i64 0]):=FnV.cast (qsl narL) (by rw[x2])
theorem w3:FnV Tryz.prog 21 [exL.d,i64 0] (.tup [qbt [⟨5,10⟩,⟨0,2⟩],i64 0]):=FnV.cast (qrO exL 0) (by rw[x3])
theorem w4:FnV Tryz.prog 24 [exL.d,PAt.d ⟨1,2⟩] (.tup [Span.d ⟨122,127⟩,i64 0]):=FnV.cast (qrM exL ⟨1,2⟩) (by rw[x4])
theorem w5:FnV Tryz.prog 27 [exL.d,PAt.d ⟨0,3⟩,PAt.d ⟨1,2⟩] (.tup [Span.d ⟨-3,2⟩,i64 0,i64 0]):=FnV.cast (qrN exL ⟨0,3⟩ ⟨1,2⟩) (by rw[x5])
theorem w6:FnV Tryz.prog 27 [exL.d,PAt.d ⟨0,0⟩,PAt.d ⟨1,1⟩] (.tup [Span.d ⟨15,15⟩,i64 1,i64 0]):=FnV.cast (qrN exL ⟨0,0⟩ ⟨1,1⟩) (by rw[x6])
theorem w7:FnV Tryz.prog 29 [exL.d,PAt.d ⟨0,3⟩] (.tup [qdp [⟨1,2⟩],i64 0]):=FnV.cast (qsm exL ⟨0,3⟩) (by rw[x7])
theorem w8:FnV Tryz.prog 32 [narL.d] (.tup [i64 8,i64 0]):=FnV.cast (qsn narL) (by rw[x8])
theorem w9:FnV Tryz.prog 34 [narL.d] (.tup [qU [1],i64 0]):=FnV.cast (pa34 narL) (by rw[x9])
theorem w10:FnV Tryz.prog 37 [exL.d] (.tup [qU [],qU [],i64 0]):=FnV.cast (pa37 exL) (by rw[x10])
theorem w11:FnV Tryz.prog 39 [exL.d] (.tup [.str exT,i64 0]):=FnV.cast (pa39 exL) (by rw[x11])
theorem w12:FnV Tryz.prog 41 [.str exT] (.tup [exL.d,i64 0]):=FnV.cast (pa41 exT) (by rw[x12])
theorem w13:FnV Tryz.prog 21 [narL.d,i64 0] (.tup [qbt (qlX narL 0).1,i64 9]):=FnV.cast (qrO narL 0) (by rw[x13])
theorem few_ex:FewP exL:=⟨by decide,by decide⟩
theorem w14:FnV Tryz.prog 43 [exL.d,exL.d] (.bool true):=FnV.cast (pa43 exL exL few_ex) (by simp)
theorem w15:FnV Tryz.prog 36 [qU [1],qU [1]] (.bool true):=FnV.cast (fn19 [1] [1] (by decide)) (by simp)
theorem w16:FnV Tryz.prog 23 [qbt [⟨5,10⟩,⟨0,2⟩],qbt [⟨5,10⟩,⟨0,2⟩]] (.bool true):=FnV.cast (fn45 [⟨5,10⟩,⟨0,2⟩] [⟨5,10⟩,⟨0,2⟩] (by decide)) (by simp)
theorem w17:FnV Tryz.prog 31 [qdp [⟨1,2⟩],qdp [⟨1,2⟩]] (.bool true):=FnV.cast (qsp [⟨1,2⟩] [⟨1,2⟩] (by decide)) (by simp)
set_option maxHeartbeats 8000000 in
theorem pa26:FnV Tryz.prog 26 [] (.bool true):=by
 refine qG mixed ql Tryz.func26 rfl (ft:=ft26) 0 (by decide +kernel) (by rfl) fun {σ} Y st=>?_;conv=>whnf
 repeat' (first
  | (refine qk (w1) rfl rfl ?_;conv=>whnf)
  | (refine qs (w1) rfl 1 rfl ?_;conv=>whnf)
  | (refine qo (w1) rfl rfl ?_;conv=>whnf)
  | (refine qA (w1) rfl 1 rfl ?_;conv=>whnf)
  | (refine qk (qrt) rfl rfl ?_;conv=>whnf)
  | (refine qs (qrt) rfl 1 rfl ?_;conv=>whnf)
  | (refine qo (qrt) rfl rfl ?_;conv=>whnf)
  | (refine qA (qrt) rfl 1 rfl ?_;conv=>whnf)
  | (refine qk (qru) rfl rfl ?_;conv=>whnf)
  | (refine qs (qru) rfl 1 rfl ?_;conv=>whnf)
  | (refine qo (qru) rfl rfl ?_;conv=>whnf)
  | (refine qA (qru) rfl 1 rfl ?_;conv=>whnf)
  | (refine qk (qrr) rfl rfl ?_;conv=>whnf)
  | (refine qs (qrr) rfl 1 rfl ?_;conv=>whnf)
  | (refine qo (qrr) rfl rfl ?_;conv=>whnf)
  | (refine qA (qrr) rfl 1 rfl ?_;conv=>whnf)
  | (refine qk (qrs _ _) rfl rfl ?_;conv=>whnf)
  | (refine qs (qrs _ _) rfl 1 rfl ?_;conv=>whnf)
  | (refine qo (qrs _ _) rfl rfl ?_;conv=>whnf)
  | (refine qA (qrs _ _) rfl 1 rfl ?_;conv=>whnf)
  | (refine qk (qlD _ _) rfl rfl ?_;conv=>whnf)
  | (refine qs (qlD _ _) rfl 1 rfl ?_;conv=>whnf)
  | (refine qo (qlD _ _) rfl rfl ?_;conv=>whnf)
  | (refine qA (qlD _ _) rfl 1 rfl ?_;conv=>whnf)
  | (refine qk (w2) rfl rfl ?_;conv=>whnf)
  | (refine qs (w2) rfl 1 rfl ?_;conv=>whnf)
  | (refine qo (w2) rfl rfl ?_;conv=>whnf)
  | (refine qA (w2) rfl 1 rfl ?_;conv=>whnf)
  | (refine qk (w3) rfl rfl ?_;conv=>whnf)
  | (refine qs (w3) rfl 1 rfl ?_;conv=>whnf)
  | (refine qo (w3) rfl rfl ?_;conv=>whnf)
  | (refine qA (w3) rfl 1 rfl ?_;conv=>whnf)
  | (refine qk (w4) rfl rfl ?_;conv=>whnf)
  | (refine qs (w4) rfl 1 rfl ?_;conv=>whnf)
  | (refine qo (w4) rfl rfl ?_;conv=>whnf)
  | (refine qA (w4) rfl 1 rfl ?_;conv=>whnf)
  | (refine qk (w5) rfl rfl ?_;conv=>whnf)
  | (refine qs (w5) rfl 1 rfl ?_;conv=>whnf)
  | (refine qo (w5) rfl rfl ?_;conv=>whnf)
  | (refine qA (w5) rfl 1 rfl ?_;conv=>whnf)
  | (refine qk (w6) rfl rfl ?_;conv=>whnf)
  | (refine qs (w6) rfl 1 rfl ?_;conv=>whnf)
  | (refine qo (w6) rfl rfl ?_;conv=>whnf)
  | (refine qA (w6) rfl 1 rfl ?_;conv=>whnf)
  | (refine qk (w7) rfl rfl ?_;conv=>whnf)
  | (refine qs (w7) rfl 1 rfl ?_;conv=>whnf)
  | (refine qo (w7) rfl rfl ?_;conv=>whnf)
  | (refine qA (w7) rfl 1 rfl ?_;conv=>whnf)
  | (refine qk (w8) rfl rfl ?_;conv=>whnf)
  | (refine qs (w8) rfl 1 rfl ?_;conv=>whnf)
  | (refine qo (w8) rfl rfl ?_;conv=>whnf)
  | (refine qA (w8) rfl 1 rfl ?_;conv=>whnf)
  | (refine qk (w9) rfl rfl ?_;conv=>whnf)
  | (refine qs (w9) rfl 1 rfl ?_;conv=>whnf)
  | (refine qo (w9) rfl rfl ?_;conv=>whnf)
  | (refine qA (w9) rfl 1 rfl ?_;conv=>whnf)
  | (refine qk (w10) rfl rfl ?_;conv=>whnf)
  | (refine qs (w10) rfl 1 rfl ?_;conv=>whnf)
  | (refine qo (w10) rfl rfl ?_;conv=>whnf)
  | (refine qA (w10) rfl 1 rfl ?_;conv=>whnf)
  | (refine qk (w11) rfl rfl ?_;conv=>whnf)
  | (refine qs (w11) rfl 1 rfl ?_;conv=>whnf)
  | (refine qo (w11) rfl rfl ?_;conv=>whnf)
  | (refine qA (w11) rfl 1 rfl ?_;conv=>whnf)
  | (refine qk (w12) rfl rfl ?_;conv=>whnf)
  | (refine qs (w12) rfl 1 rfl ?_;conv=>whnf)
  | (refine qo (w12) rfl rfl ?_;conv=>whnf)
  | (refine qA (w12) rfl 1 rfl ?_;conv=>whnf)
  | (refine qk (w13) rfl rfl ?_;conv=>whnf)
  | (refine qs (w13) rfl 1 rfl ?_;conv=>whnf)
  | (refine qo (w13) rfl rfl ?_;conv=>whnf)
  | (refine qA (w13) rfl 1 rfl ?_;conv=>whnf)
  | (refine qk (w15) rfl rfl ?_;conv=>whnf)
  | (refine qs (w15) rfl 1 rfl ?_;conv=>whnf)
  | (refine qo (w15) rfl rfl ?_;conv=>whnf)
  | (refine qA (w15) rfl 1 rfl ?_;conv=>whnf)
  | (refine qk (w16) rfl rfl ?_;conv=>whnf)
  | (refine qs (w16) rfl 1 rfl ?_;conv=>whnf)
  | (refine qo (w16) rfl rfl ?_;conv=>whnf)
  | (refine qA (w16) rfl 1 rfl ?_;conv=>whnf)
  | (refine qk (w17) rfl rfl ?_;conv=>whnf)
  | (refine qs (w17) rfl 1 rfl ?_;conv=>whnf)
  | (refine qo (w17) rfl rfl ?_;conv=>whnf)
  | (refine qA (w17) rfl 1 rfl ?_;conv=>whnf)
  | (refine qk (w14) rfl rfl ?_;conv=>whnf)
  | (refine qs (w14) rfl 1 rfl ?_;conv=>whnf)
  | (refine qo (w14) rfl rfl ?_;conv=>whnf)
  | (refine qA (w14) rfl 1 rfl ?_;conv=>whnf)
  | (refine qf (qb (by(try dsimp only);omega)) ?_;conv=>whnf)
  | (refine qw (by assumption) ?_;conv=>whnf)
  | (refine qn (by first | rfl | assumption | (simp[Els.len];done) | (simp[Els.len];omega)) ?_;conv=>whnf)
  | (refine zL (by first | (exact decide_eq_true (by(try simp only[List.length_map]);omega)) | (simp[Els.len,Els.cons,V.cells,Els.toV,zd];done) | (simp[Els.len,Els.cons,V.cells,Els.toV,zd];omega)) ?_;conv=>whnf)
  | fail)
 exact qc 0 rfl ⟨⟨rfl,rfl⟩,rfl⟩
end Go.PX
namespace Go.PX
open Go.Proofs
open Go.RowKit
theorem y1:qlX exL 1=([⟨-15,-10⟩],0):=by decide +kernel
theorem y2:qjF exL ⟨0,0⟩=(⟨90,95⟩,0):=by decide +kernel
theorem y3:qjF exL ⟨0,3⟩=(⟨123,125⟩,0):=by decide +kernel
theorem y6:qoL exL=(0,0):=by decide +kernel
theorem z1:FnV Tryz.prog 21 [exL.d,i64 1] (.tup [qbt [⟨-15,-10⟩],i64 0]):=FnV.cast (qrO exL 1) (by rw[y1])
theorem z2:FnV Tryz.prog 24 [exL.d,PAt.d ⟨0,0⟩] (.tup [Span.d ⟨90,95⟩,i64 0]):=FnV.cast (qrM exL ⟨0,0⟩) (by rw[y2])
theorem z3:FnV Tryz.prog 24 [exL.d,PAt.d ⟨0,3⟩] (.tup [Span.d ⟨123,125⟩,i64 0]):=FnV.cast (qrM exL ⟨0,3⟩) (by rw[y3])
theorem z6:FnV Tryz.prog 32 [exL.d] (.tup [i64 0,i64 0]):=FnV.cast (qsn exL) (by rw[y6])
end Go.PX
