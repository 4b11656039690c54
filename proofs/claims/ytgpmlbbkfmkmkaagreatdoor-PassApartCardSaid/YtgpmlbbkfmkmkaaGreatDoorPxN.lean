import Derived.Test.YtgpmlbbkfmkmkaaGreatDoorPxM
import Derived.Test.YtgpmlbbkfmkmkaaGreatDoorPxL
set_option linter.all false
set_option maxRecDepth 10000
namespace Go.PX
open Go.Proofs
theorem qlg{l:PLog}{wider:Int}{conf:List Int}{i:Nat}{b:PBook}{s:LkS}(hb:l.books[i]?=some b)(h:LInv l wider conf i s):EInv l wider conf i 0 b s.pers ⟨s.steps++jl wider ⟨i,0⟩ b.off,s.many+1,s.first,⟨i,0⟩,[],[]⟩:=by
 refine⟨rfl,rfl,fun num=>⟨Int.le_refl 0,fun h=>absurd h (by show ¬ ((1:Int)<=0);decide),fun⟨m,hm,_⟩=>absurd hm (Nat.not_lt_zero m)⟩,fun num r hr=>?_,fun j m c y num hy hf hc ha=>?_,fun e he=>?_,fun j c hc hj e he=>?_,fun j c n hc hn hjn e he=>?_,fun j m c x z hx hz ha=>?_⟩
 ·obtain⟨j,m,c,x,h1,h2,h3,h4,h5⟩:=h.fst num r hr
  exact⟨j,m,c,x,h1,h2,h3,h4,.inl h5⟩
 ·rcases ha with ha | ⟨_,ha⟩
  ·obtain⟨r,h1,h2⟩:=h.got j m c y num hy hf hc ha
   exact⟨r,h1,h2.imp id (Both.mono fun e he=>List.mem_append_left _ he)⟩
  ·exact absurd ha (Nat.not_lt_zero m)
 ·rcases List.mem_append.1 he with he | he
  ·exact h.sub e he
  ·exact .off i b hb e he
 ·rcases Nat.lt_or_ge j i with hlt | hge
  ·exact List.mem_append_left _ (h.off j c hc hlt e he)
  ·have:j=i:=by omega
   subst this;have hcb:c=b:=Option.some.inj (hc.symm.trans hb);subst hcb;exact List.mem_append_right _ he
 ·rcases hjn with⟨hj,hn2⟩ | ⟨_,hn2⟩
  ·exact List.mem_append_left _ (h.set j c n hc hn hj hn2 e he)
  ·rw[qiJ]at hn2;omega
 ·rcases ha with ha | ⟨_,ha⟩
  ·exact List.mem_append_left _ (h.ord j m c x z hx hz ha)
  ·omega
def zN(l:List Per):List (List D):=l.map Per.cells
set_option maxHeartbeats 4000000 in
theorem qsi(l:PLog)(hR:LogR l)(wider:Int)(hw:0<=wider/\wider<=1048576)(conf:List Int)(hc:conf.length<1000000):FnV Tryz.prog 68 [l.d,i64 wider,qU conf] (qac l (qY l wider conf)):=by
 refine qG mixed ql Tryz.func68 rfl (ft:=qrJ) 3 (by decide +kernel) (by rfl) fun {σ} Y st=>?_;conv=>whnf
 have hbl:=hR.books;unfold qY;generalize hRES:qeE l wider conf 0 l.books ⟨[],0,[],[]⟩=RES;have hL0:LInv l wider conf 0 ⟨[],0,[],[]⟩:=⟨⟨rfl,fun j c _ hj=>absurd hj (Nat.not_lt_zero j)⟩,fun num r hr=>(by cases hr),fun j m c y num _ _ _ hj=>absurd hj (Nat.not_lt_zero j),fun e he=>(by cases he),fun j c _ hj=>absurd hj (Nat.not_lt_zero j),fun j c n _ _ hj=>absurd hj (Nat.not_lt_zero j),fun j m c x z _ _ hj=>absurd hj (Nat.not_lt_zero j)⟩;refine zr (T:=tys) ql (by exact qi mixed ql (by decide +kernel)) l.books (fun i (x:LkS)=>⟨[(2,.d (qU conf)),(3,.ptr 3 0),(4,.ptr 4 0),(7,.ptr 7 0),(8,.mp 26),(9,.clo 112 [.ptr 7 0,.ptr 4 0]),(29,.d (qR l.books)),(30,.d (i64 l.books.length)),(31,.d (i64 i))],[(3,.box (.dd l.cells)),(4,.box (.dd [i64 wider])),(7,.box (.vv [.ptr 25 0])),(25,.box (.vv [.d (i64 l.near),.d (qR l.books),.sl 900000 5 0 x.steps.length,.sl 900001 1 0 x.pers.length,.d (i64 x.many)])),(900000,.arr 5 (.dd (qu x.steps))),(900001,.arr 1 (.dd (zJ x.pers))),(26,.map (kvV qD PAt.d x.first))],st⟩)
  (fun i r x=>qeE l wider conf i r x=RES/\LInv l wider conf i x/\x.steps.length<=26*i/\(0<=x.many/\x.many<=9*i)) ⟨[],0,[],[]⟩ ?wk ⟨hRES,hL0,by simp,by simp⟩ ?_ ?_
 case wk=>
  refine(Wk.bornAtD 25 900000 5 [i64 l.near,qR l.books] [.nils,i64 0] rfl rfl rfl rfl rfl).trans ((Wk.bornAt 25 900001 1 [.d (i64 l.near),.d (qR l.books),.sl 900000 5 0 0] [.d (i64 0)] rfl rfl rfl rfl).trans (Wk.sub (by repeat' first|exact trivial|refine⟨?_,?_⟩|rfl|(simp only[List.length_map];rfl)|simp[PX.get]) (by repeat' first|exact trivial|refine⟨?_,?_⟩|rfl|(simp only[List.length_map];rfl)|simp[PX.get])))
 ·rintro i b r x hx hi hr2 ⟨hlk,hI,hst,hmn⟩
  rw[qeE]at hlk;have hB:=hR.book b (List.mem_of_getElem? hx);have hI2:=qjE hx hI;generalize hy:qhE l wider conf i b x=y at hlk hI2;unfold qhE at hy;conv=>whnf
  refine qj (fun _=>?_) (fun h=>absurd hi (by simpa using h));conv=>whnf
  refine qw hx ?_;conv=>whnf
  refine qS (qnF l wider hw x.steps (by omega) x.pers x.many (by omega) ⟨i,0⟩ b.off hB.off) [7,4,25,900000,900001] rfl ?lent rfl ?_
  case lent=>exact⟨_,_,rfl,zQ rfl ⟨⟨rfl,rfl⟩,trivial⟩,_,_,rfl,rfl,_,_,rfl,zQ rfl ⟨rfl,rfl,⟨rfl,rfl,rfl,rfl⟩,⟨rfl,rfl,rfl,rfl⟩,rfl,trivial⟩,_,_,rfl,rfl,_,_,rfl,rfl,rfl⟩
  conv=>whnf
  have hE0:=qlg hx hI;generalize hER:qeD l wider conf i b x.pers 0 b.ents ⟨x.steps++jl wider ⟨i,0⟩ b.off,x.many+1,x.first,⟨i,0⟩,[],[]⟩=ER at hy;simp only at hy;refine zr (T:=tys) ql (by exact qi mixed ql (by decide +kernel)) b.ents (fun k (e:LkE)=>⟨[(2,.d (qU conf)),(3,.ptr 3 0),(4,.ptr 4 0),(7,.ptr 7 0),(8,.mp 26),(9,.clo 112 [.ptr 7 0,.ptr 4 0]),(29,.d (qR l.books)),(30,.d (i64 l.books.length)),(31,.d (i64 i)),(10,.d (i64 i)),(11,.ptr 11 0),(12,.ptr 12 0),(13,.sl 55 2 0 e.of.length),(14,.mp 43),(45,.d (qeC b.ents)),(46,.d (i64 b.ents.length)),(47,.d (i64 k))],[(3,.box (.dd l.cells)),(4,.box (.dd [i64 wider])),(7,.box (.vv [.ptr 25 0])),(25,.box (.vv [.d (i64 l.near),.d (qR l.books),.sl 900000 5 0 e.steps.length,.sl 900001 1 0 x.pers.length,.d (i64 e.many)])),(900000,.arr 5 (.dd (qu e.steps))),(900001,.arr 1 (.dd (zJ x.pers))),(26,.map (kvV qD PAt.d e.first)),(11,.box (.dd b.cells)),(12,.box (.dd e.now.cells)),(43,.map (kvV qD qD e.mine)),(55,.arr 2 (.dd (zN e.of)))],st⟩)
   (fun k r e=>EInv l wider conf i k b x.pers e/\qeD l wider conf i b x.pers k r e=ER/\e.steps.length<=26*i+2+3*k/\(0<=e.many/\e.many<=9*i+1+k) /\ ∀ num,(zu e.mine num).getD 0<=k) ⟨x.steps++jl wider ⟨i,0⟩ b.off,x.many+1,x.first,⟨i,0⟩,[],[]⟩ ?wk2 ⟨hE0,hER,by simp[jl];omega,by simp only;omega,fun num=>by show(0:Int)<=_;omega⟩ ?_ ?_
  case wk2=>
   refine(Wk.born 13 55 2 rfl rfl rfl).trans ((Wk.move 102688 900000 rfl rfl).trans (Wk.sub (by repeat' first|exact trivial|refine⟨?_,?_⟩|rfl|(simp only[List.length_map];rfl)|simp[PX.get]) (by repeat' first|exact trivial|refine⟨?_,?_⟩|rfl|(simp only[List.length_map];rfl)|simp[PX.get])))
  ·rintro k y r e hyk hk hr3 ⟨hE,hes,hsl,hem,hmi⟩
   rw[qeD]at hes;have hE2:=qlT hI.pers.2 hx hyk hE;generalize hnx:qnQ l wider conf i b x.pers k y e=e2 at hes hE2;unfold qnQ at hnx;simp only at hnx;have hK2:=qqj hx hyk hE;generalize hST:(if k=0 then e.steps else e.steps ++ [(⟨((e.of ++ [e.now])[k-1]?).getD .right,e.now,y.shown-((b.ents[k-1]?).getD ⟨0,0,.empty,0⟩).shown⟩:zt)])=ST at hnx hK2;conv=>whnf
   refine qj (fun _=>?_) (fun h=>absurd hk (by simpa using h));conv=>whnf
   refine qw hyk ?_;conv=>whnf
   refine qn rfl ?_;conv=>whnf
   have hofl:e.of.length=k:=by rw[hE.of];simp
   have hk8:k<8:=by have:=hB.ents;omega
   have hy0:=hB.ent y (List.mem_of_getElem? hyk);refine qn (by simp[Els.len,zN]) ?_;conv=>whnf
   refine zL (decide_eq_true (by
    show((zN e.of).length+1)*16<=140737488355328;have:=hB.ents;simp[zN];omega)) ?_
   conv=>whnf
   refine qj (fun h1=>?_) (fun h1=>?_)
   ·have h1:0<k:=by have:=of_decide_eq_true h1;omega
    conv=>whnf
    refine qm ((k-1:Nat):Int) (by omega) (qb (by omega)) ?_;conv=>whnf
    obtain⟨z,hz⟩:∃ z,b.ents[k-1]?=some z:=⟨_,List.getElem?_eq_getElem (by omega)⟩;have hz0:=hB.ent z (List.mem_of_getElem? hz);have hofk:(e.of ++ [e.now])[k-1]?=some ⟨i,qJ b (k-1)⟩:=by
     rw[List.getElem?_append_left (by omega),hE.of,List.getElem?_map,List.getElem?_range (by omega)];rfl
    refine qj (fun _=>?_) (fun h=>absurd h (by
     show ¬ ((decide (0<=((k-1:Nat):Int))&&decide (((k-1:Nat):Int)<(((zN e.of).length+1:Nat):Int)))=false);simp[zN,hofl];omega))
    conv=>whnf
    refine jb (Per.cells ⟨i,qJ b (k-1)⟩) (by
     show(zN e.of ++ [e.now.cells])[0+((k-1:Nat):Int).toNat]?=_;have:zN e.of ++ [e.now.cells]=zN (e.of ++ [e.now]):=by simp[zN]
     rw[this,Int.toNat_natCast,Nat.zero_add];unfold zN;rw[List.getElem?_map,hofk];rfl) ?_
    conv=>whnf
    refine qm ((k-1:Nat):Int) (by omega) (qb (by omega)) ?_;conv=>whnf
    refine qI z.cells ⟨by omega,by rw[Int.toNat_natCast,List.getElem?_map,hz];rfl⟩ ?_;conv=>whnf
    refine qf (qb (by(try dsimp only);omega)) ?_;conv=>whnf
    refine qn rfl ?_;conv=>whnf
    refine qn (by simp[Els.len,qu]) ?_;conv=>whnf
    refine zL (decide_eq_true (by
     show((qu e.steps).length+1)*40<=140737488355328;simp[qu];omega)) ?_
    conv=>whnf
    rw[if_neg (by omega),hofk,hz]at hST;simp only[Option.getD_some]at hST;refine CallA.wkK ?_;refine qk (qpd y) rfl rfl ?_;refine⟨⟨[(2,.d (qU conf)),(3,.ptr 3 0),(4,.ptr 4 0),(7,.ptr 7 0),(8,.mp 26),(9,.clo 112 [.ptr 7 0,.ptr 4 0]),(29,.d (qR l.books)),(30,.d (i64 l.books.length)),(31,.d (i64 i)),(10,.d (i64 i)),(11,.ptr 11 0),(12,.ptr 12 0),(13,.sl 55 2 0 (e.of ++ [e.now]).length),(14,.mp 43),(15,.d (i64 k)),(16,.ptr 16 0),(45,.d (qeC b.ents)),(46,.d (i64 b.ents.length)),(47,.d (i64 k)),(85,.d (zj y))],[(3,.box (.dd l.cells)),(4,.box (.dd [i64 wider])),(7,.box (.vv [.ptr 25 0])),(25,.box (.vv [.d (i64 l.near),.d (qR l.books),.sl 900000 5 0 ST.length,.sl 900001 1 0 x.pers.length,.d (i64 e.many)])),(900000,.arr 5 (.dd (qu ST))),(900001,.arr 1 (.dd (zJ x.pers))),(26,.map (kvV qD PAt.d e.first)),(11,.box (.dd b.cells)),(12,.box (.dd e.now.cells)),(16,.box (.dd y.cells)),(43,.map (kvV qD qD e.mine)),(55,.arr 2 (.dd (zN (e.of ++ [e.now]))))],st⟩,(Wk.move 81 900000 rfl rfl).trans (Wk.sub ⟨rfl,rfl,rfl,rfl,rfl,rfl,rfl,rfl,rfl,rfl,rfl,rfl,?_,rfl,rfl,rfl,rfl,rfl,rfl,rfl,trivial⟩ ⟨rfl,rfl,rfl,?_,?_,rfl,rfl,rfl,rfl,rfl,rfl,?_,trivial⟩),?_⟩
    ·show some (V.sl 55 2 0 ((zN e.of).length+1))=_
     simp[zN]
    ·show some (Obj.box (Cells.vv [.d (i64 l.near),.d (qR l.books),.sl 900000 5 0 ((qu e.steps).length+1),.sl 900001 1 0 x.pers.length,.d (i64 e.many)]))=_
     rw[<- hST];simp[qu]
    ·rw[<- hST]
     show some (Obj.arr 5 (Els.dd (qu e.steps ++ [[i64 i,i64 (qJ b (k-1):Nat),i64 e.now.book,i64 e.now.n,i64 (y.shown-z.shown)]])))=_;unfold qu;rw[List.map_append];rfl
    ·show some (Obj.arr 2 (Els.dd (zN e.of ++ [e.now.cells])))=_
     simp[zN]
    have hstl:ST.length<=e.steps.length+1:=by rw[<- hST];simp
    by_cases h2:y.kind=2
    ·rw[if_pos h2]at hnx
     have ht:zj y = .ifc 175 (.agg []):=by unfold zj;rw[if_neg (by omega),if_pos h2]
     rw[ht];have hpo:=zE b k;have hse:=qaL b;have hen:=hB.ents;have hnn:e.now.n=(qJ b k:Nat):=by rw[hE.now]
     conv=>whnf
     refine qf (qb (by(try dsimp only);omega)) ?_;conv=>whnf
     refine qS (qnF l wider hw ST (by omega) x.pers e.many (by omega) ⟨e.now.book,e.now.n+1⟩ b.set hB.set) [7,4,25,900000,900001] rfl ?lent rfl ?_
     case lent=>exact⟨_,_,rfl,zQ rfl ⟨⟨rfl,rfl⟩,trivial⟩,_,_,rfl,rfl,_,_,rfl,zQ rfl ⟨rfl,rfl,⟨rfl,rfl,rfl,rfl⟩,⟨rfl,rfl,rfl,rfl⟩,rfl,trivial⟩,_,_,rfl,rfl,_,_,rfl,rfl,rfl⟩
     conv=>whnf
     refine qf (qb (by(try dsimp only);omega)) ?_;conv=>whnf
     subst hnx;refine⟨_,⟨hE2,hes,?_,?_,fun num=>by have:=hmi num;simp only;omega⟩,?_⟩
     ·simp[jl];omega
     ·simp only;omega
     ·exact(Wk.move 106208 900000 rfl rfl).trans (Wk.sub ⟨rfl,rfl,rfl,rfl,rfl,rfl,rfl,rfl,rfl,rfl,rfl,rfl,rfl,rfl,rfl,rfl,rfl,trivial⟩ ⟨rfl,rfl,rfl,rfl,rfl,rfl,rfl,rfl,rfl,rfl,rfl,trivial⟩)
    ·rw[if_neg h2]at hnx
     by_cases h3:y.kind=3
     ·rw[if_pos h3]at hnx
      have ht:zj y = .ifc 156 (.agg [.str y.word,i64 y.number]):=by unfold zj;rw[if_neg (by omega),if_neg h2,if_pos h3]
      rw[ht];have hmn:=hmi y.number;have hm0:=(hE.mine y.number).1;generalize hN:(zu e.mine y.number).getD 0=N at hnx hmn hm0;have hmi2:∀ num,(zu (jL e.mine y.number (N+1)) num).getD 0<=((k+1:Nat):Int):=fun num=>by
       rw[zK]
       split
       ·simp only[Option.getD_some];omega
       ·have:=hmi num;omega
      conv=>whnf
      cases hgm:zu e.mine y.number with
      | none=>
       have hN0:N=0:=by rw[<- hN,hgm];rfl
       have hput:=zf (kd:=qD) (vd:=qD) (N+1) hgm;refine⟨none,qt (kd:=qD) qv hgm 0,?_⟩;conv=>whnf
       refine qm (N+1) (by omega) (qb (by omega)) ?_;conv=>whnf
       refine⟨none,qt (kd:=qD) qv hgm 0,?_⟩;conv=>whnf
       have hput2:kvV qD qD e.mine ++ [(i64 y.number,i64 (N+1))]=kvV qD qD (jL e.mine y.number (N+1)):=hput;rw[hput2];obtain⟨iz,_,hz1,_⟩:=qC (kd:=qD) (vd:=qD) qv (show zu (jL e.mine y.number (N+1)) y.number=some (N+1) by rw[zK,if_pos rfl]) 0;refine⟨_,hz1,?_⟩;conv=>whnf
       refine qj (fun h5=>?_) (fun h5=>?_)
       ·have h5:1<N+1:=of_decide_eq_true h5
        rw[if_pos (.inl (by omega))]at hnx;conv=>whnf
        refine qf (qb (by(try dsimp only);omega)) ?_;conv=>whnf
        subst hnx;exact⟨_,⟨hE2,hes,by simp only;omega,by simp only;omega,hmi2⟩,(Wk.sub ⟨rfl,rfl,rfl,rfl,rfl,rfl,rfl,rfl,rfl,rfl,rfl,rfl,rfl,rfl,rfl,rfl,rfl,trivial⟩ ⟨rfl,rfl,rfl,rfl,rfl,rfl,rfl,rfl,rfl,rfl,rfl,trivial⟩)⟩
       ·have h5:¬ 1<N+1:=of_decide_eq_false h5
        conv=>whnf
        refine qk (qpQ conf y.number (by omega)) rfl rfl ?_;conv=>whnf
        refine qj (fun h6=>?_) (fun h6=>?_)
        ·have h6:y.number∈conf:=of_decide_eq_true h6
         rw[if_pos (.inr h6)]at hnx;conv=>whnf
         refine qf (qb (by(try dsimp only);omega)) ?_;conv=>whnf
         subst hnx;exact⟨_,⟨hE2,hes,by simp only;omega,by simp only;omega,hmi2⟩,(Wk.sub ⟨rfl,rfl,rfl,rfl,rfl,rfl,rfl,rfl,rfl,rfl,rfl,rfl,rfl,rfl,rfl,rfl,rfl,trivial⟩ ⟨rfl,rfl,rfl,rfl,rfl,rfl,rfl,rfl,rfl,rfl,rfl,trivial⟩)⟩
        ·have h6:¬ y.number∈conf:=of_decide_eq_false h6
         rw[if_neg (fun h=>h.elim (fun h=>h5 (by omega)) h6)]at hnx;conv=>whnf
         cases hgf:zu e.first y.number with
         | none=>
          rw[hgf]at hnx;simp only at hnx;have hpf:=zf (kd:=qD) (vd:=PAt.d) (⟨i,k⟩:PAt) hgf;refine⟨none,qt (kd:=qD) qv hgf 0,?_⟩;conv=>whnf
          refine⟨none,qt (kd:=qD) qv hgf 0,?_⟩;conv=>whnf
          have hpf2:kvV qD PAt.d e.first ++ [(i64 y.number,PAt.d ⟨i,k⟩)]=kvV qD PAt.d (jL e.first y.number ⟨i,k⟩):=hpf
          refine qf (qb (by(try dsimp only);omega)) ?_;conv=>whnf
          subst hnx;refine⟨_,⟨hE2,hes,by simp only;omega,by simp only;omega,hmi2⟩,?_⟩;simp only;rw[<- hpf2];exact(Wk.sub ⟨rfl,rfl,rfl,rfl,rfl,rfl,rfl,rfl,rfl,rfl,rfl,rfl,rfl,rfl,rfl,rfl,rfl,trivial⟩ ⟨rfl,rfl,rfl,rfl,rfl,rfl,rfl,rfl,rfl,rfl,rfl,trivial⟩)
         | some r0=>
          rw[hgf]at hnx;simp only at hnx;obtain⟨j0,m0,c0,x0,hr0,hx0,hf0,-,hah⟩:=hE.fst _ _ hgf;obtain⟨iy,_,hy1,_⟩:=qC (kd:=qD) (vd:=PAt.d) qv hgf 0;refine⟨_,hy1,?_⟩;conv=>whnf
          subst hr0;have hml:=(List.getElem?_eq_some_iff.1 hx0.ent).1;have hjl:=(List.getElem?_eq_some_iff.1 hx0.book).1;refine qI c0.cells ⟨by show(0:Int)<=((j0:Nat):Int);omega,by show(l.books.map PBook.cells)[((j0:Nat):Int).toNat]?=_;rw[Int.toNat_natCast,List.getElem?_map,hx0.book];rfl⟩ ?_;conv=>whnf
          refine qI x0.cells ⟨by show(0:Int)<=((m0:Nat):Int);omega,by show(c0.ents.map PEnt.cells)[((m0:Nat):Int).toNat]?=_;rw[Int.toNat_natCast,List.getElem?_map,hx0.ent];rfl⟩ ?_;conv=>whnf
          have hxs:=(hR.book c0 (List.mem_of_getElem? hx0.book)).ent x0 (List.mem_of_getElem? hx0.ent);have hj0:j0<i:=by
           rcases hah with hah | ⟨hji,hah⟩
           ·exact hah
           ·have hb0:=hx0.book
            rw[hji]at hb0;have hcb:c0=b:=Option.some.inj (hb0.symm.trans hx);have h7:=(hE.mine y.number).2.2 ⟨m0,hah,hcb▸hf0⟩;rw[hN]at h7;omega
          have hpj:=hI.pers.2 j0 c0 hx0.book hj0;refine qm (y.shown-x0.shown) rfl (qb (by omega)) ?_;conv=>whnf
          refine qj (fun _=>?_) (fun h=>absurd h (by
           show ¬ ((decide (0<=((j0:Nat):Int))&&decide (((j0:Nat):Int)<((x.pers.length:Nat):Int)))=false);have:=hI.pers.1;simp;omega))
          conv=>whnf
          refine jb [.vs ((jM j0 c0).map Per.cells)] (by
           show(zJ x.pers)[0+((j0:Nat):Int).toNat]?=_;unfold zJ;rw[Int.toNat_natCast,Nat.zero_add,List.getElem?_map,hpj];rfl) ?_
          conv=>whnf
          refine qI (Per.cells ⟨j0,(qJ c0 m0:Nat)⟩) ⟨by show(0:Int)<=((m0:Nat):Int);omega,by show((jM j0 c0).map Per.cells)[((m0:Nat):Int).toNat]?=_;rw[Int.toNat_natCast,List.getElem?_map,jG hml];rfl⟩ ?_;conv=>whnf
          refine qm (-(y.shown-x0.shown)) (by omega) (qb (by omega)) ?_;conv=>whnf
          refine qn rfl ?_;conv=>whnf
          refine qn (by simp[Els.len,qu]) ?_;conv=>whnf
          refine zL (decide_eq_true (by
           show((qu ST).length+2)*40<=140737488355328;simp[qu];omega)) ?_
          conv=>whnf
          refine qf (qb (by(try dsimp only);omega)) ?_;conv=>whnf
          rw[qaK hx0 hpj,jc hx0]at hnx;subst hnx;refine⟨_,⟨hE2,hes,by simp only[List.length_append,List.length_cons,List.length_nil];omega,by simp only;omega,hmi2⟩,?_⟩;have hsc:∀ p q:zt,qu (ST ++ [p,q])=qu ST++qu [p,q]:=fun p q=>by unfold qu;rw[List.map_append]
          simp only[hsc];refine(Wk.move 174 900000 rfl rfl).trans (Wk.sub ⟨rfl,rfl,rfl,rfl,rfl,rfl,rfl,rfl,rfl,rfl,rfl,rfl,rfl,rfl,rfl,rfl,rfl,trivial⟩ ⟨rfl,rfl,rfl,?_,rfl,rfl,rfl,rfl,rfl,rfl,rfl,trivial⟩);show some (Obj.box (Cells.vv [.d (i64 l.near),.d (qR l.books),.sl 900000 5 0 ((qu ST).length+2),.sl 900001 1 0 x.pers.length,.d (i64 e.many)]))=_;simp[qu]
      | some n0=>
       have hN0:N=n0:=by rw[<- hN,hgm];rfl
       obtain⟨ix,_,hx1,hx2,_⟩:=qC (kd:=qD) (vd:=qD) qv hgm 0;refine⟨_,hx1,?_⟩;conv=>whnf
       refine qm (N+1) (by rw[hN0]) (qb (by omega)) ?_;conv=>whnf
       refine⟨_,hx1,?_⟩;conv=>whnf
       have hput2:(kvV qD qD e.mine).set (0+ix,qD n0).fst (i64 y.number,i64 (N+1))=kvV qD qD (jL e.mine y.number (N+1)):=by
        show(kvV qD qD e.mine).set (0+ix) _=_;rw[Nat.zero_add];exact hx2 (N+1)
       rw[hput2];obtain⟨iz,_,hz1,_⟩:=qC (kd:=qD) (vd:=qD) qv (show zu (jL e.mine y.number (N+1)) y.number=some (N+1) by rw[zK,if_pos rfl]) 0;refine⟨_,hz1,?_⟩;conv=>whnf
       refine qj (fun h5=>?_) (fun h5=>?_)
       ·have h5:1<N+1:=of_decide_eq_true h5
        rw[if_pos (.inl (by omega))]at hnx;conv=>whnf
        refine qf (qb (by(try dsimp only);omega)) ?_;conv=>whnf
        subst hnx;exact⟨_,⟨hE2,hes,by simp only;omega,by simp only;omega,hmi2⟩,(Wk.sub ⟨rfl,rfl,rfl,rfl,rfl,rfl,rfl,rfl,rfl,rfl,rfl,rfl,rfl,rfl,rfl,rfl,rfl,trivial⟩ ⟨rfl,rfl,rfl,rfl,rfl,rfl,rfl,rfl,rfl,rfl,rfl,trivial⟩)⟩
       ·have h5:¬ 1<N+1:=of_decide_eq_false h5
        conv=>whnf
        refine qk (qpQ conf y.number (by omega)) rfl rfl ?_;conv=>whnf
        refine qj (fun h6=>?_) (fun h6=>?_)
        ·have h6:y.number∈conf:=of_decide_eq_true h6
         rw[if_pos (.inr h6)]at hnx;conv=>whnf
         refine qf (qb (by(try dsimp only);omega)) ?_;conv=>whnf
         subst hnx;exact⟨_,⟨hE2,hes,by simp only;omega,by simp only;omega,hmi2⟩,(Wk.sub ⟨rfl,rfl,rfl,rfl,rfl,rfl,rfl,rfl,rfl,rfl,rfl,rfl,rfl,rfl,rfl,rfl,rfl,trivial⟩ ⟨rfl,rfl,rfl,rfl,rfl,rfl,rfl,rfl,rfl,rfl,rfl,trivial⟩)⟩
        ·have h6:¬ y.number∈conf:=of_decide_eq_false h6
         rw[if_neg (fun h=>h.elim (fun h=>h5 (by omega)) h6)]at hnx;conv=>whnf
         cases hgf:zu e.first y.number with
         | none=>
          rw[hgf]at hnx;simp only at hnx;have hpf:=zf (kd:=qD) (vd:=PAt.d) (⟨i,k⟩:PAt) hgf;refine⟨none,qt (kd:=qD) qv hgf 0,?_⟩;conv=>whnf
          refine⟨none,qt (kd:=qD) qv hgf 0,?_⟩;conv=>whnf
          have hpf2:kvV qD PAt.d e.first ++ [(i64 y.number,PAt.d ⟨i,k⟩)]=kvV qD PAt.d (jL e.first y.number ⟨i,k⟩):=hpf
          refine qf (qb (by(try dsimp only);omega)) ?_;conv=>whnf
          subst hnx;refine⟨_,⟨hE2,hes,by simp only;omega,by simp only;omega,hmi2⟩,?_⟩;simp only;rw[<- hpf2];exact(Wk.sub ⟨rfl,rfl,rfl,rfl,rfl,rfl,rfl,rfl,rfl,rfl,rfl,rfl,rfl,rfl,rfl,rfl,rfl,trivial⟩ ⟨rfl,rfl,rfl,rfl,rfl,rfl,rfl,rfl,rfl,rfl,rfl,trivial⟩)
         | some r0=>
          rw[hgf]at hnx;simp only at hnx;obtain⟨j0,m0,c0,x0,hr0,hx0,hf0,-,hah⟩:=hE.fst _ _ hgf;obtain⟨iy,_,hy1,_⟩:=qC (kd:=qD) (vd:=PAt.d) qv hgf 0;refine⟨_,hy1,?_⟩;conv=>whnf
          subst hr0;have hml:=(List.getElem?_eq_some_iff.1 hx0.ent).1;have hjl:=(List.getElem?_eq_some_iff.1 hx0.book).1;refine qI c0.cells ⟨by show(0:Int)<=((j0:Nat):Int);omega,by show(l.books.map PBook.cells)[((j0:Nat):Int).toNat]?=_;rw[Int.toNat_natCast,List.getElem?_map,hx0.book];rfl⟩ ?_;conv=>whnf
          refine qI x0.cells ⟨by show(0:Int)<=((m0:Nat):Int);omega,by show(c0.ents.map PEnt.cells)[((m0:Nat):Int).toNat]?=_;rw[Int.toNat_natCast,List.getElem?_map,hx0.ent];rfl⟩ ?_;conv=>whnf
          have hxs:=(hR.book c0 (List.mem_of_getElem? hx0.book)).ent x0 (List.mem_of_getElem? hx0.ent);have hj0:j0<i:=by
           rcases hah with hah | ⟨hji,hah⟩
           ·exact hah
           ·have hb0:=hx0.book
            rw[hji]at hb0;have hcb:c0=b:=Option.some.inj (hb0.symm.trans hx);have h7:=(hE.mine y.number).2.2 ⟨m0,hah,hcb▸hf0⟩;rw[hN]at h7;omega
          have hpj:=hI.pers.2 j0 c0 hx0.book hj0;refine qm (y.shown-x0.shown) rfl (qb (by omega)) ?_;conv=>whnf
          refine qj (fun _=>?_) (fun h=>absurd h (by
           show ¬ ((decide (0<=((j0:Nat):Int))&&decide (((j0:Nat):Int)<((x.pers.length:Nat):Int)))=false);have:=hI.pers.1;simp;omega))
          conv=>whnf
          refine jb [.vs ((jM j0 c0).map Per.cells)] (by
           show(zJ x.pers)[0+((j0:Nat):Int).toNat]?=_;unfold zJ;rw[Int.toNat_natCast,Nat.zero_add,List.getElem?_map,hpj];rfl) ?_
          conv=>whnf
          refine qI (Per.cells ⟨j0,(qJ c0 m0:Nat)⟩) ⟨by show(0:Int)<=((m0:Nat):Int);omega,by show((jM j0 c0).map Per.cells)[((m0:Nat):Int).toNat]?=_;rw[Int.toNat_natCast,List.getElem?_map,jG hml];rfl⟩ ?_;conv=>whnf
          refine qm (-(y.shown-x0.shown)) (by omega) (qb (by omega)) ?_;conv=>whnf
          refine qn rfl ?_;conv=>whnf
          refine qn (by simp[Els.len,qu]) ?_;conv=>whnf
          refine zL (decide_eq_true (by
           show((qu ST).length+2)*40<=140737488355328;simp[qu];omega)) ?_
          conv=>whnf
          refine qf (qb (by(try dsimp only);omega)) ?_;conv=>whnf
          rw[qaK hx0 hpj,jc hx0]at hnx;subst hnx;refine⟨_,⟨hE2,hes,by simp only[List.length_append,List.length_cons,List.length_nil];omega,by simp only;omega,hmi2⟩,?_⟩;have hsc:∀ p q:zt,qu (ST ++ [p,q])=qu ST++qu [p,q]:=fun p q=>by unfold qu;rw[List.map_append]
          simp only[hsc];refine(Wk.move 174 900000 rfl rfl).trans (Wk.sub ⟨rfl,rfl,rfl,rfl,rfl,rfl,rfl,rfl,rfl,rfl,rfl,rfl,rfl,rfl,rfl,rfl,rfl,trivial⟩ ⟨rfl,rfl,rfl,?_,rfl,rfl,rfl,rfl,rfl,rfl,rfl,trivial⟩);show some (Obj.box (Cells.vv [.d (i64 l.near),.d (qR l.books),.sl 900000 5 0 ((qu ST).length+2),.sl 900001 1 0 x.pers.length,.d (i64 e.many)]))=_;simp[qu]
     ·rw[if_neg h3]at hnx
      have h1k:y.kind=1:=by omega
      have ht:zj y = .ifc 138 (.agg [.str y.word]):=by unfold zj;rw[if_pos h1k]
      rw[ht];conv=>whnf
      refine qf (qb (by(try dsimp only);omega)) ?_;conv=>whnf
      subst hnx;exact⟨_,⟨hE2,hes,by simp only;omega,by simp only;omega,fun num=>by have:=hmi num;simp only;omega⟩,(Wk.sub ⟨rfl,rfl,rfl,rfl,rfl,rfl,rfl,rfl,rfl,rfl,rfl,rfl,rfl,rfl,rfl,rfl,rfl,trivial⟩ ⟨rfl,rfl,rfl,rfl,rfl,rfl,rfl,rfl,rfl,rfl,rfl,trivial⟩)⟩
   ·have h1:k=0:=by have:=of_decide_eq_false h1;omega
    rw[if_pos h1]at hST;conv=>whnf
    refine CallA.wkK ?_;refine qk (qpd y) rfl rfl ?_;refine⟨⟨[(2,.d (qU conf)),(3,.ptr 3 0),(4,.ptr 4 0),(7,.ptr 7 0),(8,.mp 26),(9,.clo 112 [.ptr 7 0,.ptr 4 0]),(29,.d (qR l.books)),(30,.d (i64 l.books.length)),(31,.d (i64 i)),(10,.d (i64 i)),(11,.ptr 11 0),(12,.ptr 12 0),(13,.sl 55 2 0 (e.of ++ [e.now]).length),(14,.mp 43),(15,.d (i64 k)),(16,.ptr 16 0),(45,.d (qeC b.ents)),(46,.d (i64 b.ents.length)),(47,.d (i64 k)),(85,.d (zj y))],[(3,.box (.dd l.cells)),(4,.box (.dd [i64 wider])),(7,.box (.vv [.ptr 25 0])),(25,.box (.vv [.d (i64 l.near),.d (qR l.books),.sl 900000 5 0 ST.length,.sl 900001 1 0 x.pers.length,.d (i64 e.many)])),(900000,.arr 5 (.dd (qu ST))),(900001,.arr 1 (.dd (zJ x.pers))),(26,.map (kvV qD PAt.d e.first)),(11,.box (.dd b.cells)),(12,.box (.dd e.now.cells)),(16,.box (.dd y.cells)),(43,.map (kvV qD qD e.mine)),(55,.arr 2 (.dd (zN (e.of ++ [e.now]))))],st⟩,Wk.sub ⟨rfl,rfl,rfl,rfl,rfl,rfl,rfl,rfl,rfl,rfl,rfl,rfl,?_,rfl,rfl,rfl,rfl,rfl,rfl,rfl,trivial⟩ ⟨rfl,rfl,rfl,?_,?_,rfl,rfl,rfl,rfl,rfl,rfl,?_,trivial⟩,?_⟩
    ·show some (V.sl 55 2 0 ((zN e.of).length+1))=_
     simp[zN]
    ·rw[<- hST];rfl
    ·rw[<- hST];rfl
    ·show some (Obj.arr 2 (Els.dd (zN e.of ++ [e.now.cells])))=_
     simp[zN]
    have hstl:ST.length<=e.steps.length+1:=by rw[<- hST];simp
    by_cases h2:y.kind=2
    ·rw[if_pos h2]at hnx
     have ht:zj y = .ifc 175 (.agg []):=by unfold zj;rw[if_neg (by omega),if_pos h2]
     rw[ht];have hpo:=zE b k;have hse:=qaL b;have hen:=hB.ents;have hnn:e.now.n=(qJ b k:Nat):=by rw[hE.now]
     conv=>whnf
     refine qf (qb (by(try dsimp only);omega)) ?_;conv=>whnf
     refine qS (qnF l wider hw ST (by omega) x.pers e.many (by omega) ⟨e.now.book,e.now.n+1⟩ b.set hB.set) [7,4,25,900000,900001] rfl ?lent rfl ?_
     case lent=>exact⟨_,_,rfl,zQ rfl ⟨⟨rfl,rfl⟩,trivial⟩,_,_,rfl,rfl,_,_,rfl,zQ rfl ⟨rfl,rfl,⟨rfl,rfl,rfl,rfl⟩,⟨rfl,rfl,rfl,rfl⟩,rfl,trivial⟩,_,_,rfl,rfl,_,_,rfl,rfl,rfl⟩
     conv=>whnf
     refine qf (qb (by(try dsimp only);omega)) ?_;conv=>whnf
     subst hnx;refine⟨_,⟨hE2,hes,?_,?_,fun num=>by have:=hmi num;simp only;omega⟩,?_⟩
     ·simp[jl];omega
     ·simp only;omega
     ·exact(Wk.move 106208 900000 rfl rfl).trans (Wk.sub ⟨rfl,rfl,rfl,rfl,rfl,rfl,rfl,rfl,rfl,rfl,rfl,rfl,rfl,rfl,rfl,rfl,rfl,trivial⟩ ⟨rfl,rfl,rfl,rfl,rfl,rfl,rfl,rfl,rfl,rfl,rfl,trivial⟩)
    ·rw[if_neg h2]at hnx
     by_cases h3:y.kind=3
     ·rw[if_pos h3]at hnx
      have ht:zj y = .ifc 156 (.agg [.str y.word,i64 y.number]):=by unfold zj;rw[if_neg (by omega),if_neg h2,if_pos h3]
      rw[ht];have hmn:=hmi y.number;have hm0:=(hE.mine y.number).1;generalize hN:(zu e.mine y.number).getD 0=N at hnx hmn hm0;have hmi2:∀ num,(zu (jL e.mine y.number (N+1)) num).getD 0<=((k+1:Nat):Int):=fun num=>by
       rw[zK]
       split
       ·simp only[Option.getD_some];omega
       ·have:=hmi num;omega
      conv=>whnf
      cases hgm:zu e.mine y.number with
      | none=>
       have hN0:N=0:=by rw[<- hN,hgm];rfl
       have hput:=zf (kd:=qD) (vd:=qD) (N+1) hgm;refine⟨none,qt (kd:=qD) qv hgm 0,?_⟩;conv=>whnf
       refine qm (N+1) (by omega) (qb (by omega)) ?_;conv=>whnf
       refine⟨none,qt (kd:=qD) qv hgm 0,?_⟩;conv=>whnf
       have hput2:kvV qD qD e.mine ++ [(i64 y.number,i64 (N+1))]=kvV qD qD (jL e.mine y.number (N+1)):=hput;rw[hput2];obtain⟨iz,_,hz1,_⟩:=qC (kd:=qD) (vd:=qD) qv (show zu (jL e.mine y.number (N+1)) y.number=some (N+1) by rw[zK,if_pos rfl]) 0;refine⟨_,hz1,?_⟩;conv=>whnf
       refine qj (fun h5=>?_) (fun h5=>?_)
       ·have h5:1<N+1:=of_decide_eq_true h5
        rw[if_pos (.inl (by omega))]at hnx;conv=>whnf
        refine qf (qb (by(try dsimp only);omega)) ?_;conv=>whnf
        subst hnx;exact⟨_,⟨hE2,hes,by simp only;omega,by simp only;omega,hmi2⟩,(Wk.sub ⟨rfl,rfl,rfl,rfl,rfl,rfl,rfl,rfl,rfl,rfl,rfl,rfl,rfl,rfl,rfl,rfl,rfl,trivial⟩ ⟨rfl,rfl,rfl,rfl,rfl,rfl,rfl,rfl,rfl,rfl,rfl,trivial⟩)⟩
       ·have h5:¬ 1<N+1:=of_decide_eq_false h5
        conv=>whnf
        refine qk (qpQ conf y.number (by omega)) rfl rfl ?_;conv=>whnf
        refine qj (fun h6=>?_) (fun h6=>?_)
        ·have h6:y.number∈conf:=of_decide_eq_true h6
         rw[if_pos (.inr h6)]at hnx;conv=>whnf
         refine qf (qb (by(try dsimp only);omega)) ?_;conv=>whnf
         subst hnx;exact⟨_,⟨hE2,hes,by simp only;omega,by simp only;omega,hmi2⟩,(Wk.sub ⟨rfl,rfl,rfl,rfl,rfl,rfl,rfl,rfl,rfl,rfl,rfl,rfl,rfl,rfl,rfl,rfl,rfl,trivial⟩ ⟨rfl,rfl,rfl,rfl,rfl,rfl,rfl,rfl,rfl,rfl,rfl,trivial⟩)⟩
        ·have h6:¬ y.number∈conf:=of_decide_eq_false h6
         rw[if_neg (fun h=>h.elim (fun h=>h5 (by omega)) h6)]at hnx;conv=>whnf
         cases hgf:zu e.first y.number with
         | none=>
          rw[hgf]at hnx;simp only at hnx;have hpf:=zf (kd:=qD) (vd:=PAt.d) (⟨i,k⟩:PAt) hgf;refine⟨none,qt (kd:=qD) qv hgf 0,?_⟩;conv=>whnf
          refine⟨none,qt (kd:=qD) qv hgf 0,?_⟩;conv=>whnf
          have hpf2:kvV qD PAt.d e.first ++ [(i64 y.number,PAt.d ⟨i,k⟩)]=kvV qD PAt.d (jL e.first y.number ⟨i,k⟩):=hpf
          refine qf (qb (by(try dsimp only);omega)) ?_;conv=>whnf
          subst hnx;refine⟨_,⟨hE2,hes,by simp only;omega,by simp only;omega,hmi2⟩,?_⟩;simp only;rw[<- hpf2];exact(Wk.sub ⟨rfl,rfl,rfl,rfl,rfl,rfl,rfl,rfl,rfl,rfl,rfl,rfl,rfl,rfl,rfl,rfl,rfl,trivial⟩ ⟨rfl,rfl,rfl,rfl,rfl,rfl,rfl,rfl,rfl,rfl,rfl,trivial⟩)
         | some r0=>
          rw[hgf]at hnx;simp only at hnx;obtain⟨j0,m0,c0,x0,hr0,hx0,hf0,-,hah⟩:=hE.fst _ _ hgf;obtain⟨iy,_,hy1,_⟩:=qC (kd:=qD) (vd:=PAt.d) qv hgf 0;refine⟨_,hy1,?_⟩;conv=>whnf
          subst hr0;have hml:=(List.getElem?_eq_some_iff.1 hx0.ent).1;have hjl:=(List.getElem?_eq_some_iff.1 hx0.book).1;refine qI c0.cells ⟨by show(0:Int)<=((j0:Nat):Int);omega,by show(l.books.map PBook.cells)[((j0:Nat):Int).toNat]?=_;rw[Int.toNat_natCast,List.getElem?_map,hx0.book];rfl⟩ ?_;conv=>whnf
          refine qI x0.cells ⟨by show(0:Int)<=((m0:Nat):Int);omega,by show(c0.ents.map PEnt.cells)[((m0:Nat):Int).toNat]?=_;rw[Int.toNat_natCast,List.getElem?_map,hx0.ent];rfl⟩ ?_;conv=>whnf
          have hxs:=(hR.book c0 (List.mem_of_getElem? hx0.book)).ent x0 (List.mem_of_getElem? hx0.ent);have hj0:j0<i:=by
           rcases hah with hah | ⟨hji,hah⟩
           ·exact hah
           ·have hb0:=hx0.book
            rw[hji]at hb0;have hcb:c0=b:=Option.some.inj (hb0.symm.trans hx);have h7:=(hE.mine y.number).2.2 ⟨m0,hah,hcb▸hf0⟩;rw[hN]at h7;omega
          have hpj:=hI.pers.2 j0 c0 hx0.book hj0;refine qm (y.shown-x0.shown) rfl (qb (by omega)) ?_;conv=>whnf
          refine qj (fun _=>?_) (fun h=>absurd h (by
           show ¬ ((decide (0<=((j0:Nat):Int))&&decide (((j0:Nat):Int)<((x.pers.length:Nat):Int)))=false);have:=hI.pers.1;simp;omega))
          conv=>whnf
          refine jb [.vs ((jM j0 c0).map Per.cells)] (by
           show(zJ x.pers)[0+((j0:Nat):Int).toNat]?=_;unfold zJ;rw[Int.toNat_natCast,Nat.zero_add,List.getElem?_map,hpj];rfl) ?_
          conv=>whnf
          refine qI (Per.cells ⟨j0,(qJ c0 m0:Nat)⟩) ⟨by show(0:Int)<=((m0:Nat):Int);omega,by show((jM j0 c0).map Per.cells)[((m0:Nat):Int).toNat]?=_;rw[Int.toNat_natCast,List.getElem?_map,jG hml];rfl⟩ ?_;conv=>whnf
          refine qm (-(y.shown-x0.shown)) (by omega) (qb (by omega)) ?_;conv=>whnf
          refine qn rfl ?_;conv=>whnf
          refine qn (by simp[Els.len,qu]) ?_;conv=>whnf
          refine zL (decide_eq_true (by
           show((qu ST).length+2)*40<=140737488355328;simp[qu];omega)) ?_
          conv=>whnf
          refine qf (qb (by(try dsimp only);omega)) ?_;conv=>whnf
          rw[qaK hx0 hpj,jc hx0]at hnx;subst hnx;refine⟨_,⟨hE2,hes,by simp only[List.length_append,List.length_cons,List.length_nil];omega,by simp only;omega,hmi2⟩,?_⟩;have hsc:∀ p q:zt,qu (ST ++ [p,q])=qu ST++qu [p,q]:=fun p q=>by unfold qu;rw[List.map_append]
          simp only[hsc];refine(Wk.move 174 900000 rfl rfl).trans (Wk.sub ⟨rfl,rfl,rfl,rfl,rfl,rfl,rfl,rfl,rfl,rfl,rfl,rfl,rfl,rfl,rfl,rfl,rfl,trivial⟩ ⟨rfl,rfl,rfl,?_,rfl,rfl,rfl,rfl,rfl,rfl,rfl,trivial⟩);show some (Obj.box (Cells.vv [.d (i64 l.near),.d (qR l.books),.sl 900000 5 0 ((qu ST).length+2),.sl 900001 1 0 x.pers.length,.d (i64 e.many)]))=_;simp[qu]
      | some n0=>
       have hN0:N=n0:=by rw[<- hN,hgm];rfl
       obtain⟨ix,_,hx1,hx2,_⟩:=qC (kd:=qD) (vd:=qD) qv hgm 0;refine⟨_,hx1,?_⟩;conv=>whnf
       refine qm (N+1) (by rw[hN0]) (qb (by omega)) ?_;conv=>whnf
       refine⟨_,hx1,?_⟩;conv=>whnf
       have hput2:(kvV qD qD e.mine).set (0+ix,qD n0).fst (i64 y.number,i64 (N+1))=kvV qD qD (jL e.mine y.number (N+1)):=by
        show(kvV qD qD e.mine).set (0+ix) _=_;rw[Nat.zero_add];exact hx2 (N+1)
       rw[hput2];obtain⟨iz,_,hz1,_⟩:=qC (kd:=qD) (vd:=qD) qv (show zu (jL e.mine y.number (N+1)) y.number=some (N+1) by rw[zK,if_pos rfl]) 0;refine⟨_,hz1,?_⟩;conv=>whnf
       refine qj (fun h5=>?_) (fun h5=>?_)
       ·have h5:1<N+1:=of_decide_eq_true h5
        rw[if_pos (.inl (by omega))]at hnx;conv=>whnf
        refine qf (qb (by(try dsimp only);omega)) ?_;conv=>whnf
        subst hnx;exact⟨_,⟨hE2,hes,by simp only;omega,by simp only;omega,hmi2⟩,(Wk.sub ⟨rfl,rfl,rfl,rfl,rfl,rfl,rfl,rfl,rfl,rfl,rfl,rfl,rfl,rfl,rfl,rfl,rfl,trivial⟩ ⟨rfl,rfl,rfl,rfl,rfl,rfl,rfl,rfl,rfl,rfl,rfl,trivial⟩)⟩
       ·have h5:¬ 1<N+1:=of_decide_eq_false h5
        conv=>whnf
        refine qk (qpQ conf y.number (by omega)) rfl rfl ?_;conv=>whnf
        refine qj (fun h6=>?_) (fun h6=>?_)
        ·have h6:y.number∈conf:=of_decide_eq_true h6
         rw[if_pos (.inr h6)]at hnx;conv=>whnf
         refine qf (qb (by(try dsimp only);omega)) ?_;conv=>whnf
         subst hnx;exact⟨_,⟨hE2,hes,by simp only;omega,by simp only;omega,hmi2⟩,(Wk.sub ⟨rfl,rfl,rfl,rfl,rfl,rfl,rfl,rfl,rfl,rfl,rfl,rfl,rfl,rfl,rfl,rfl,rfl,trivial⟩ ⟨rfl,rfl,rfl,rfl,rfl,rfl,rfl,rfl,rfl,rfl,rfl,trivial⟩)⟩
        ·have h6:¬ y.number∈conf:=of_decide_eq_false h6
         rw[if_neg (fun h=>h.elim (fun h=>h5 (by omega)) h6)]at hnx;conv=>whnf
         cases hgf:zu e.first y.number with
         | none=>
          rw[hgf]at hnx;simp only at hnx;have hpf:=zf (kd:=qD) (vd:=PAt.d) (⟨i,k⟩:PAt) hgf;refine⟨none,qt (kd:=qD) qv hgf 0,?_⟩;conv=>whnf
          refine⟨none,qt (kd:=qD) qv hgf 0,?_⟩;conv=>whnf
          have hpf2:kvV qD PAt.d e.first ++ [(i64 y.number,PAt.d ⟨i,k⟩)]=kvV qD PAt.d (jL e.first y.number ⟨i,k⟩):=hpf
          refine qf (qb (by(try dsimp only);omega)) ?_;conv=>whnf
          subst hnx;refine⟨_,⟨hE2,hes,by simp only;omega,by simp only;omega,hmi2⟩,?_⟩;simp only;rw[<- hpf2];exact(Wk.sub ⟨rfl,rfl,rfl,rfl,rfl,rfl,rfl,rfl,rfl,rfl,rfl,rfl,rfl,rfl,rfl,rfl,rfl,trivial⟩ ⟨rfl,rfl,rfl,rfl,rfl,rfl,rfl,rfl,rfl,rfl,rfl,trivial⟩)
         | some r0=>
          rw[hgf]at hnx;simp only at hnx;obtain⟨j0,m0,c0,x0,hr0,hx0,hf0,-,hah⟩:=hE.fst _ _ hgf;obtain⟨iy,_,hy1,_⟩:=qC (kd:=qD) (vd:=PAt.d) qv hgf 0;refine⟨_,hy1,?_⟩;conv=>whnf
          subst hr0;have hml:=(List.getElem?_eq_some_iff.1 hx0.ent).1;have hjl:=(List.getElem?_eq_some_iff.1 hx0.book).1;refine qI c0.cells ⟨by show(0:Int)<=((j0:Nat):Int);omega,by show(l.books.map PBook.cells)[((j0:Nat):Int).toNat]?=_;rw[Int.toNat_natCast,List.getElem?_map,hx0.book];rfl⟩ ?_;conv=>whnf
          refine qI x0.cells ⟨by show(0:Int)<=((m0:Nat):Int);omega,by show(c0.ents.map PEnt.cells)[((m0:Nat):Int).toNat]?=_;rw[Int.toNat_natCast,List.getElem?_map,hx0.ent];rfl⟩ ?_;conv=>whnf
          have hxs:=(hR.book c0 (List.mem_of_getElem? hx0.book)).ent x0 (List.mem_of_getElem? hx0.ent);have hj0:j0<i:=by
           rcases hah with hah | ⟨hji,hah⟩
           ·exact hah
           ·have hb0:=hx0.book
            rw[hji]at hb0;have hcb:c0=b:=Option.some.inj (hb0.symm.trans hx);have h7:=(hE.mine y.number).2.2 ⟨m0,hah,hcb▸hf0⟩;rw[hN]at h7;omega
          have hpj:=hI.pers.2 j0 c0 hx0.book hj0;refine qm (y.shown-x0.shown) rfl (qb (by omega)) ?_;conv=>whnf
          refine qj (fun _=>?_) (fun h=>absurd h (by
           show ¬ ((decide (0<=((j0:Nat):Int))&&decide (((j0:Nat):Int)<((x.pers.length:Nat):Int)))=false);have:=hI.pers.1;simp;omega))
          conv=>whnf
          refine jb [.vs ((jM j0 c0).map Per.cells)] (by
           show(zJ x.pers)[0+((j0:Nat):Int).toNat]?=_;unfold zJ;rw[Int.toNat_natCast,Nat.zero_add,List.getElem?_map,hpj];rfl) ?_
          conv=>whnf
          refine qI (Per.cells ⟨j0,(qJ c0 m0:Nat)⟩) ⟨by show(0:Int)<=((m0:Nat):Int);omega,by show((jM j0 c0).map Per.cells)[((m0:Nat):Int).toNat]?=_;rw[Int.toNat_natCast,List.getElem?_map,jG hml];rfl⟩ ?_;conv=>whnf
          refine qm (-(y.shown-x0.shown)) (by omega) (qb (by omega)) ?_;conv=>whnf
          refine qn rfl ?_;conv=>whnf
          refine qn (by simp[Els.len,qu]) ?_;conv=>whnf
          refine zL (decide_eq_true (by
           show((qu ST).length+2)*40<=140737488355328;simp[qu];omega)) ?_
          conv=>whnf
          refine qf (qb (by(try dsimp only);omega)) ?_;conv=>whnf
          rw[qaK hx0 hpj,jc hx0]at hnx;subst hnx;refine⟨_,⟨hE2,hes,by simp only[List.length_append,List.length_cons,List.length_nil];omega,by simp only;omega,hmi2⟩,?_⟩;have hsc:∀ p q:zt,qu (ST ++ [p,q])=qu ST++qu [p,q]:=fun p q=>by unfold qu;rw[List.map_append]
          simp only[hsc];refine(Wk.move 174 900000 rfl rfl).trans (Wk.sub ⟨rfl,rfl,rfl,rfl,rfl,rfl,rfl,rfl,rfl,rfl,rfl,rfl,rfl,rfl,rfl,rfl,rfl,trivial⟩ ⟨rfl,rfl,rfl,?_,rfl,rfl,rfl,rfl,rfl,rfl,rfl,trivial⟩);show some (Obj.box (Cells.vv [.d (i64 l.near),.d (qR l.books),.sl 900000 5 0 ((qu ST).length+2),.sl 900001 1 0 x.pers.length,.d (i64 e.many)]))=_;simp[qu]
     ·rw[if_neg h3]at hnx
      have h1k:y.kind=1:=by omega
      have ht:zj y = .ifc 138 (.agg [.str y.word]):=by unfold zj;rw[if_pos h1k]
      rw[ht];conv=>whnf
      refine qf (qb (by(try dsimp only);omega)) ?_;conv=>whnf
      subst hnx;exact⟨_,⟨hE2,hes,by simp only;omega,by simp only;omega,fun num=>by have:=hmi num;simp only;omega⟩,(Wk.sub ⟨rfl,rfl,rfl,rfl,rfl,rfl,rfl,rfl,rfl,rfl,rfl,rfl,rfl,rfl,rfl,rfl,rfl,trivial⟩ ⟨rfl,rfl,rfl,rfl,rfl,rfl,rfl,rfl,rfl,rfl,rfl,trivial⟩)⟩
  ·rintro e ⟨hE,hes,hsl,hem,hmi⟩
   conv=>whnf
   refine qj (fun h=>absurd h (by simp)) (fun _=>?_);conv=>whnf
   refine qn rfl ?_;conv=>whnf
   refine qn (by simp[Els.len,zJ]) ?_;conv=>whnf
   have hfree:(true && !qae 185 ((zd (zJ x.pers) ++ [[V.sl 55 2 0 e.of.length]]).flatten))=true:=by
    rw[qdd];rfl
   refine zL hfree ?_;conv=>whnf
   refine zL (decide_eq_true (by
    show((zJ x.pers).length+1)*24<=140737488355328;have:=hI.pers.1;simp[zJ];omega)) ?_
   conv=>whnf
   refine qcB [55,185] (by
    show zg ((zd (zJ x.pers) ++ [[V.sl 55 2 0 e.of.length]]).flatten)++([185] ++ [])=_;rw[jB];rfl) ?_
   conv=>whnf
   refine qm ((i+1:Nat):Int) (by omega) (qb (by omega)) ?_;conv=>whnf
   have hes:e=ER:=hes;subst hes;have hofl:e.of.length=b.ents.length:=by rw[hE.of];simp
   refine⟨⟨e.steps,e.many,e.first,x.pers ++ [e.of]⟩,⟨by rw[<- hy]at hlk;exact hlk,by rw[<- hy]at hI2;exact hI2,by simp only;have:=hB.ents;omega,by simp only;have:=hB.ents;omega⟩,?_⟩;refine(Wk.frzArr 1 [55] 185 (sz:=1) (vs:=zd (zJ x.pers) ++ [[.sl 55 2 0 e.of.length]]) (ds:=zJ x.pers ++ [[.vs (zN e.of)]]) ?_ (qcA (qeb (qH (jq rfl (by simp[zN])) rfl)) _)).trans ((Wk.move 185 900001 rfl rfl).trans (Wk.sub ⟨rfl,rfl,rfl,rfl,rfl,rfl,rfl,rfl,rfl,trivial⟩ ⟨rfl,rfl,rfl,?_,rfl,?_,rfl,trivial⟩))
   ·rfl
   ·show some (Obj.box (Cells.vv [.d (i64 l.near),.d (qR l.books),.sl 900000 5 0 e.steps.length,.sl 900001 1 0 ((zJ x.pers).length+1),.d (i64 e.many)]))=_
    simp[zJ]
   ·show some (Obj.arr 1 (Els.dd (zJ x.pers ++ [[.vs (zN e.of)]])))=_
    unfold zJ zN;rw[List.map_append];rfl
 ·rintro x ⟨hlk,hI,hst,hmn⟩
  have hlk:x=RES:=hlk;subst hlk;conv=>whnf
  refine qj (fun h=>absurd h (by simp)) (fun _=>?_);conv=>whnf
  refine qc 2 (ds:=[qac l x]) (qH (qkI rfl (qcz (a:=[i64 l.near,qR l.books]) (qH (qbh (es':=qu x.steps) rfl rfl (by simp[qu])) (qH (qbh (es':=zJ x.pers) rfl rfl (by simp[zJ])) rfl)))) rfl) ⟨⟨rfl,rfl⟩,rfl⟩
end Go.PX
namespace Go.PX
open Go.Proofs
theorem qqm(l:PLog)(hR:LogR l):FnV Tryz.prog 68 [l.d,i64 0,.vs []] (qac l (qY l 0 [])):=qsi l hR 0 (by omega) [] (by simp)
theorem qay{P:Program}{σ:Type}{Y:Hd σ}{st:St σ}{d:Option Nat}{f:FuncId}{a b:V}{r:List V}{K:St σ->Prop}(hc:CallA P Y st d f (a::b :: .d (.vs [])::r) K):CallA P Y st d f (a::b :: .d .nils::r) K:=by
 refine CallA_rep (fun yv L F w l h=>?_) hc;obtain⟨x,l',rfl,h1,y,l'',rfl,h2,z,l3,rfl,h3,h4⟩:=h;exact⟨x,_,rfl,h1,y,_,rfl,h2,z,_,rfl,RepD.relax .nils z h3,h4⟩
theorem pa75(l:PLog)(x:LkS)(hR:LookR x):FnV Tryz.prog 75 [qac l x] (i64 (if qmV x (qcK x .right)=true then 0 else 9)):=by
 refine qG mixed ql Tryz.func75 rfl (ft:=ft75) 1 (by decide +kernel) (by rfl) fun {σ} Y st=>?_;conv=>whnf
 refine qk (qps) rfl rfl ?_;conv=>whnf
 refine qk (qro l x hR .right) rfl rfl ?_
 cases h:qmV x (qcK x .right) with
 | true=>
  simp only[if_true];conv=>whnf
  exact qc 0 rfl ⟨⟨rfl,rfl⟩,rfl⟩
 | false=>
  simp only[Bool.false_eq_true,if_false];conv=>whnf
  exact qc 0 rfl ⟨⟨rfl,rfl⟩,rfl⟩
theorem bk_get{l:PLog}{i k:Nat}{b:PBook}{y:PEnt}(h:At l i k b y):(0:Int)<=(i:Int)/\(l.books.map PBook.cells)[((i:Nat):Int).toNat]?=some b.cells:=
 ⟨by omega,by rw[Int.toNat_natCast,List.getElem?_map,h.book];rfl⟩
theorem en_get{l:PLog}{i k:Nat}{b:PBook}{y:PEnt}(h:At l i k b y):(0:Int)<=(k:Int)/\(b.ents.map PEnt.cells)[((k:Nat):Int).toNat]?=some y.cells:=
 ⟨by omega,by rw[Int.toNat_natCast,List.getElem?_map,h.ent];rfl⟩
theorem qrp(l:PLog)(x:LkS){i k:Nat}{b:PBook}{y:PEnt}(h:At l i k b y):FnV Tryz.prog 76 [qac l x,(PAt.mk i k).d] y.d:=by
 refine qG mixed ql Tryz.func76 rfl (ft:=ft76) 2 (by decide +kernel) (by rfl) fun {σ} Y st=>?_;conv=>whnf
 refine qI b.cells (bk_get h) ?_;conv=>whnf
 refine qI y.cells (en_get h) ?_;conv=>whnf
 exact qc 0 rfl ⟨⟨rfl,rfl⟩,rfl⟩
theorem qoM{l:PLog}{i k:Nat}{b:PBook}{y:PEnt}(h:At l i k b y):(0:Int)<=(i:Int)/\((qY l 0 []).pers.map fun r=>[D.vs (r.map Per.cells)])[((i:Nat):Int).toNat]?=some [D.vs ((jM i b).map Per.cells)]:=
 ⟨by omega,by rw[Int.toNat_natCast,List.getElem?_map,(qfj l 0 []).pers.2 i b h.book (qoH h)];rfl⟩
theorem qoN{l:PLog}{i k:Nat}{b:PBook}{y:PEnt}(h:At l i k b y):(0:Int)<=(k:Int)/\((jM i b).map Per.cells)[((k:Nat):Int).toNat]?=some (Per.cells ⟨i,qJ b k⟩):=
 ⟨by omega,by rw[Int.toNat_natCast,List.getElem?_map,jG (List.getElem?_eq_some_iff.1 h.ent).1];rfl⟩
theorem apartS_at{l:PLog}{i k j m:Nat}{b c:PBook}{y z:PEnt}(h:At l i k b y)(h':At l j m c z):qax l ⟨i,k⟩ ⟨j,m⟩=⟨(z.shown-y.shown)-(zD (qY l 0 []) ⟨j,qJ c m⟩ ⟨i,qJ b k⟩).hi,(z.shown-y.shown)-(zD (qY l 0 []) ⟨j,qJ c m⟩ ⟨i,qJ b k⟩).lo⟩:=by
 unfold qax;rw[qdg h,qdg h',jc h,jc h']
theorem pa81k(l:PLog){i k j m:Nat}{b c:PBook}{y z:PEnt}(h:At l i k b y)(h':At l j m c z)(A B:Int)(hA : -4000000000<=A/\A<=4000000000)(hB : -4000000000<=B/\B<=4000000000)(hy:0<=y.shown/\y.shown<=20000)(hz:0<=z.shown/\z.shown<=20000)
  (h72:FnV Tryz.prog 72 [qac l (qY l 0 []),Per.d ⟨j,qJ c m⟩,Per.d ⟨i,qJ b k⟩] (.agg [i64 A,i64 B])):FnV Tryz.prog 81 [qac l (qY l 0 []),(PAt.mk i k).d,(PAt.mk j m).d] (.agg [i64 ((z.shown-y.shown)-B),i64 ((z.shown-y.shown)-A)]):=by
 refine qG mixed ql Tryz.func81 rfl (ft:=ft81) 3 (by decide +kernel) (by rfl) fun {σ} Y st=>?_;conv=>whnf
 refine qI _ (qoM h') ?_;conv=>whnf
 refine qI _ (qoN h') ?_;conv=>whnf
 refine qI _ (qoM h) ?_;conv=>whnf
 refine qI _ (qoN h) ?_;conv=>whnf
 refine qo (ds:=[qac l (qY l 0 []),Per.d ⟨j,qJ c m⟩,Per.d ⟨i,qJ b k⟩]) h72 rfl rfl ?_;conv=>whnf
 refine qo (qrp l _ h') rfl rfl ?_;conv=>whnf
 refine qo (qrp l _ h) rfl rfl ?_;conv=>whnf
 refine qf (qb (by(try dsimp only);omega)) ?_;conv=>whnf
 refine qf (qb (by(try dsimp only);omega)) ?_;conv=>whnf
 refine qf (qb (by(try dsimp only);omega)) ?_;conv=>whnf
 exact qc 0 rfl ⟨⟨rfl,rfl⟩,rfl⟩
theorem qsj(l:PLog)(hR:LogR l)(hf:qcn l 0 []=true){i k j m:Nat}{b c:PBook}{y z:PEnt}(h:At l i k b y)(h':At l j m c z):FnV Tryz.prog 81 [qac l (qY l 0 []),(PAt.mk i k).d,(PAt.mk j m).d] (qax l ⟨i,k⟩ ⟨j,m⟩).d:=by
 rw[apartS_at h h'];have hL:=qiM hR (w:=0) (by omega) [];have hn:=qhJ (qaZ.2 ⟨i,k,b,y,rfl,h⟩);have hn':=qhJ (qaZ.2 ⟨j,m,c,z,rfl,h'⟩);rw[qdg h]at hn;rw[qdg h']at hn';have hb:=qkX hL ⟨j,qJ c m⟩ ⟨i,qJ b k⟩;have hb':=qkX hL ⟨i,qJ b k⟩ ⟨j,qJ c m⟩;have hy:=((hR.book b (List.mem_of_getElem? h.book)).ent y (List.mem_of_getElem? h.ent)).1;have hz:=((hR.book c (List.mem_of_getElem? h'.book)).ent z (List.mem_of_getElem? h'.ent)).1;exact fun {σ}=>FnV.cast (fun {σ}=>pa81k l h h' (zD (qY l 0 []) ⟨j,qJ c m⟩ ⟨i,qJ b k⟩).lo (zD (qY l 0 []) ⟨j,qJ c m⟩ ⟨i,qJ b k⟩).hi ⟨by show -4000000000 <= -_;omega,by show -_<=4000000000;omega⟩ hb' hy hz (fun {σ}=>qse l (qY l 0 []) hL ⟨j,qJ c m⟩ ⟨i,qJ b k⟩ (qjI hf hn') (qjI hf hn))) rfl
def qpx(l:PLog)(xs:List PAt):D:=if qan l xs=0 then qac l (qY l 0 []) else .nilp
def qdp(l:List PAt):D:=.vs (l.map PAt.cells)
theorem qbW(l:PLog):qaM l=((qaM l).1,(qaM l).2.1,qK l):=rfl
theorem qeg(l:PLog)(p q e:Int)(h:qaM l=(p,q,e)):FnV Tryz.prog 17 [l.d] (.tup [i64 p,i64 q,i64 e]):=FnV.cast (fun {σ}=>pa17 l) (by rw[h];rfl)
theorem qsk(l:PLog)(xs:List PAt)(hx:xs.length<1000000):FnV Tryz.prog 74 [l.d,qdp xs] (.tup [qpx l xs,i64 (qan l xs)]):=by
 unfold qpx qan;refine qG mixed ql Tryz.func74 rfl (ft:=ft74) 2 (by decide +kernel) (by rfl) fun {σ} Y st=>?_;conv=>whnf
 by_cases hc:qK l=0
 ·rw[if_pos hc]
  have hR:=zT hc;have hbl:=hR.books;refine qk (qeg l 0 0 0 (qbU hc)) rfl rfl ?_;conv=>whnf
  generalize hE:(if xs.all (qke l)=true then (0:Int) else 4)=E;refine zr (T:=tys) ql (by exact qi mixed ql (by decide +kernel)) xs (fun i (_:Unit)=>⟨[(2,.ptr 2 0),(20,.d (qdp xs)),(21,.d (i64 xs.length)),(22,.d (i64 i))],[(2,.box (.dd l.cells))],st⟩) (fun i r _=>(if r.all (qke l)=true then (0:Int) else 4)=E) () (Wk.sub (by repeat' first|exact trivial|refine⟨?_,?_⟩|rfl|(simp only[List.length_map];rfl)|simp[PX.get]) ⟨(by first | rfl | (simp only[List.length_map];rfl) | simp[PX.get]),trivial⟩) hE ?_ ?_
  ·rintro i x r _ hxi hi hr he
   conv=>whnf
   refine qj (fun _=>?_) (fun h=>absurd hi (by simpa using h));conv=>whnf
   refine qw hxi ?_;conv=>whnf
   refine qm ((l.books.length:Int)-1) (by simp) (qb (by omega)) ?_;conv=>whnf
   refine qA (qlV 0 ((l.books.length:Int)-1) x.book) rfl 1 rfl ?_;rw[List.all_cons]at he;unfold qke at he
   cases h1:qcp x.book 0 ((l.books.length:Int)-1) with
   | true=>
    rw[h1]at he;simp only[Bool.not_true,Bool.false_and,Bool.false_eq_true,if_false]at he;conv=>whnf
    subst he;exact qc 0 rfl ⟨⟨rfl,rfl⟩,rfl⟩
   | false=>
    rw[h1]at he;simp only[Bool.not_false,Bool.true_and]at he;have h1:=zS.1 h1;obtain⟨b,hb⟩:∃ b,l.books[x.book.toNat]?=some b:=⟨_,List.getElem?_eq_getElem (by omega)⟩;have hba:qcD l x.book=b:=by unfold qcD;rw[hb];rfl
    rw[hba]at he;have hbe:=(hR.book b (List.mem_of_getElem? hb)).ents;conv=>whnf
    refine qI b.cells ⟨h1.1,by rw[List.getElem?_map,hb];rfl⟩ ?_;conv=>whnf
    refine qm ((b.ents.length:Int)-1) (by simp) (qb (by omega)) ?_;conv=>whnf
    refine qA (qlV 0 ((b.ents.length:Int)-1) x.entry) rfl 1 rfl ?_
    cases h2:qcp x.entry 0 ((b.ents.length:Int)-1) with
    | true=>
     rw[h2]at he;simp only[Bool.not_true,Bool.false_and,Bool.false_eq_true,if_false]at he;conv=>whnf
     subst he;exact qc 0 rfl ⟨⟨rfl,rfl⟩,rfl⟩
    | false=>
     rw[h2]at he;simp only[Bool.not_false,Bool.true_and]at he;conv=>whnf
     refine qf (qb (by(try dsimp only);omega)) ?_;conv=>whnf
     exact⟨(),he,(Wk.sub (by repeat' first|exact trivial|refine⟨?_,?_⟩|rfl|(simp only[List.length_map];rfl)|simp[PX.get]) ⟨(by first | rfl | (simp only[List.length_map];rfl) | simp[PX.get]),trivial⟩)⟩
  ·rintro _ he
   have he:(0:Int)=E:=he;subst he;conv=>whnf
   refine qj (fun h=>absurd h (by simp)) (fun _=>?_);conv=>whnf
   refine qay ?_;refine qk (qqm l hR) rfl rfl ?_;conv=>whnf
   rw[if_pos rfl];exact qc 0 rfl ⟨⟨rfl,rfl⟩,rfl⟩
 ·rw[if_neg hc]
  refine qk (qeg l _ _ _ (qbW l)) rfl rfl ?_;conv=>whnf
  generalize qK l=E at hc;refine qj (fun _=>?_) (fun h=>absurd hc (by simpa using h));conv=>whnf
  rw[if_neg hc];exact qc 0 rfl ⟨⟨rfl,rfl⟩,rfl⟩
end Go.PX
namespace Go.PX
open Go.Proofs
theorem qqn(l:PLog)(hR:LogR l):FnV Tryz.prog 75 [qac l (qY l 0 [])] (i64 (if qcn l 0 []=true then 0 else 9)):=pa75 l (qY l 0 []) (qiM hR (by omega) [])
theorem qpy(l:PLog)(hR:LogR l)(w:Int)(hw:0<=w/\w<=1048576)(conf:List Int):∃ m,FnV Tryz.prog 69 [qac l (qY l w conf),Per.right.d] (.tup [m,.bool (qcn l w conf)]):=⟨_,fun {σ}=>qro l (qY l w conf) (qiM hR hw conf) .right⟩
theorem qsl(l:PLog):FnV Tryz.prog 19 [l.d] (.tup [.bool (qoJ l).1,i64 (qoJ l).2]):=by
 unfold qoJ;refine qG mixed ql Tryz.func19 rfl (ft:=ft19) 1 (by decide +kernel) (by rfl) fun {σ} Y st=>?_;conv=>whnf
 by_cases hc:qK l=0
 ·rw[if_pos hc]
  have hR:=zT hc;refine qk (qeg l 0 0 0 (qbU hc)) rfl rfl ?_;conv=>whnf
  refine qay ?_;refine qk (qqm l hR) rfl rfl ?_;conv=>whnf
  refine qk (qps) rfl rfl ?_;conv=>whnf
  obtain⟨m,hm⟩:=qpy l hR 0 (by omega) [];refine qk (hm) rfl rfl ?_;conv=>whnf
  exact qc 0 rfl ⟨⟨rfl,rfl⟩,rfl⟩
 ·rw[if_neg hc]
  refine qk (qeg l _ _ _ (qbW l)) rfl rfl ?_;conv=>whnf
  generalize qK l=E at hc;refine qj (fun _=>?_) (fun h=>absurd hc (by simpa using h));conv=>whnf
  exact qc 0 rfl ⟨⟨rfl,rfl⟩,rfl⟩
theorem at_R{l:PLog}(hR:LogR l){i k:Nat}{b:PBook}{y:PEnt}(h:At l i k b y):0<=y.shown/\y.shown<=20000:=((hR.book b (List.mem_of_getElem? h.book)).ent y (List.mem_of_getElem? h.ent)).1
theorem instS_at{l:PLog}{i k:Nat}{b:PBook}{y:PEnt}(h:At l i k b y):qpt l ⟨i,k⟩=⟨y.shown-(zD (qY l 0 []) ⟨i,qJ b k⟩ .right).hi,y.shown-(zD (qY l 0 []) ⟨i,qJ b k⟩ .right).lo⟩:=by
 unfold qpt;rw[qdg h,jc h]
theorem qrc{l:PLog}(hR:LogR l)(hf:qcn l 0 []=true){p q:Per}(hp:p∈qV l)(hq:q∈qV l):FnV Tryz.prog 72 [qac l (qY l 0 []),p.d,q.d] (.agg [i64 (zD (qY l 0 []) p q).lo,i64 (zD (qY l 0 []) p q).hi]):=
 qse l (qY l 0 []) (qiM hR (by omega) []) p q (qjI hf hp) (qjI hf hq)
theorem ahead_bd{l:PLog}(hR:LogR l)(p q:Per):(-4000000000<=(zD (qY l 0 []) p q).lo/\(zD (qY l 0 []) p q).lo<=4000000000)/\(-4000000000<=(zD (qY l 0 []) p q).hi/\(zD (qY l 0 []) p q).hi<=4000000000):=by
 have h1:=qkX (qiM hR (w:=0) (by omega) []) p q;have h2:=qkX (qiM hR (w:=0) (by omega) []) q p;unfold zD;simp only;omega
theorem qhN{l:PLog}{xs:List PAt}(h:qan l xs=0):qK l=0 /\ ∀ x∈xs,qke l x=true:=by
 unfold qan at h
 split at h
 ·rename_i h1
  split at h
  ·rename_i h2;exact⟨h1,fun x hx=>List.all_eq_true.1 h2 x hx⟩
  ·cases h
 ·rename_i h1;exact absurd h h1
theorem qoO{l:PLog}{xs:List PAt}(hx:xs.length<1000000)(h:qan l xs=0):FnV Tryz.prog 74 [l.d,qdp xs] (.tup [qac l (qY l 0 []),i64 0]):=
 FnV.cast (fun {σ}=>qsk l xs hx) (by unfold qpx;rw[if_pos h,h])
theorem qoP{l:PLog}{xs:List PAt}(hx:xs.length<1000000)(h:qan l xs≠0):FnV Tryz.prog 74 [l.d,qdp xs] (.tup [.nilp,i64 (qan l xs)]):=
 FnV.cast (fun {σ}=>qsk l xs hx) (by unfold qpx;rw[if_neg h])
theorem qnl{l:PLog}{xs:List PAt}(h:qan l xs≠0):qhZ l xs=qan l xs/\qhZ l xs≠0:=by
 unfold qhZ;rw[if_neg h];exact⟨rfl,h⟩
theorem qrM(l:PLog)(x:PAt):FnV Tryz.prog 24 [l.d,x.d] (.tup [(qjF l x).1.d,i64 (qjF l x).2]):=by
 by_cases hc:qan l [x]=0
 ·obtain⟨hck,hall⟩:=qhN hc
  have hR:=zT hck;have hat:=hall x (by simp);obtain⟨i,k,b,y,rfl,hA⟩:=qaZ.1 hat;have e:qjF l ⟨i,k⟩=if qcn l 0 []=true then (qpt l ⟨i,k⟩,0) else (⟨0,0⟩,9):=by
   unfold qjF qhZ;rw[if_pos hc]
   cases qcn l 0 []<;>rfl
  rw[e];refine qG mixed ql Tryz.func24 rfl (ft:=qrT) 2 (by decide +kernel) (by rfl) fun {σ} Y st=>?_;conv=>whnf
  refine qdc (ds:=[l.d,qdp [⟨i,k⟩]]) (qoO (by simp) hc) 1 [13] rfl rfl ?_;conv=>whnf
  refine qk (qqn l hR) rfl rfl ?_;conv=>whnf
  cases hf:qcn l 0 []with
  | false=>
   simp only[Bool.false_eq_true,if_false];conv=>whnf
   exact qc 0 rfl ⟨⟨rfl,rfl⟩,rfl⟩
  | true=>
   simp only[if_true];rw[instS_at hA];have hn:=qhJ hat;rw[qdg hA]at hn;have h72:=fun {σ}=>@qrc l hR hf _ _ hn (qiN l) σ;have hbd:=ahead_bd hR ⟨i,qJ b k⟩ .right;have hy:=at_R hR hA;generalize (zD (qY l 0 []) ⟨i,qJ b k⟩ .right)=S at h72 hbd ⊢;conv=>whnf
   refine qI _ (qoM hA) ?_;conv=>whnf
   refine qI _ (qoN hA) ?_;conv=>whnf
   refine qo (ds:=[]) qps rfl rfl ?_;conv=>whnf
   refine qo (ds:=[qac l (qY l 0 []),Per.d ⟨i,qJ b k⟩,Per.right.d]) h72 rfl rfl ?_;conv=>whnf
   refine qo (qrp l _ hA) rfl rfl ?_;conv=>whnf
   refine qf (qb (by(try dsimp only);omega)) ?_;conv=>whnf
   refine qf (qb (by(try dsimp only);omega)) ?_;conv=>whnf
   exact qc 0 rfl ⟨⟨rfl,rfl⟩,rfl⟩
 ·obtain⟨e1,e2⟩:=qnl hc
  have e:qjF l x=(⟨0,0⟩,qan l [x]):=by
   unfold qjF;rw[if_neg e2,e1]
  rw[e];refine qG mixed ql Tryz.func24 rfl (ft:=qrT) 2 (by decide +kernel) (by rfl) fun {σ} Y st=>?_;conv=>whnf
  refine qdc (ds:=[l.d,qdp [x]]) (qoP (by simp) hc) 1 [13] rfl rfl ?_;generalize qan l [x]=E at hc ⊢;conv=>whnf
  refine qj (fun h=>absurd h (by simpa using hc)) (fun _=>?_);conv=>whnf
  refine qj (fun _=>?_) (fun h=>absurd hc (by simpa using h));conv=>whnf
  exact qc 0 rfl ⟨⟨rfl,rfl⟩,rfl⟩
theorem qrN(l:PLog)(x z:PAt):FnV Tryz.prog 27 [l.d,x.d,z.d] (.tup [(qch l x z).1.d,i64 (qch l x z).2.1,i64 (qch l x z).2.2]):=by
 by_cases hc:qan l [x,z]=0
 ·obtain⟨hck,hall⟩:=qhN hc
  have hR:=zT hck;have hat:=hall x (by simp);have hat':=hall z (by simp);obtain⟨i,k,b,y,rfl,hA⟩:=qaZ.1 hat;obtain⟨j,m,c,u,rfl,hA'⟩:=qaZ.1 hat';have e:qch l ⟨i,k⟩ ⟨j,m⟩=if qcn l 0 []=true then (qax l ⟨i,k⟩ ⟨j,m⟩,qnd (qax l ⟨i,k⟩ ⟨j,m⟩),0) else (⟨0,0⟩,0,9):=by
   unfold qch qhZ;rw[if_pos hc]
   cases qcn l 0 []<;>rfl
  rw[e];refine qG mixed ql Tryz.func27 rfl (ft:=qrU) 3 (by decide +kernel) (by rfl) fun {σ} Y st=>?_;conv=>whnf
  refine qdc (ds:=[l.d,qdp [⟨i,k⟩,⟨j,m⟩]]) (qoO (by simp) hc) 1 [14] rfl rfl ?_;conv=>whnf
  refine qk (qqn l hR) rfl rfl ?_;conv=>whnf
  cases hf:qcn l 0 []with
  | false=>
   simp only[Bool.false_eq_true,if_false];conv=>whnf
   exact qc 0 rfl ⟨⟨rfl,rfl⟩,rfl⟩
  | true=>
   simp only[if_true];have h81:=fun {σ}=>@qsj l hR hf _ _ _ _ _ _ _ _ hA hA' σ;generalize qax l ⟨i,k⟩ ⟨j,m⟩=S at h81 ⊢;conv=>whnf
   refine qk h81 rfl rfl ?_;conv=>whnf
   unfold qnd;have hS:(S=⟨0,0⟩)↔(S.lo=0/\S.hi=0):=by cases S;simp
   generalize hB:(decide (S.lo=0)&&(decide (S.hi=0)&&true))=B
   cases B with
   | true=>
    rw[if_pos (hS.2 (by simpa using hB))];conv=>whnf
    exact qc 0 rfl ⟨⟨rfl,rfl⟩,rfl⟩
   | false=>
    rw[if_neg (fun h=>by have:=hS.1 h;rw[this.1,this.2]at hB;cases hB)];conv=>whnf
    refine qj (fun h1=>?_) (fun h1=>?_)
    ·rw[if_pos (of_decide_eq_true h1)]
     conv=>whnf
     exact qc 0 rfl ⟨⟨rfl,rfl⟩,rfl⟩
    ·rw[if_neg (of_decide_eq_false h1)]
     conv=>whnf
     refine qj (fun h2=>?_) (fun h2=>?_)
     ·rw[if_pos (of_decide_eq_true h2)]
      conv=>whnf
      exact qc 0 rfl ⟨⟨rfl,rfl⟩,rfl⟩
     ·rw[if_neg (of_decide_eq_false h2)]
      conv=>whnf
      exact qc 0 rfl ⟨⟨rfl,rfl⟩,rfl⟩
 ·obtain⟨e1,e2⟩:=qnl hc
  have e:qch l x z=(⟨0,0⟩,0,qan l [x,z]):=by
   unfold qch;rw[if_neg e2,e1]
  rw[e];refine qG mixed ql Tryz.func27 rfl (ft:=qrU) 3 (by decide +kernel) (by rfl) fun {σ} Y st=>?_;conv=>whnf
  refine qdc (ds:=[l.d,qdp [x,z]]) (qoP (by simp) hc) 1 [14] rfl rfl ?_;generalize qan l [x,z]=E at hc ⊢;conv=>whnf
  refine qj (fun h=>absurd h (by simpa using hc)) (fun _=>?_);conv=>whnf
  refine qj (fun _=>?_) (fun h=>absurd hc (by simpa using h));conv=>whnf
  exact qc 0 rfl ⟨⟨rfl,rfl⟩,rfl⟩
theorem qrO(l:PLog)(book:Int):FnV Tryz.prog 21 [l.d,i64 book] (.tup [qbt (qlX l book).1,i64 (qlX l book).2]):=by
 unfold qlX;refine qG mixed ql Tryz.func21 rfl (ft:=ft21) 2 (by decide +kernel) (by rfl) fun {σ} Y st=>?_;conv=>whnf
 by_cases hc:qK l=0
 ·rw[if_pos hc]
  have hR:=zT hc;have hbl:=hR.books;refine qk (qeg l 0 0 0 (qbU hc)) rfl rfl ?_;conv=>whnf
  refine qm ((l.books.length:Int)-1) (by simp) (qb (by omega)) ?_;conv=>whnf
  refine qs (qlV 0 ((l.books.length:Int)-1) book) rfl 1 rfl ?_
  cases h1:qcp book 0 ((l.books.length:Int)-1) with
  | true=>
   simp only[if_true];conv=>whnf
   refine jt ?_;exact qc 0 rfl ⟨⟨rfl,rfl⟩,rfl⟩
  | false=>
   simp only[Bool.false_eq_true,if_false];have h1:=zS.1 h1;obtain⟨i,rfl⟩:∃ i:Nat,book=i:=⟨book.toNat,by omega⟩;obtain⟨b,hb⟩:∃ b,l.books[i]?=some b:=⟨_,List.getElem?_eq_getElem (by omega)⟩;have hba:qcD l i=b:=by unfold qcD;rw[Int.toNat_natCast,hb];rfl
   conv=>whnf
   refine qay ?_;refine qk (qqm l hR) rfl rfl ?_;conv=>whnf
   refine qk (qps) rfl rfl ?_;conv=>whnf
   obtain⟨m,hm⟩:=qpy l hR 0 (by omega) [];refine qk (hm) rfl rfl ?_;conv=>whnf
   cases hf:qcn l 0 []with
   | false=>
    simp only[Bool.false_eq_true,if_false];conv=>whnf
    refine jt ?_;exact qc 0 rfl ⟨⟨rfl,rfl⟩,rfl⟩
   | true=>
    simp only[if_true];unfold qqR;rw[hba];conv=>whnf
    refine qI b.cells ⟨by omega,by rw[Int.toNat_natCast,List.getElem?_map,hb];rfl⟩ ?_;conv=>whnf
    have hbe:=(hR.book b (List.mem_of_getElem? hb)).ents;have hsl:=qaL b;refine zr (T:=tys) ql (by exact qi mixed ql (by decide +kernel)) b.ents (fun k (n:Nat)=>⟨[(1,.d (i64 i)),(4,.d .nils),(6,.d (qac l (qY l 0 []))),(9,.d (i64 n)),(46,.d (qeC b.ents)),(47,.d (i64 b.ents.length)),(48,.d (i64 k))],[],st⟩) (fun k r n=>n+zm r=zm b.ents) 0 ?_ (by simp) ?_ ?_
    ·exact(Wk.sub (by repeat' first|exact trivial|refine⟨?_,?_⟩|rfl|(simp only[List.length_map];rfl)|simp[PX.get]) trivial)
    ·rintro k y r n hyk hk hr he
     rw[qiI]at he;conv=>whnf
     refine qj (fun _=>?_) (fun h=>absurd hk (by simpa using h));conv=>whnf
     refine qw hyk ?_;conv=>whnf
     refine qj (fun h2=>?_) (fun h2=>?_)
     ·rw[if_pos (of_decide_eq_true h2)]at he
      conv=>whnf
      refine qm (((n+1:Nat):Int)) (by(try dsimp only);omega) (qb (by(try dsimp only);omega)) ?_;conv=>whnf
      refine qf (qb (by(try dsimp only);omega)) ?_;conv=>whnf
      exact⟨n+1,by omega,(Wk.sub (by repeat' first|exact trivial|refine⟨?_,?_⟩|rfl|(simp only[List.length_map];rfl)|simp[PX.get]) trivial)⟩
     ·rw[if_neg (of_decide_eq_false h2)]at he
      conv=>whnf
      refine qf (qb (by(try dsimp only);omega)) ?_;conv=>whnf
      exact⟨n,by omega,(Wk.sub (by repeat' first|exact trivial|refine⟨?_,?_⟩|rfl|(simp only[List.length_map];rfl)|simp[PX.get]) trivial)⟩
    ·rintro n he
     have he:n=zm b.ents:=he;subst he;conv=>whnf
     refine qj (fun h=>absurd h (by simp)) (fun _=>?_);conv=>whnf
     generalize hN:zm b.ents=N at hsl ⊢;generalize hF:(fun(n:Nat)=>zD (qY l 0 []) ⟨(i:Int),(n:Int)⟩ .right)=F;refine qm (((N+1:Nat):Int)) (by(try dsimp only);omega) (qb (by(try dsimp only);omega)) ?_;conv=>whnf
     refine zP (T:=tys) ql (by exact qi mixed ql (by decide +kernel)) (α:=Nat×List Span) (fun z=>⟨[(1,.d (i64 i)),(4,.sl 71 2 0 z.2.length),(6,.d (qac l (qY l 0 []))),(59,.d (i64 (N+1:Nat))),(60,.d (i64 z.1))],[(71,.arr 2 (.dd (z.2.map Span.cells)))],st⟩) (fun z=>z.1<=N+1/\z.2=(List.range z.1).map F) (fun z=>N+1-z.1) (0,[]) ?_ ⟨Nat.zero_le _,rfl⟩ ?_
     ·exact(Wk.born 4 71 2 rfl rfl rfl).trans (Wk.sub (by repeat' first|exact trivial|refine⟨?_,?_⟩|rfl|(simp only[List.length_map];rfl)|simp[PX.get]) ⟨(by first | rfl | (simp only[List.length_map];rfl) | simp[PX.get]),trivial⟩)
     rintro ⟨k,acc⟩ ⟨hk,hacc⟩;simp only at hk hacc;conv=>whnf
     refine qj (fun h3=>?_) (fun h3=>?_)
     ·have h3:k<N+1:=by have:=of_decide_eq_true h3;simp only at this;omega
      have hn:=qni hb (n:=k) (by omega);have h72:=fun {σ}=>@qrc l hR hf _ _ hn (qiN l) σ;have hFk:F k=zD (qY l 0 []) ⟨(i:Int),(k:Int)⟩ .right:=by rw[<- hF]
      rw[<- hFk]at h72;have hal:acc.length=k:=by rw[hacc];simp
      conv=>whnf
      refine qk (qps) rfl rfl ?_;conv=>whnf
      refine qk (ds:=[qac l (qY l 0 []),Per.d ⟨(i:Int),(k:Int)⟩,Per.right.d]) h72 rfl rfl ?_;conv=>whnf
      refine qn rfl ?_;conv=>whnf
      refine qn (by simp[Els.len]) ?_;conv=>whnf
      refine zL (decide_eq_true (by
       show((acc.map Span.cells).length+1)*16<=140737488355328;rw[List.length_map];omega)) ?_
      conv=>whnf
      refine qf (qb (by(try dsimp only);omega)) ?_;conv=>whnf
      refine⟨(k+1,acc ++ [F k]),by simp only;omega,⟨by simp only;omega,by simp only;rw[List.range_succ,List.map_append,hacc];rfl⟩,Wk.sub ⟨rfl,?_,rfl,rfl,rfl,trivial⟩ ⟨?_,trivial⟩⟩
      ·show some (V.sl 71 2 0 ((acc.map Span.cells).length+1))=_
       simp
      ·show some (Obj.arr 2 (.dd (acc.map Span.cells ++ [[i64 (F k).lo,i64 (F k).hi]])))=_
       simp[Span.cells]
     ·have h3:¬ k<N+1:=by have:=of_decide_eq_false h3;simp only at this;omega
      have hk2:k=N+1:=by omega
      subst hk2;subst hacc;conv=>whnf
      refine qc 1 (ds:=[qbt ((List.range (N+1)).map F),i64 0]) (qH (jq rfl (by simp)) rfl) ⟨⟨rfl,rfl⟩,rfl⟩
 ·rw[if_neg hc]
  refine qk (qeg l _ _ _ (qbW l)) rfl rfl ?_;conv=>whnf
  generalize qK l=E at hc;refine qj (fun _=>?_) (fun h=>absurd hc (by simpa using h));conv=>whnf
  refine jt ?_;exact qc 0 rfl ⟨⟨rfl,rfl⟩,rfl⟩
end Go.PX
namespace Go.PX
open Go.Proofs
theorem qsm(l:PLog)(x:PAt):FnV Tryz.prog 29 [l.d,x.d] (.tup [qdp (qib l x).1,i64 (qib l x).2]):=by
 unfold qib
 by_cases hc:qan l [x]=0
 ·rw[if_pos hc]
  obtain⟨hck,hall⟩:=qhN hc;have hR:=zT hck;have hbl:=hR.books;have hat:=hall x (by simp);obtain⟨xi,xk,xb,xy,rfl,hA⟩:=qaZ.1 hat;rw[jc hA];refine qG mixed ql Tryz.func29 rfl (ft:=qrV) 2 (by decide +kernel) (by rfl) fun {σ} Y st=>?_;conv=>whnf
  refine qdc (ds:=[l.d,qdp [⟨xi,xk⟩]]) (qoO (by simp) hc) 1 [20] rfl rfl ?_;conv=>whnf
  refine qk (qrp l (qY l 0 []) hA) rfl rfl ?_;conv=>whnf
  refine qk (qpd xy) rfl rfl ?_;conv=>whnf
  by_cases h1:xy.kind=1
  ·rw[if_pos h1]
   have ht:zj xy = .ifc 138 (.agg [.str xy.word]):=by unfold zj;rw[if_pos h1]
   rw[ht];conv=>whnf
   refine qk (qqn l hR) rfl rfl ?_;conv=>whnf
   cases hf:qcn l 0 []with
   | false=>
    simp only[Bool.false_eq_true,if_false];conv=>whnf
    refine jt ?_;exact qc 0 rfl ⟨⟨rfl,rfl⟩,rfl⟩
   | true=>
    simp only[if_true];conv=>whnf
    generalize hT:qbT l ⟨xi,xk⟩ 0 l.books=T;refine zr (T:=tys) ql (by exact qi mixed ql (by decide +kernel)) l.books (fun i (acc:List PAt)=>⟨[(2,.ptr 2 0),(3,.ptr 3 0),(4,.sl 100 2 0 acc.length),(6,.d (qac l (qY l 0 []))),(7,.ptr 7 0),(43,.d (qR l.books)),(44,.d (i64 l.books.length)),(45,.d (i64 i))],[(2,.box (.dd l.cells)),(3,.box (.dd (PAt.mk xi xk).cells)),(7,.box (.dd [.str xy.word])),(100,.arr 2 (.dd (acc.map PAt.cells)))],st⟩) (fun i r acc=>acc++qbT l ⟨xi,xk⟩ i r=T/\acc.length<=8*i) [] ?_ ⟨hT,by simp⟩ ?_ ?_
    ·exact(Wk.born 4 100 2 rfl rfl rfl).trans (Wk.sub (by repeat' first|exact trivial|refine⟨?_,?_⟩|rfl|(simp only[List.length_map];rfl)|simp[PX.get]) (by repeat' first|exact trivial|refine⟨?_,?_⟩|rfl|(simp only[List.length_map];rfl)|simp[PX.get]))
    ·rintro i b r acc hb hi hr ⟨he,hal⟩
     rw[qbT]at he;have hB:=hR.book b (List.mem_of_getElem? hb);have hbe:=hB.ents;conv=>whnf
     refine qj (fun _=>?_) (fun h=>absurd hi (by simpa using h));conv=>whnf
     refine qw hb ?_;conv=>whnf
     refine zr (T:=tys) ql (by exact qi mixed ql (by decide +kernel)) b.ents (fun k (acc:List PAt)=>⟨[(2,.ptr 2 0),(3,.ptr 3 0),(4,.sl 100 2 0 acc.length),(6,.d (qac l (qY l 0 []))),(7,.ptr 7 0),(9,.d (i64 i)),(43,.d (qR l.books)),(44,.d (i64 l.books.length)),(45,.d (i64 i)),(51,.d (qeC b.ents)),(52,.d (i64 b.ents.length)),(53,.d (i64 k))],[(2,.box (.dd l.cells)),(3,.box (.dd (PAt.mk xi xk).cells)),(7,.box (.dd [.str xy.word])),(100,.arr 2 (.dd (acc.map PAt.cells)))],st⟩) (fun k q acc=>acc++(qia l ⟨xi,xk⟩ i k q++qbT l ⟨xi,xk⟩ (i+1) r)=T/\acc.length<=8*i+k) acc ?_ ⟨he,by omega⟩ ?_ ?_
     ·exact(Wk.sub (by repeat' first|exact trivial|refine⟨?_,?_⟩|rfl|(simp only[List.length_map];rfl)|simp[PX.get]) (by repeat' first|exact trivial|refine⟨?_,?_⟩|rfl|(simp only[List.length_map];rfl)|simp[PX.get]))
     ·rintro k y q acc hy hk hq ⟨hin,hal⟩
      rw[qia]at hin;have hA':At l i k b y:=⟨hb,hy⟩;have hyk:=(hB.ent y (List.mem_of_getElem? hy)).2.1;conv=>whnf
      refine qj (fun _=>?_) (fun h=>absurd hk (by simpa using h));conv=>whnf
      refine qw hy ?_;conv=>whnf
      refine qk (qpd y) rfl rfl ?_;generalize hSB:qoK l ⟨xi,xk⟩ i k y=SB at hin;unfold qoK at hSB;simp only[jc hA]at hSB
      by_cases k1:y.kind=1
      ·have ht2:zj y = .ifc 138 (.agg [.str y.word]):=by unfold zj;rw[if_pos k1]
       rw[ht2];rw[decide_eq_true k1,Bool.true_and]at hSB;conv=>whnf
       generalize hd:decide (((i:Nat):Int)=(PAt.mk (xi:Nat) (xk:Nat)).book)=Dd at hSB ⊢
       cases Dd with
       | true=>
        simp only[Bool.not_true,Bool.false_and]at hSB;subst hSB;simp only[Bool.false_eq_true,if_false]at hin;conv=>whnf
        refine qf (qb (by(try dsimp only);omega)) ?_;conv=>whnf
        exact⟨acc,⟨hin,by omega⟩,(Wk.sub (by repeat' first|exact trivial|refine⟨?_,?_⟩|rfl|(simp only[List.length_map];rfl)|simp[PX.get]) (by repeat' first|exact trivial|refine⟨?_,?_⟩|rfl|(simp only[List.length_map];rfl)|simp[PX.get]))⟩
       | false=>
        simp only[Bool.not_false,Bool.true_and]at hSB;conv=>whnf
        generalize hw:decide (y.word=xy.word)=Dw at hSB ⊢
        cases Dw with
        | false=>
         simp only[Bool.false_and]at hSB;subst hSB;simp only[Bool.false_eq_true,if_false]at hin;conv=>whnf
         refine qf (qb (by(try dsimp only);omega)) ?_;conv=>whnf
         exact⟨acc,⟨hin,by omega⟩,(Wk.sub (by repeat' first|exact trivial|refine⟨?_,?_⟩|rfl|(simp only[List.length_map];rfl)|simp[PX.get]) (by repeat' first|exact trivial|refine⟨?_,?_⟩|rfl|(simp only[List.length_map];rfl)|simp[PX.get]))⟩
        | true=>
         simp only[Bool.true_and]at hSB;have h81:=fun {σ}=>@qsj l hR hf _ _ _ _ _ _ _ _ hA hA' σ;generalize qax l ⟨xi,xk⟩ ⟨i,k⟩=S at h81 hSB;conv=>whnf
         refine qk (ds:=[qac l (qY l 0 []),(PAt.mk xi xk).d,(PAt.mk i k).d]) h81 rfl rfl ?_;conv=>whnf
         have hnr:=hR.near;generalize hd1:decide (S.lo<=l.near)=D1 at hSB ⊢
         cases D1 with
         | false=>
          simp only[Bool.false_and]at hSB;subst hSB;simp only[Bool.false_eq_true,if_false]at hin;conv=>whnf
          refine qf (qb (by(try dsimp only);omega)) ?_;conv=>whnf
          exact⟨acc,⟨hin,by omega⟩,(Wk.sub (by repeat' first|exact trivial|refine⟨?_,?_⟩|rfl|(simp only[List.length_map];rfl)|simp[PX.get]) (by repeat' first|exact trivial|refine⟨?_,?_⟩|rfl|(simp only[List.length_map];rfl)|simp[PX.get]))⟩
         | true=>
          simp only[Bool.true_and]at hSB;conv=>whnf
          refine qm (-l.near) (by omega) (qb (by omega)) ?_;conv=>whnf
          generalize hd2:decide (-l.near<=S.hi)=D2 at hSB ⊢
          cases D2 with
          | false=>
           subst hSB;simp only[Bool.false_eq_true,if_false]at hin;conv=>whnf
           refine qf (qb (by(try dsimp only);omega)) ?_;conv=>whnf
           exact⟨acc,⟨hin,by omega⟩,(Wk.sub (by repeat' first|exact trivial|refine⟨?_,?_⟩|rfl|(simp only[List.length_map];rfl)|simp[PX.get]) (by repeat' first|exact trivial|refine⟨?_,?_⟩|rfl|(simp only[List.length_map];rfl)|simp[PX.get]))⟩
          | true=>
           subst hSB;simp only[if_true]at hin;conv=>whnf
           refine qn rfl ?_;conv=>whnf
           refine qn (by simp[Els.len]) ?_;conv=>whnf
           refine zL (decide_eq_true (by
            show((acc.map PAt.cells).length+1)*16<=140737488355328;rw[List.length_map];omega)) ?_
           conv=>whnf
           refine qf (qb (by(try dsimp only);omega)) ?_;conv=>whnf
           refine⟨acc ++ [⟨i,k⟩],⟨by rw[List.append_assoc];exact hin,by simp;omega⟩,Wk.sub ⟨rfl,rfl,?_,rfl,rfl,rfl,rfl,rfl,rfl,rfl,rfl,rfl,trivial⟩ ⟨rfl,rfl,rfl,?_,trivial⟩⟩
           ·show some (V.sl 100 2 0 ((acc.map PAt.cells).length+1))=_
            simp
           ·show some (Obj.arr 2 (.dd (acc.map PAt.cells ++ [[i64 i,i64 k]])))=_
            simp[PAt.cells]
      ·rw[decide_eq_false k1,Bool.false_and,Bool.and_false]at hSB
       subst hSB;simp only[Bool.false_eq_true,if_false]at hin
       by_cases k2:y.kind=2
       ·have ht2:zj y = .ifc 175 (.agg []):=by unfold zj;rw[if_neg k1,if_pos k2]
        rw[ht2];conv=>whnf
        generalize hd:decide (((i:Nat):Int)=(PAt.mk (xi:Nat) (xk:Nat)).book)=Dd
        cases Dd with
        | true=>
         conv=>whnf
         refine qf (qb (by(try dsimp only);omega)) ?_;conv=>whnf
         exact⟨acc,⟨hin,by omega⟩,(Wk.sub (by repeat' first|exact trivial|refine⟨?_,?_⟩|rfl|(simp only[List.length_map];rfl)|simp[PX.get]) (by repeat' first|exact trivial|refine⟨?_,?_⟩|rfl|(simp only[List.length_map];rfl)|simp[PX.get]))⟩
        | false=>
         conv=>whnf
         refine qf (qb (by(try dsimp only);omega)) ?_;conv=>whnf
         exact⟨acc,⟨hin,by omega⟩,(Wk.sub (by repeat' first|exact trivial|refine⟨?_,?_⟩|rfl|(simp only[List.length_map];rfl)|simp[PX.get]) (by repeat' first|exact trivial|refine⟨?_,?_⟩|rfl|(simp only[List.length_map];rfl)|simp[PX.get]))⟩
       ·have ht2:zj y = .ifc 156 (.agg [.str y.word,i64 y.number]):=by unfold zj;rw[if_neg k1,if_neg k2,if_pos (by omega)]
        rw[ht2];conv=>whnf
        generalize hd:decide (((i:Nat):Int)=(PAt.mk (xi:Nat) (xk:Nat)).book)=Dd
        cases Dd with
        | true=>
         conv=>whnf
         refine qf (qb (by(try dsimp only);omega)) ?_;conv=>whnf
         exact⟨acc,⟨hin,by omega⟩,(Wk.sub (by repeat' first|exact trivial|refine⟨?_,?_⟩|rfl|(simp only[List.length_map];rfl)|simp[PX.get]) (by repeat' first|exact trivial|refine⟨?_,?_⟩|rfl|(simp only[List.length_map];rfl)|simp[PX.get]))⟩
        | false=>
         conv=>whnf
         refine qf (qb (by(try dsimp only);omega)) ?_;conv=>whnf
         exact⟨acc,⟨hin,by omega⟩,(Wk.sub (by repeat' first|exact trivial|refine⟨?_,?_⟩|rfl|(simp only[List.length_map];rfl)|simp[PX.get]) (by repeat' first|exact trivial|refine⟨?_,?_⟩|rfl|(simp only[List.length_map];rfl)|simp[PX.get]))⟩
     ·rintro acc ⟨hin,hal⟩
      rw[qia,List.nil_append]at hin;conv=>whnf
      refine qj (fun h=>absurd h (by simp)) (fun _=>?_);conv=>whnf
      refine qf (qb (by(try dsimp only);omega)) ?_;conv=>whnf
      exact⟨acc,⟨hin,by omega⟩,(Wk.sub (by repeat' first|exact trivial|refine⟨?_,?_⟩|rfl|(simp only[List.length_map];rfl)|simp[PX.get]) (by repeat' first|exact trivial|refine⟨?_,?_⟩|rfl|(simp only[List.length_map];rfl)|simp[PX.get]))⟩
    ·rintro acc ⟨he,hal⟩
     rw[qbT,List.append_nil]at he;subst he;conv=>whnf
     refine qj (fun h=>absurd h (by simp)) (fun _=>?_);conv=>whnf
     refine qc 1 (ds:=[qdp acc,i64 0]) (qH (jq rfl (by simp)) rfl) ⟨⟨rfl,rfl⟩,rfl⟩
  ·rw[if_neg h1]
   have hk:=(hR.book xb (List.mem_of_getElem? hA.book)).ent xy (List.mem_of_getElem? hA.ent)
   by_cases h2:xy.kind=2
   ·have ht:zj xy = .ifc 175 (.agg []):=by unfold zj;rw[if_neg h1,if_pos h2]
    rw[ht];conv=>whnf
    refine jt ?_;exact qc 0 rfl ⟨⟨rfl,rfl⟩,rfl⟩
   ·have ht:zj xy = .ifc 156 (.agg [.str xy.word,i64 xy.number]):=by unfold zj;rw[if_neg h1,if_neg h2,if_pos (by omega)]
    rw[ht];conv=>whnf
    refine jt ?_;exact qc 0 rfl ⟨⟨rfl,rfl⟩,rfl⟩
 ·rw[if_neg hc]
  refine qG mixed ql Tryz.func29 rfl (ft:=qrV) 2 (by decide +kernel) (by rfl) fun {σ} Y st=>?_;conv=>whnf
  refine qdc (ds:=[l.d,qdp [x]]) (qoP (by simp) hc) 1 [20] rfl rfl ?_;generalize qan l [x]=E at hc ⊢;conv=>whnf
  refine qj (fun _=>?_) (fun h=>absurd hc (by simpa using h));conv=>whnf
  refine jt ?_;exact qc 0 rfl ⟨⟨rfl,rfl⟩,rfl⟩
end Go.PX
