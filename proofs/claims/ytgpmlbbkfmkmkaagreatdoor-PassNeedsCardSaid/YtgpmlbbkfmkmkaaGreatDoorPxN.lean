import Derived.Test.YtgpmlbbkfmkmkaaGreatDoorPxM
import Derived.Test.YtgpmlbbkfmkmkaaGreatDoorPxL
set_option linter.all false
set_option maxRecDepth 10000
namespace Go.PX
open Go.Proofs
theorem qmq{l:PLog}{wider:Int}{conf:List Int}{i:Nat}{b:PBook}{s:LkS}(hb:l.books[i]?=some b)(h:LInv l wider conf i s):EInv l wider conf i 0 b s.pers ⟨s.steps++jh wider ⟨i,0⟩ b.off,s.many+1,s.first,⟨i,0⟩,[],[]⟩:=by
 refine⟨rfl,rfl,fun num=>⟨Int.le_refl 0,fun h=>absurd h (by show ¬ ((1:Int)<=0);decide),fun⟨m,hm,_⟩=>absurd hm (Nat.not_lt_zero m)⟩,fun num r hr=>?_,fun j m c y num hy hf hc ha=>?_,fun e he=>?_,fun j c hc hj e he=>?_,fun j c n hc hn hjn e he=>?_,fun j m c x z hx hz ha=>?_⟩
 ·obtain⟨j,m,c,x,h1,h2,h3,h4,h5⟩:=h.fst num r hr
  exact⟨j,m,c,x,h1,h2,h3,h4,.inl h5⟩
 ·rcases ha with ha|⟨_,ha⟩
  ·obtain⟨r,h1,h2⟩:=h.got j m c y num hy hf hc ha
   exact⟨r,h1,h2.imp id (Both.mono fun e he=>List.mem_append_left _ he)⟩
  ·exact absurd ha (Nat.not_lt_zero m)
 ·rcases List.mem_append.1 he with he|he
  ·exact h.sub e he
  ·exact .off i b hb e he
 ·rcases Nat.lt_or_ge j i with hlt|hge
  ·exact List.mem_append_left _ (h.off j c hc hlt e he)
  ·have:j=i:=by omega
   subst this;have hcb:c=b:=Option.some.inj (hc.symm.trans hb);subst hcb;exact List.mem_append_right _ he
 ·rcases hjn with⟨hj,hn2⟩|⟨_,hn2⟩
  ·exact List.mem_append_left _ (h.set j c n hc hn hj hn2 e he)
  ·rw[qjA]at hn2;omega
 ·rcases ha with ha|⟨_,ha⟩
  ·exact List.mem_append_left _ (h.ord j m c x z hx hz ha)
  ·omega
def zR(l:List Per):List (List D):=l.map Per.cells
set_option maxHeartbeats 4000000 in
theorem qzf(l:PLog)(hR:LogR l)(wider:Int)(hw:0<=wider/\wider<=1048576)(conf:List Int)(hc:conf.length<1000000):FnV Tryz.prog 68 [l.d,i64 wider,qF conf] (qak l (qX l wider conf)):=by
 refine qJ mixed qm Tryz.func68 rfl (ft:=qxW) 3 (by decide +kernel) (by rfl) fun {σ} Y st=>?_;conv=>whnf
 have hbl:=hR.books;unfold qX;generalize hRES:qeU l wider conf 0 l.books ⟨[],0,[],[]⟩=RES;have hL0:LInv l wider conf 0 ⟨[],0,[],[]⟩:=⟨⟨rfl,fun j c _ hj=>absurd hj (Nat.not_lt_zero j)⟩,fun num r hr=>(by cases hr),fun j m c y num _ _ _ hj=>absurd hj (Nat.not_lt_zero j),fun e he=>(by cases he),fun j c _ hj=>absurd hj (Nat.not_lt_zero j),fun j c n _ _ hj=>absurd hj (Nat.not_lt_zero j),fun j m c x z _ _ hj=>absurd hj (Nat.not_lt_zero j)⟩;refine zd (T:=tys) qm (by exact qg mixed qm (by decide +kernel)) l.books (fun i (x:LkS)=>⟨[(2,.d (qF conf)),(3,.ptr 3 0),(4,.ptr 4 0),(7,.ptr 7 0),(8,.mp 26),(9,.clo 112 [.ptr 7 0,.ptr 4 0]),(29,.d (qS l.books)),(30,.d (i64 l.books.length)),(31,.d (i64 i))],[(3,.box (.dd l.cells)),(4,.box (.dd [i64 wider])),(7,.box (.vv [.ptr 25 0])),(25,.box (.vv [.d (i64 l.near),.d (qS l.books),.sl 900000 5 0 x.steps.length,.sl 900001 1 0 x.pers.length,.d (i64 x.many)])),(900000,.arr 5 (.dd (qu x.steps))),(900001,.arr 1 (.dd (zP x.pers))),(26,.map (kvV qG PAt.d x.first))],st⟩)
  (fun i r x=>qeU l wider conf i r x=RES/\LInv l wider conf i x/\x.steps.length<=26*i/\(0<=x.many/\x.many<=9*i)) ⟨[],0,[],[]⟩ ?wk ⟨hRES,hL0,by simp,by simp⟩ ?_ ?_
 case wk=>
  refine(Wk.bornAtD 25 900000 5 [i64 l.near,qS l.books] [.nils,i64 0] rfl rfl rfl rfl rfl).trans ((Wk.bornAt 25 900001 1 [.d (i64 l.near),.d (qS l.books),.sl 900000 5 0 0] [.d (i64 0)] rfl rfl rfl rfl).trans (Wk.sub (by repeat' first|constructor|(simp only[List.length_map];rfl)|simp[PX.get]) (by repeat' first|constructor|(simp only[List.length_map];rfl)|simp[PX.get])))
 ·rintro i b r x hx hi hr2 ⟨hlk,hI,hst,hmn⟩
  rw[qeU]at hlk;have hB:=hR.book b (List.mem_of_getElem? hx);have hI2:=qkE hx hI;generalize hy:qik l wider conf i b x=y at hlk hI2;unfold qik at hy;conv=>whnf
  refine qj (fun _=>?_) (fun h=>absurd hi (by simpa using h));conv=>whnf
  refine qt hx ?_;conv=>whnf
  refine qT (qqa l wider hw x.steps (by omega) x.pers x.many (by omega) ⟨i,0⟩ b.off hB.off) [7,4,25,900000,900001] rfl ?lent rfl ?_;case lent=>exact⟨_,_,rfl,zT rfl ⟨⟨rfl,rfl⟩,trivial⟩,_,_,rfl,rfl,_,_,rfl,zT rfl ⟨rfl,rfl,⟨rfl,rfl,rfl,rfl⟩,⟨rfl,rfl,rfl,rfl⟩,rfl,trivial⟩,_,_,rfl,rfl,_,_,rfl,rfl,rfl⟩
  conv=>whnf
  have hE0:=qmq hx hI;generalize hER:qeT l wider conf i b x.pers 0 b.ents ⟨x.steps++jh wider ⟨i,0⟩ b.off,x.many+1,x.first,⟨i,0⟩,[],[]⟩=ER at hy;simp only at hy;refine zd (T:=tys) qm (by exact qg mixed qm (by decide +kernel)) b.ents (fun k (e:LkE)=>⟨[(2,.d (qF conf)),(3,.ptr 3 0),(4,.ptr 4 0),(7,.ptr 7 0),(8,.mp 26),(9,.clo 112 [.ptr 7 0,.ptr 4 0]),(29,.d (qS l.books)),(30,.d (i64 l.books.length)),(31,.d (i64 i)),(10,.d (i64 i)),(11,.ptr 11 0),(12,.ptr 12 0),(13,.sl 55 2 0 e.of.length),(14,.mp 43),(45,.d (qeS b.ents)),(46,.d (i64 b.ents.length)),(47,.d (i64 k))],[(3,.box (.dd l.cells)),(4,.box (.dd [i64 wider])),(7,.box (.vv [.ptr 25 0])),(25,.box (.vv [.d (i64 l.near),.d (qS l.books),.sl 900000 5 0 e.steps.length,.sl 900001 1 0 x.pers.length,.d (i64 e.many)])),(900000,.arr 5 (.dd (qu e.steps))),(900001,.arr 1 (.dd (zP x.pers))),(26,.map (kvV qG PAt.d e.first)),(11,.box (.dd b.cells)),(12,.box (.dd e.now.cells)),(43,.map (kvV qG qG e.mine)),(55,.arr 2 (.dd (zR e.of)))],st⟩)
   (fun k r e=>EInv l wider conf i k b x.pers e/\qeT l wider conf i b x.pers k r e=ER/\e.steps.length<=26*i+2+3*k/\(0<=e.many/\e.many<=9*i+1+k) /\ ∀ num,(zr e.mine num).getD 0<=k) ⟨x.steps++jh wider ⟨i,0⟩ b.off,x.many+1,x.first,⟨i,0⟩,[],[]⟩ ?wk2 ⟨hE0,hER,by simp[jh];omega,by simp only;omega,fun num=>by show(0:Int)<=_;omega⟩ ?_ ?_
  case wk2=>
   refine(Wk.born 13 55 2 rfl rfl rfl).trans ((Wk.move 102688 900000 rfl rfl).trans (Wk.sub (by repeat' first|constructor|(simp only[List.length_map];rfl)|simp[PX.get]) (by repeat' first|constructor|(simp only[List.length_map];rfl)|simp[PX.get])))
  ·rintro k y r e hyk hk hr3 ⟨hE,hes,hsl,hem,hmi⟩
   rw[qeT]at hes;have hE2:=qnw hI.pers.2 hx hyk hE;generalize hnx:qqC l wider conf i b x.pers k y e=e2 at hes hE2;unfold qqC at hnx;simp only at hnx;have hK2:=qvD hx hyk hE;generalize hST:(if k=0 then e.steps else e.steps ++ [(⟨((e.of ++ [e.now])[k-1]?).getD .right,e.now,y.shown-((b.ents[k-1]?).getD ⟨0,0,.empty,0⟩).shown⟩:zu)])=ST at hnx hK2;conv=>whnf
   refine qj (fun _=>?_) (fun h=>absurd hk (by simpa using h));conv=>whnf
   refine qt hyk ?_;conv=>whnf
   refine ql rfl ?_;conv=>whnf
   have hofl:e.of.length=k:=by rw[hE.of];simp
   have hk8:k<8:=by have:=hB.ents;omega
   have hy0:=hB.ent y (List.mem_of_getElem? hyk);refine ql (by simp[Els.len,zR]) ?_;conv=>whnf
   refine zx (decide_eq_true (by
    show((zR e.of).length+1)*16<=140737488355328;have:=hB.ents;simp[zR];omega)) ?_
   conv=>whnf
   refine qj (fun h1=>?_) (fun h1=>?_)
   ·have h1:0<k:=by have:=of_decide_eq_true h1;omega
    conv=>whnf
    refine qn ((k-1:Nat):Int) (by omega) (qb (by omega)) ?_;conv=>whnf
    obtain⟨z,hz⟩:∃ z,b.ents[k-1]?=some z:=⟨_,List.getElem?_eq_getElem (by omega)⟩;have hz0:=hB.ent z (List.mem_of_getElem? hz);have hofk:(e.of ++ [e.now])[k-1]?=some ⟨i,qL b (k-1)⟩:=by
     rw[List.getElem?_append_left (by omega),hE.of,List.getElem?_map,List.getElem?_range (by omega)];rfl
    refine qj (fun _=>?_) (fun h=>absurd h (by
     show ¬ ((decide (0<=((k-1:Nat):Int))&&decide (((k-1:Nat):Int)<(((zR e.of).length+1:Nat):Int)))=false);simp[zR,hofl];omega))
    conv=>whnf
    refine jd (Per.cells ⟨i,qL b (k-1)⟩) (by
     show(zR e.of ++ [e.now.cells])[0+((k-1:Nat):Int).toNat]?=_;have:zR e.of ++ [e.now.cells]=zR (e.of ++ [e.now]):=by simp[zR]
     rw[this,Int.toNat_natCast,Nat.zero_add];unfold zR;rw[List.getElem?_map,hofk];rfl) ?_
    conv=>whnf
    refine qn ((k-1:Nat):Int) (by omega) (qb (by omega)) ?_;conv=>whnf
    refine qK z.cells ⟨by omega,by rw[Int.toNat_natCast,List.getElem?_map,hz];rfl⟩ ?_;conv=>whnf
    refine qe (qb (by(try dsimp only);omega)) ?_;conv=>whnf
    refine ql rfl ?_;conv=>whnf
    refine ql (by simp[Els.len,qu]) ?_;conv=>whnf
    refine zx (decide_eq_true (by
     show((qu e.steps).length+1)*40<=140737488355328;simp[qu];omega)) ?_
    conv=>whnf
    rw[if_neg (by omega),hofk,hz]at hST;simp only[Option.getD_some]at hST;refine CallA.wkK ?_;refine qk (qsU y) rfl rfl ?_;refine⟨⟨[(2,.d (qF conf)),(3,.ptr 3 0),(4,.ptr 4 0),(7,.ptr 7 0),(8,.mp 26),(9,.clo 112 [.ptr 7 0,.ptr 4 0]),(29,.d (qS l.books)),(30,.d (i64 l.books.length)),(31,.d (i64 i)),(10,.d (i64 i)),(11,.ptr 11 0),(12,.ptr 12 0),(13,.sl 55 2 0 (e.of ++ [e.now]).length),(14,.mp 43),(15,.d (i64 k)),(16,.ptr 16 0),(45,.d (qeS b.ents)),(46,.d (i64 b.ents.length)),(47,.d (i64 k)),(85,.d (zk y))],[(3,.box (.dd l.cells)),(4,.box (.dd [i64 wider])),(7,.box (.vv [.ptr 25 0])),(25,.box (.vv [.d (i64 l.near),.d (qS l.books),.sl 900000 5 0 ST.length,.sl 900001 1 0 x.pers.length,.d (i64 e.many)])),(900000,.arr 5 (.dd (qu ST))),(900001,.arr 1 (.dd (zP x.pers))),(26,.map (kvV qG PAt.d e.first)),(11,.box (.dd b.cells)),(12,.box (.dd e.now.cells)),(16,.box (.dd y.cells)),(43,.map (kvV qG qG e.mine)),(55,.arr 2 (.dd (zR (e.of ++ [e.now]))))],st⟩,(Wk.move 81 900000 rfl rfl).trans (Wk.sub ⟨rfl,rfl,rfl,rfl,rfl,rfl,rfl,rfl,rfl,rfl,rfl,rfl,?_,rfl,rfl,rfl,rfl,rfl,rfl,rfl,trivial⟩ ⟨rfl,rfl,rfl,?_,?_,rfl,rfl,rfl,rfl,rfl,rfl,?_,trivial⟩),?_⟩
    ·show some (V.sl 55 2 0 ((zR e.of).length+1))=_
     simp[zR]
    ·show some (Obj.box (Cells.vv [.d (i64 l.near),.d (qS l.books),.sl 900000 5 0 ((qu e.steps).length+1),.sl 900001 1 0 x.pers.length,.d (i64 e.many)]))=_
     rw[<- hST];simp[qu]
    ·rw[<- hST]
     show some (Obj.arr 5 (Els.dd (qu e.steps ++ [[i64 i,i64 (qL b (k-1):Nat),i64 e.now.book,i64 e.now.n,i64 (y.shown-z.shown)]])))=_;unfold qu;rw[List.map_append];rfl
    ·show some (Obj.arr 2 (Els.dd (zR e.of ++ [e.now.cells])))=_
     simp[zR]
    have hstl:ST.length<=e.steps.length+1:=by rw[<- hST];simp
    by_cases h2:y.kind=2
    ·rw[if_pos h2]at hnx
     have ht:zk y = .ifc 175 (.agg []):=by unfold zk;rw[if_neg (by omega),if_pos h2]
     rw[ht];have hpo:=jf b k;have hse:=qbe b;have hen:=hB.ents;have hnn:e.now.n=(qL b k:Nat):=by rw[hE.now]
     conv=>whnf
     refine qe (qb (by(try dsimp only);omega)) ?_;conv=>whnf
     refine qT (qqa l wider hw ST (by omega) x.pers e.many (by omega) ⟨e.now.book,e.now.n+1⟩ b.set hB.set) [7,4,25,900000,900001] rfl ?lent rfl ?_;case lent=>exact⟨_,_,rfl,zT rfl ⟨⟨rfl,rfl⟩,trivial⟩,_,_,rfl,rfl,_,_,rfl,zT rfl ⟨rfl,rfl,⟨rfl,rfl,rfl,rfl⟩,⟨rfl,rfl,rfl,rfl⟩,rfl,trivial⟩,_,_,rfl,rfl,_,_,rfl,rfl,rfl⟩
     conv=>whnf
     refine qe (qb (by(try dsimp only);omega)) ?_;conv=>whnf
     subst hnx;refine⟨_,⟨hE2,hes,?_,?_,fun num=>by have:=hmi num;simp only;omega⟩,?_⟩
     ·simp[jh];omega
     ·simp only;omega
     ·exact(Wk.move 106208 900000 rfl rfl).trans (Wk.sub ⟨rfl,rfl,rfl,rfl,rfl,rfl,rfl,rfl,rfl,rfl,rfl,rfl,rfl,rfl,rfl,rfl,rfl,trivial⟩ ⟨rfl,rfl,rfl,rfl,rfl,rfl,rfl,rfl,rfl,rfl,rfl,trivial⟩)
    ·rw[if_neg h2]at hnx
     by_cases h3:y.kind=3
     ·rw[if_pos h3]at hnx
      have ht:zk y = .ifc 156 (.agg [.str y.word,i64 y.number]):=by unfold zk;rw[if_neg (by omega),if_neg h2,if_pos h3]
      rw[ht];have hmn:=hmi y.number;have hm0:=(hE.mine y.number).1;generalize hN:(zr e.mine y.number).getD 0=N at hnx hmn hm0;have hmi2:∀ num,(zr (jJ e.mine y.number (N+1)) num).getD 0<=((k+1:Nat):Int):=fun num=>by
       rw[zA];split
       ·simp only[Option.getD_some];omega
       ·have:=hmi num;omega
      conv=>whnf
      cases hgm:zr e.mine y.number with
      | none=>
       have hN0:N=0:=by rw[<- hN,hgm];rfl
       have hput:=zg (kd:=qG) (vd:=qG) (N+1) hgm;refine⟨none,qs (kd:=qG) qv hgm 0,?_⟩;conv=>whnf
       refine qn (N+1) (by omega) (qb (by omega)) ?_;conv=>whnf
       refine⟨none,qs (kd:=qG) qv hgm 0,?_⟩;conv=>whnf
       have hput2:kvV qG qG e.mine ++ [(i64 y.number,i64 (N+1))]=kvV qG qG (jJ e.mine y.number (N+1)):=hput;rw[hput2];obtain⟨iz,_,hz1,_⟩:=qD (kd:=qG) (vd:=qG) qv (show zr (jJ e.mine y.number (N+1)) y.number=some (N+1) by rw[zA,if_pos rfl]) 0;refine⟨_,hz1,?_⟩;conv=>whnf
       refine qj (fun h5=>?_) (fun h5=>?_)
       ·have h5:1<N+1:=of_decide_eq_true h5
        rw[if_pos (.inl (by omega))]at hnx;conv=>whnf
        refine qe (qb (by(try dsimp only);omega)) ?_;conv=>whnf
        subst hnx;exact⟨_,⟨hE2,hes,by simp only;omega,by simp only;omega,hmi2⟩,(Wk.sub ⟨rfl,rfl,rfl,rfl,rfl,rfl,rfl,rfl,rfl,rfl,rfl,rfl,rfl,rfl,rfl,rfl,rfl,trivial⟩ ⟨rfl,rfl,rfl,rfl,rfl,rfl,rfl,rfl,rfl,rfl,rfl,trivial⟩)⟩
       ·have h5:¬ 1<N+1:=of_decide_eq_false h5
        conv=>whnf
        refine qk (quQ conf y.number (by omega)) rfl rfl ?_;conv=>whnf
        refine qj (fun h6=>?_) (fun h6=>?_)
        ·have h6:y.number∈conf:=of_decide_eq_true h6
         rw[if_pos (.inr h6)]at hnx;conv=>whnf
         refine qe (qb (by(try dsimp only);omega)) ?_;conv=>whnf
         subst hnx;exact⟨_,⟨hE2,hes,by simp only;omega,by simp only;omega,hmi2⟩,(Wk.sub ⟨rfl,rfl,rfl,rfl,rfl,rfl,rfl,rfl,rfl,rfl,rfl,rfl,rfl,rfl,rfl,rfl,rfl,trivial⟩ ⟨rfl,rfl,rfl,rfl,rfl,rfl,rfl,rfl,rfl,rfl,rfl,trivial⟩)⟩
        ·have h6:¬ y.number∈conf:=of_decide_eq_false h6
         rw[if_neg (fun h=>h.elim (fun h=>h5 (by omega)) h6)]at hnx;conv=>whnf
         cases hgf:zr e.first y.number with
         | none=>
          rw[hgf]at hnx;simp only at hnx;have hpf:=zg (kd:=qG) (vd:=PAt.d) (⟨i,k⟩:PAt) hgf;refine⟨none,qs (kd:=qG) qv hgf 0,?_⟩;conv=>whnf
          refine⟨none,qs (kd:=qG) qv hgf 0,?_⟩;conv=>whnf
          have hpf2:kvV qG PAt.d e.first ++ [(i64 y.number,PAt.d ⟨i,k⟩)]=kvV qG PAt.d (jJ e.first y.number ⟨i,k⟩):=hpf
          refine qe (qb (by(try dsimp only);omega)) ?_;conv=>whnf
          subst hnx;refine⟨_,⟨hE2,hes,by simp only;omega,by simp only;omega,hmi2⟩,?_⟩;simp only;rw[<- hpf2];exact(Wk.sub ⟨rfl,rfl,rfl,rfl,rfl,rfl,rfl,rfl,rfl,rfl,rfl,rfl,rfl,rfl,rfl,rfl,rfl,trivial⟩ ⟨rfl,rfl,rfl,rfl,rfl,rfl,rfl,rfl,rfl,rfl,rfl,trivial⟩)
         | some r0=>
          rw[hgf]at hnx;simp only at hnx;obtain⟨j0,m0,c0,x0,hr0,hx0,hf0,-,hah⟩:=hE.fst _ _ hgf;obtain⟨iy,_,hy1,_⟩:=qD (kd:=qG) (vd:=PAt.d) qv hgf 0;refine⟨_,hy1,?_⟩;conv=>whnf
          subst hr0;have hml:=(List.getElem?_eq_some_iff.1 hx0.ent).1;have hjl:=(List.getElem?_eq_some_iff.1 hx0.book).1;refine qK c0.cells ⟨by show(0:Int)<=((j0:Nat):Int);omega,by show(l.books.map PBook.cells)[((j0:Nat):Int).toNat]?=_;rw[Int.toNat_natCast,List.getElem?_map,hx0.book];rfl⟩ ?_;conv=>whnf
          refine qK x0.cells ⟨by show(0:Int)<=((m0:Nat):Int);omega,by show(c0.ents.map PEnt.cells)[((m0:Nat):Int).toNat]?=_;rw[Int.toNat_natCast,List.getElem?_map,hx0.ent];rfl⟩ ?_;conv=>whnf
          have hxs:=(hR.book c0 (List.mem_of_getElem? hx0.book)).ent x0 (List.mem_of_getElem? hx0.ent);have hj0:j0<i:=by
           rcases hah with hah|⟨hji,hah⟩
           ·exact hah
           ·have hb0:=hx0.book
            rw[hji]at hb0;have hcb:c0=b:=Option.some.inj (hb0.symm.trans hx);have h7:=(hE.mine y.number).2.2 ⟨m0,hah,hcb▸hf0⟩;rw[hN]at h7;omega
          have hpj:=hI.pers.2 j0 c0 hx0.book hj0;refine qn (y.shown-x0.shown) rfl (qb (by omega)) ?_;conv=>whnf
          refine qj (fun _=>?_) (fun h=>absurd h (by
           show ¬ ((decide (0<=((j0:Nat):Int))&&decide (((j0:Nat):Int)<((x.pers.length:Nat):Int)))=false);have:=hI.pers.1;simp;omega))
          conv=>whnf
          refine jd [.vs ((jP j0 c0).map Per.cells)] (by
           show(zP x.pers)[0+((j0:Nat):Int).toNat]?=_;unfold zP;rw[Int.toNat_natCast,Nat.zero_add,List.getElem?_map,hpj];rfl) ?_
          conv=>whnf
          refine qK (Per.cells ⟨j0,(qL c0 m0:Nat)⟩) ⟨by show(0:Int)<=((m0:Nat):Int);omega,by show((jP j0 c0).map Per.cells)[((m0:Nat):Int).toNat]?=_;rw[Int.toNat_natCast,List.getElem?_map,jK hml];rfl⟩ ?_;conv=>whnf
          refine qn (-(y.shown-x0.shown)) (by omega) (qb (by omega)) ?_;conv=>whnf
          refine ql rfl ?_;conv=>whnf
          refine ql (by simp[Els.len,qu]) ?_;conv=>whnf
          refine zx (decide_eq_true (by
           show((qu ST).length+2)*40<=140737488355328;simp[qu];omega)) ?_
          conv=>whnf
          refine qe (qb (by(try dsimp only);omega)) ?_;conv=>whnf
          rw[qaP hx0 hpj,jE hx0]at hnx;subst hnx;refine⟨_,⟨hE2,hes,by simp only[List.length_append,List.length_cons,List.length_nil];omega,by simp only;omega,hmi2⟩,?_⟩;have hsc:∀ p q:zu,qu (ST ++ [p,q])=qu ST++qu [p,q]:=fun p q=>by unfold qu;rw[List.map_append]
          simp only[hsc];refine(Wk.move 174 900000 rfl rfl).trans (Wk.sub ⟨rfl,rfl,rfl,rfl,rfl,rfl,rfl,rfl,rfl,rfl,rfl,rfl,rfl,rfl,rfl,rfl,rfl,trivial⟩ ⟨rfl,rfl,rfl,?_,rfl,rfl,rfl,rfl,rfl,rfl,rfl,trivial⟩);show some (Obj.box (Cells.vv [.d (i64 l.near),.d (qS l.books),.sl 900000 5 0 ((qu ST).length+2),.sl 900001 1 0 x.pers.length,.d (i64 e.many)]))=_;simp[qu]
      | some n0=>
       have hN0:N=n0:=by rw[<- hN,hgm];rfl
       obtain⟨ix,_,hx1,hx2,_⟩:=qD (kd:=qG) (vd:=qG) qv hgm 0;refine⟨_,hx1,?_⟩;conv=>whnf
       refine qn (N+1) (by rw[hN0]) (qb (by omega)) ?_;conv=>whnf
       refine⟨_,hx1,?_⟩;conv=>whnf
       have hput2:(kvV qG qG e.mine).set (0+ix,qG n0).fst (i64 y.number,i64 (N+1))=kvV qG qG (jJ e.mine y.number (N+1)):=by
        show(kvV qG qG e.mine).set (0+ix) _=_;rw[Nat.zero_add];exact hx2 (N+1)
       rw[hput2];obtain⟨iz,_,hz1,_⟩:=qD (kd:=qG) (vd:=qG) qv (show zr (jJ e.mine y.number (N+1)) y.number=some (N+1) by rw[zA,if_pos rfl]) 0;refine⟨_,hz1,?_⟩;conv=>whnf
       refine qj (fun h5=>?_) (fun h5=>?_)
       ·have h5:1<N+1:=of_decide_eq_true h5
        rw[if_pos (.inl (by omega))]at hnx;conv=>whnf
        refine qe (qb (by(try dsimp only);omega)) ?_;conv=>whnf
        subst hnx;exact⟨_,⟨hE2,hes,by simp only;omega,by simp only;omega,hmi2⟩,(Wk.sub ⟨rfl,rfl,rfl,rfl,rfl,rfl,rfl,rfl,rfl,rfl,rfl,rfl,rfl,rfl,rfl,rfl,rfl,trivial⟩ ⟨rfl,rfl,rfl,rfl,rfl,rfl,rfl,rfl,rfl,rfl,rfl,trivial⟩)⟩
       ·have h5:¬ 1<N+1:=of_decide_eq_false h5
        conv=>whnf
        refine qk (quQ conf y.number (by omega)) rfl rfl ?_;conv=>whnf
        refine qj (fun h6=>?_) (fun h6=>?_)
        ·have h6:y.number∈conf:=of_decide_eq_true h6
         rw[if_pos (.inr h6)]at hnx;conv=>whnf
         refine qe (qb (by(try dsimp only);omega)) ?_;conv=>whnf
         subst hnx;exact⟨_,⟨hE2,hes,by simp only;omega,by simp only;omega,hmi2⟩,(Wk.sub ⟨rfl,rfl,rfl,rfl,rfl,rfl,rfl,rfl,rfl,rfl,rfl,rfl,rfl,rfl,rfl,rfl,rfl,trivial⟩ ⟨rfl,rfl,rfl,rfl,rfl,rfl,rfl,rfl,rfl,rfl,rfl,trivial⟩)⟩
        ·have h6:¬ y.number∈conf:=of_decide_eq_false h6
         rw[if_neg (fun h=>h.elim (fun h=>h5 (by omega)) h6)]at hnx;conv=>whnf
         cases hgf:zr e.first y.number with
         | none=>
          rw[hgf]at hnx;simp only at hnx;have hpf:=zg (kd:=qG) (vd:=PAt.d) (⟨i,k⟩:PAt) hgf;refine⟨none,qs (kd:=qG) qv hgf 0,?_⟩;conv=>whnf
          refine⟨none,qs (kd:=qG) qv hgf 0,?_⟩;conv=>whnf
          have hpf2:kvV qG PAt.d e.first ++ [(i64 y.number,PAt.d ⟨i,k⟩)]=kvV qG PAt.d (jJ e.first y.number ⟨i,k⟩):=hpf
          refine qe (qb (by(try dsimp only);omega)) ?_;conv=>whnf
          subst hnx;refine⟨_,⟨hE2,hes,by simp only;omega,by simp only;omega,hmi2⟩,?_⟩;simp only;rw[<- hpf2];exact(Wk.sub ⟨rfl,rfl,rfl,rfl,rfl,rfl,rfl,rfl,rfl,rfl,rfl,rfl,rfl,rfl,rfl,rfl,rfl,trivial⟩ ⟨rfl,rfl,rfl,rfl,rfl,rfl,rfl,rfl,rfl,rfl,rfl,trivial⟩)
         | some r0=>
          rw[hgf]at hnx;simp only at hnx;obtain⟨j0,m0,c0,x0,hr0,hx0,hf0,-,hah⟩:=hE.fst _ _ hgf;obtain⟨iy,_,hy1,_⟩:=qD (kd:=qG) (vd:=PAt.d) qv hgf 0;refine⟨_,hy1,?_⟩;conv=>whnf
          subst hr0;have hml:=(List.getElem?_eq_some_iff.1 hx0.ent).1;have hjl:=(List.getElem?_eq_some_iff.1 hx0.book).1;refine qK c0.cells ⟨by show(0:Int)<=((j0:Nat):Int);omega,by show(l.books.map PBook.cells)[((j0:Nat):Int).toNat]?=_;rw[Int.toNat_natCast,List.getElem?_map,hx0.book];rfl⟩ ?_;conv=>whnf
          refine qK x0.cells ⟨by show(0:Int)<=((m0:Nat):Int);omega,by show(c0.ents.map PEnt.cells)[((m0:Nat):Int).toNat]?=_;rw[Int.toNat_natCast,List.getElem?_map,hx0.ent];rfl⟩ ?_;conv=>whnf
          have hxs:=(hR.book c0 (List.mem_of_getElem? hx0.book)).ent x0 (List.mem_of_getElem? hx0.ent);have hj0:j0<i:=by
           rcases hah with hah|⟨hji,hah⟩
           ·exact hah
           ·have hb0:=hx0.book
            rw[hji]at hb0;have hcb:c0=b:=Option.some.inj (hb0.symm.trans hx);have h7:=(hE.mine y.number).2.2 ⟨m0,hah,hcb▸hf0⟩;rw[hN]at h7;omega
          have hpj:=hI.pers.2 j0 c0 hx0.book hj0;refine qn (y.shown-x0.shown) rfl (qb (by omega)) ?_;conv=>whnf
          refine qj (fun _=>?_) (fun h=>absurd h (by
           show ¬ ((decide (0<=((j0:Nat):Int))&&decide (((j0:Nat):Int)<((x.pers.length:Nat):Int)))=false);have:=hI.pers.1;simp;omega))
          conv=>whnf
          refine jd [.vs ((jP j0 c0).map Per.cells)] (by
           show(zP x.pers)[0+((j0:Nat):Int).toNat]?=_;unfold zP;rw[Int.toNat_natCast,Nat.zero_add,List.getElem?_map,hpj];rfl) ?_
          conv=>whnf
          refine qK (Per.cells ⟨j0,(qL c0 m0:Nat)⟩) ⟨by show(0:Int)<=((m0:Nat):Int);omega,by show((jP j0 c0).map Per.cells)[((m0:Nat):Int).toNat]?=_;rw[Int.toNat_natCast,List.getElem?_map,jK hml];rfl⟩ ?_;conv=>whnf
          refine qn (-(y.shown-x0.shown)) (by omega) (qb (by omega)) ?_;conv=>whnf
          refine ql rfl ?_;conv=>whnf
          refine ql (by simp[Els.len,qu]) ?_;conv=>whnf
          refine zx (decide_eq_true (by
           show((qu ST).length+2)*40<=140737488355328;simp[qu];omega)) ?_
          conv=>whnf
          refine qe (qb (by(try dsimp only);omega)) ?_;conv=>whnf
          rw[qaP hx0 hpj,jE hx0]at hnx;subst hnx;refine⟨_,⟨hE2,hes,by simp only[List.length_append,List.length_cons,List.length_nil];omega,by simp only;omega,hmi2⟩,?_⟩;have hsc:∀ p q:zu,qu (ST ++ [p,q])=qu ST++qu [p,q]:=fun p q=>by unfold qu;rw[List.map_append]
          simp only[hsc];refine(Wk.move 174 900000 rfl rfl).trans (Wk.sub ⟨rfl,rfl,rfl,rfl,rfl,rfl,rfl,rfl,rfl,rfl,rfl,rfl,rfl,rfl,rfl,rfl,rfl,trivial⟩ ⟨rfl,rfl,rfl,?_,rfl,rfl,rfl,rfl,rfl,rfl,rfl,trivial⟩);show some (Obj.box (Cells.vv [.d (i64 l.near),.d (qS l.books),.sl 900000 5 0 ((qu ST).length+2),.sl 900001 1 0 x.pers.length,.d (i64 e.many)]))=_;simp[qu]
     ·rw[if_neg h3]at hnx
      have h1k:y.kind=1:=by omega
      have ht:zk y = .ifc 138 (.agg [.str y.word]):=by unfold zk;rw[if_pos h1k]
      rw[ht];conv=>whnf
      refine qe (qb (by(try dsimp only);omega)) ?_;conv=>whnf
      subst hnx;exact⟨_,⟨hE2,hes,by simp only;omega,by simp only;omega,fun num=>by have:=hmi num;simp only;omega⟩,(Wk.sub ⟨rfl,rfl,rfl,rfl,rfl,rfl,rfl,rfl,rfl,rfl,rfl,rfl,rfl,rfl,rfl,rfl,rfl,trivial⟩ ⟨rfl,rfl,rfl,rfl,rfl,rfl,rfl,rfl,rfl,rfl,rfl,trivial⟩)⟩
   ·have h1:k=0:=by have:=of_decide_eq_false h1;omega
    rw[if_pos h1]at hST;conv=>whnf
    refine CallA.wkK ?_;refine qk (qsU y) rfl rfl ?_;refine⟨⟨[(2,.d (qF conf)),(3,.ptr 3 0),(4,.ptr 4 0),(7,.ptr 7 0),(8,.mp 26),(9,.clo 112 [.ptr 7 0,.ptr 4 0]),(29,.d (qS l.books)),(30,.d (i64 l.books.length)),(31,.d (i64 i)),(10,.d (i64 i)),(11,.ptr 11 0),(12,.ptr 12 0),(13,.sl 55 2 0 (e.of ++ [e.now]).length),(14,.mp 43),(15,.d (i64 k)),(16,.ptr 16 0),(45,.d (qeS b.ents)),(46,.d (i64 b.ents.length)),(47,.d (i64 k)),(85,.d (zk y))],[(3,.box (.dd l.cells)),(4,.box (.dd [i64 wider])),(7,.box (.vv [.ptr 25 0])),(25,.box (.vv [.d (i64 l.near),.d (qS l.books),.sl 900000 5 0 ST.length,.sl 900001 1 0 x.pers.length,.d (i64 e.many)])),(900000,.arr 5 (.dd (qu ST))),(900001,.arr 1 (.dd (zP x.pers))),(26,.map (kvV qG PAt.d e.first)),(11,.box (.dd b.cells)),(12,.box (.dd e.now.cells)),(16,.box (.dd y.cells)),(43,.map (kvV qG qG e.mine)),(55,.arr 2 (.dd (zR (e.of ++ [e.now]))))],st⟩,Wk.sub ⟨rfl,rfl,rfl,rfl,rfl,rfl,rfl,rfl,rfl,rfl,rfl,rfl,?_,rfl,rfl,rfl,rfl,rfl,rfl,rfl,trivial⟩ ⟨rfl,rfl,rfl,?_,?_,rfl,rfl,rfl,rfl,rfl,rfl,?_,trivial⟩,?_⟩
    ·show some (V.sl 55 2 0 ((zR e.of).length+1))=_
     simp[zR]
    ·rw[<- hST];rfl
    ·rw[<- hST];rfl
    ·show some (Obj.arr 2 (Els.dd (zR e.of ++ [e.now.cells])))=_
     simp[zR]
    have hstl:ST.length<=e.steps.length+1:=by rw[<- hST];simp
    by_cases h2:y.kind=2
    ·rw[if_pos h2]at hnx
     have ht:zk y = .ifc 175 (.agg []):=by unfold zk;rw[if_neg (by omega),if_pos h2]
     rw[ht];have hpo:=jf b k;have hse:=qbe b;have hen:=hB.ents;have hnn:e.now.n=(qL b k:Nat):=by rw[hE.now]
     conv=>whnf
     refine qe (qb (by(try dsimp only);omega)) ?_;conv=>whnf
     refine qT (qqa l wider hw ST (by omega) x.pers e.many (by omega) ⟨e.now.book,e.now.n+1⟩ b.set hB.set) [7,4,25,900000,900001] rfl ?lent rfl ?_;case lent=>exact⟨_,_,rfl,zT rfl ⟨⟨rfl,rfl⟩,trivial⟩,_,_,rfl,rfl,_,_,rfl,zT rfl ⟨rfl,rfl,⟨rfl,rfl,rfl,rfl⟩,⟨rfl,rfl,rfl,rfl⟩,rfl,trivial⟩,_,_,rfl,rfl,_,_,rfl,rfl,rfl⟩
     conv=>whnf
     refine qe (qb (by(try dsimp only);omega)) ?_;conv=>whnf
     subst hnx;refine⟨_,⟨hE2,hes,?_,?_,fun num=>by have:=hmi num;simp only;omega⟩,?_⟩
     ·simp[jh];omega
     ·simp only;omega
     ·exact(Wk.move 106208 900000 rfl rfl).trans (Wk.sub ⟨rfl,rfl,rfl,rfl,rfl,rfl,rfl,rfl,rfl,rfl,rfl,rfl,rfl,rfl,rfl,rfl,rfl,trivial⟩ ⟨rfl,rfl,rfl,rfl,rfl,rfl,rfl,rfl,rfl,rfl,rfl,trivial⟩)
    ·rw[if_neg h2]at hnx
     by_cases h3:y.kind=3
     ·rw[if_pos h3]at hnx
      have ht:zk y = .ifc 156 (.agg [.str y.word,i64 y.number]):=by unfold zk;rw[if_neg (by omega),if_neg h2,if_pos h3]
      rw[ht];have hmn:=hmi y.number;have hm0:=(hE.mine y.number).1;generalize hN:(zr e.mine y.number).getD 0=N at hnx hmn hm0;have hmi2:∀ num,(zr (jJ e.mine y.number (N+1)) num).getD 0<=((k+1:Nat):Int):=fun num=>by
       rw[zA];split
       ·simp only[Option.getD_some];omega
       ·have:=hmi num;omega
      conv=>whnf
      cases hgm:zr e.mine y.number with
      | none=>
       have hN0:N=0:=by rw[<- hN,hgm];rfl
       have hput:=zg (kd:=qG) (vd:=qG) (N+1) hgm;refine⟨none,qs (kd:=qG) qv hgm 0,?_⟩;conv=>whnf
       refine qn (N+1) (by omega) (qb (by omega)) ?_;conv=>whnf
       refine⟨none,qs (kd:=qG) qv hgm 0,?_⟩;conv=>whnf
       have hput2:kvV qG qG e.mine ++ [(i64 y.number,i64 (N+1))]=kvV qG qG (jJ e.mine y.number (N+1)):=hput;rw[hput2];obtain⟨iz,_,hz1,_⟩:=qD (kd:=qG) (vd:=qG) qv (show zr (jJ e.mine y.number (N+1)) y.number=some (N+1) by rw[zA,if_pos rfl]) 0;refine⟨_,hz1,?_⟩;conv=>whnf
       refine qj (fun h5=>?_) (fun h5=>?_)
       ·have h5:1<N+1:=of_decide_eq_true h5
        rw[if_pos (.inl (by omega))]at hnx;conv=>whnf
        refine qe (qb (by(try dsimp only);omega)) ?_;conv=>whnf
        subst hnx;exact⟨_,⟨hE2,hes,by simp only;omega,by simp only;omega,hmi2⟩,(Wk.sub ⟨rfl,rfl,rfl,rfl,rfl,rfl,rfl,rfl,rfl,rfl,rfl,rfl,rfl,rfl,rfl,rfl,rfl,trivial⟩ ⟨rfl,rfl,rfl,rfl,rfl,rfl,rfl,rfl,rfl,rfl,rfl,trivial⟩)⟩
       ·have h5:¬ 1<N+1:=of_decide_eq_false h5
        conv=>whnf
        refine qk (quQ conf y.number (by omega)) rfl rfl ?_;conv=>whnf
        refine qj (fun h6=>?_) (fun h6=>?_)
        ·have h6:y.number∈conf:=of_decide_eq_true h6
         rw[if_pos (.inr h6)]at hnx;conv=>whnf
         refine qe (qb (by(try dsimp only);omega)) ?_;conv=>whnf
         subst hnx;exact⟨_,⟨hE2,hes,by simp only;omega,by simp only;omega,hmi2⟩,(Wk.sub ⟨rfl,rfl,rfl,rfl,rfl,rfl,rfl,rfl,rfl,rfl,rfl,rfl,rfl,rfl,rfl,rfl,rfl,trivial⟩ ⟨rfl,rfl,rfl,rfl,rfl,rfl,rfl,rfl,rfl,rfl,rfl,trivial⟩)⟩
        ·have h6:¬ y.number∈conf:=of_decide_eq_false h6
         rw[if_neg (fun h=>h.elim (fun h=>h5 (by omega)) h6)]at hnx;conv=>whnf
         cases hgf:zr e.first y.number with
         | none=>
          rw[hgf]at hnx;simp only at hnx;have hpf:=zg (kd:=qG) (vd:=PAt.d) (⟨i,k⟩:PAt) hgf;refine⟨none,qs (kd:=qG) qv hgf 0,?_⟩;conv=>whnf
          refine⟨none,qs (kd:=qG) qv hgf 0,?_⟩;conv=>whnf
          have hpf2:kvV qG PAt.d e.first ++ [(i64 y.number,PAt.d ⟨i,k⟩)]=kvV qG PAt.d (jJ e.first y.number ⟨i,k⟩):=hpf
          refine qe (qb (by(try dsimp only);omega)) ?_;conv=>whnf
          subst hnx;refine⟨_,⟨hE2,hes,by simp only;omega,by simp only;omega,hmi2⟩,?_⟩;simp only;rw[<- hpf2];exact(Wk.sub ⟨rfl,rfl,rfl,rfl,rfl,rfl,rfl,rfl,rfl,rfl,rfl,rfl,rfl,rfl,rfl,rfl,rfl,trivial⟩ ⟨rfl,rfl,rfl,rfl,rfl,rfl,rfl,rfl,rfl,rfl,rfl,trivial⟩)
         | some r0=>
          rw[hgf]at hnx;simp only at hnx;obtain⟨j0,m0,c0,x0,hr0,hx0,hf0,-,hah⟩:=hE.fst _ _ hgf;obtain⟨iy,_,hy1,_⟩:=qD (kd:=qG) (vd:=PAt.d) qv hgf 0;refine⟨_,hy1,?_⟩;conv=>whnf
          subst hr0;have hml:=(List.getElem?_eq_some_iff.1 hx0.ent).1;have hjl:=(List.getElem?_eq_some_iff.1 hx0.book).1;refine qK c0.cells ⟨by show(0:Int)<=((j0:Nat):Int);omega,by show(l.books.map PBook.cells)[((j0:Nat):Int).toNat]?=_;rw[Int.toNat_natCast,List.getElem?_map,hx0.book];rfl⟩ ?_;conv=>whnf
          refine qK x0.cells ⟨by show(0:Int)<=((m0:Nat):Int);omega,by show(c0.ents.map PEnt.cells)[((m0:Nat):Int).toNat]?=_;rw[Int.toNat_natCast,List.getElem?_map,hx0.ent];rfl⟩ ?_;conv=>whnf
          have hxs:=(hR.book c0 (List.mem_of_getElem? hx0.book)).ent x0 (List.mem_of_getElem? hx0.ent);have hj0:j0<i:=by
           rcases hah with hah|⟨hji,hah⟩
           ·exact hah
           ·have hb0:=hx0.book
            rw[hji]at hb0;have hcb:c0=b:=Option.some.inj (hb0.symm.trans hx);have h7:=(hE.mine y.number).2.2 ⟨m0,hah,hcb▸hf0⟩;rw[hN]at h7;omega
          have hpj:=hI.pers.2 j0 c0 hx0.book hj0;refine qn (y.shown-x0.shown) rfl (qb (by omega)) ?_;conv=>whnf
          refine qj (fun _=>?_) (fun h=>absurd h (by
           show ¬ ((decide (0<=((j0:Nat):Int))&&decide (((j0:Nat):Int)<((x.pers.length:Nat):Int)))=false);have:=hI.pers.1;simp;omega))
          conv=>whnf
          refine jd [.vs ((jP j0 c0).map Per.cells)] (by
           show(zP x.pers)[0+((j0:Nat):Int).toNat]?=_;unfold zP;rw[Int.toNat_natCast,Nat.zero_add,List.getElem?_map,hpj];rfl) ?_
          conv=>whnf
          refine qK (Per.cells ⟨j0,(qL c0 m0:Nat)⟩) ⟨by show(0:Int)<=((m0:Nat):Int);omega,by show((jP j0 c0).map Per.cells)[((m0:Nat):Int).toNat]?=_;rw[Int.toNat_natCast,List.getElem?_map,jK hml];rfl⟩ ?_;conv=>whnf
          refine qn (-(y.shown-x0.shown)) (by omega) (qb (by omega)) ?_;conv=>whnf
          refine ql rfl ?_;conv=>whnf
          refine ql (by simp[Els.len,qu]) ?_;conv=>whnf
          refine zx (decide_eq_true (by
           show((qu ST).length+2)*40<=140737488355328;simp[qu];omega)) ?_
          conv=>whnf
          refine qe (qb (by(try dsimp only);omega)) ?_;conv=>whnf
          rw[qaP hx0 hpj,jE hx0]at hnx;subst hnx;refine⟨_,⟨hE2,hes,by simp only[List.length_append,List.length_cons,List.length_nil];omega,by simp only;omega,hmi2⟩,?_⟩;have hsc:∀ p q:zu,qu (ST ++ [p,q])=qu ST++qu [p,q]:=fun p q=>by unfold qu;rw[List.map_append]
          simp only[hsc];refine(Wk.move 174 900000 rfl rfl).trans (Wk.sub ⟨rfl,rfl,rfl,rfl,rfl,rfl,rfl,rfl,rfl,rfl,rfl,rfl,rfl,rfl,rfl,rfl,rfl,trivial⟩ ⟨rfl,rfl,rfl,?_,rfl,rfl,rfl,rfl,rfl,rfl,rfl,trivial⟩);show some (Obj.box (Cells.vv [.d (i64 l.near),.d (qS l.books),.sl 900000 5 0 ((qu ST).length+2),.sl 900001 1 0 x.pers.length,.d (i64 e.many)]))=_;simp[qu]
      | some n0=>
       have hN0:N=n0:=by rw[<- hN,hgm];rfl
       obtain⟨ix,_,hx1,hx2,_⟩:=qD (kd:=qG) (vd:=qG) qv hgm 0;refine⟨_,hx1,?_⟩;conv=>whnf
       refine qn (N+1) (by rw[hN0]) (qb (by omega)) ?_;conv=>whnf
       refine⟨_,hx1,?_⟩;conv=>whnf
       have hput2:(kvV qG qG e.mine).set (0+ix,qG n0).fst (i64 y.number,i64 (N+1))=kvV qG qG (jJ e.mine y.number (N+1)):=by
        show(kvV qG qG e.mine).set (0+ix) _=_;rw[Nat.zero_add];exact hx2 (N+1)
       rw[hput2];obtain⟨iz,_,hz1,_⟩:=qD (kd:=qG) (vd:=qG) qv (show zr (jJ e.mine y.number (N+1)) y.number=some (N+1) by rw[zA,if_pos rfl]) 0;refine⟨_,hz1,?_⟩;conv=>whnf
       refine qj (fun h5=>?_) (fun h5=>?_)
       ·have h5:1<N+1:=of_decide_eq_true h5
        rw[if_pos (.inl (by omega))]at hnx;conv=>whnf
        refine qe (qb (by(try dsimp only);omega)) ?_;conv=>whnf
        subst hnx;exact⟨_,⟨hE2,hes,by simp only;omega,by simp only;omega,hmi2⟩,(Wk.sub ⟨rfl,rfl,rfl,rfl,rfl,rfl,rfl,rfl,rfl,rfl,rfl,rfl,rfl,rfl,rfl,rfl,rfl,trivial⟩ ⟨rfl,rfl,rfl,rfl,rfl,rfl,rfl,rfl,rfl,rfl,rfl,trivial⟩)⟩
       ·have h5:¬ 1<N+1:=of_decide_eq_false h5
        conv=>whnf
        refine qk (quQ conf y.number (by omega)) rfl rfl ?_;conv=>whnf
        refine qj (fun h6=>?_) (fun h6=>?_)
        ·have h6:y.number∈conf:=of_decide_eq_true h6
         rw[if_pos (.inr h6)]at hnx;conv=>whnf
         refine qe (qb (by(try dsimp only);omega)) ?_;conv=>whnf
         subst hnx;exact⟨_,⟨hE2,hes,by simp only;omega,by simp only;omega,hmi2⟩,(Wk.sub ⟨rfl,rfl,rfl,rfl,rfl,rfl,rfl,rfl,rfl,rfl,rfl,rfl,rfl,rfl,rfl,rfl,rfl,trivial⟩ ⟨rfl,rfl,rfl,rfl,rfl,rfl,rfl,rfl,rfl,rfl,rfl,trivial⟩)⟩
        ·have h6:¬ y.number∈conf:=of_decide_eq_false h6
         rw[if_neg (fun h=>h.elim (fun h=>h5 (by omega)) h6)]at hnx;conv=>whnf
         cases hgf:zr e.first y.number with
         | none=>
          rw[hgf]at hnx;simp only at hnx;have hpf:=zg (kd:=qG) (vd:=PAt.d) (⟨i,k⟩:PAt) hgf;refine⟨none,qs (kd:=qG) qv hgf 0,?_⟩;conv=>whnf
          refine⟨none,qs (kd:=qG) qv hgf 0,?_⟩;conv=>whnf
          have hpf2:kvV qG PAt.d e.first ++ [(i64 y.number,PAt.d ⟨i,k⟩)]=kvV qG PAt.d (jJ e.first y.number ⟨i,k⟩):=hpf
          refine qe (qb (by(try dsimp only);omega)) ?_;conv=>whnf
          subst hnx;refine⟨_,⟨hE2,hes,by simp only;omega,by simp only;omega,hmi2⟩,?_⟩;simp only;rw[<- hpf2];exact(Wk.sub ⟨rfl,rfl,rfl,rfl,rfl,rfl,rfl,rfl,rfl,rfl,rfl,rfl,rfl,rfl,rfl,rfl,rfl,trivial⟩ ⟨rfl,rfl,rfl,rfl,rfl,rfl,rfl,rfl,rfl,rfl,rfl,trivial⟩)
         | some r0=>
          rw[hgf]at hnx;simp only at hnx;obtain⟨j0,m0,c0,x0,hr0,hx0,hf0,-,hah⟩:=hE.fst _ _ hgf;obtain⟨iy,_,hy1,_⟩:=qD (kd:=qG) (vd:=PAt.d) qv hgf 0;refine⟨_,hy1,?_⟩;conv=>whnf
          subst hr0;have hml:=(List.getElem?_eq_some_iff.1 hx0.ent).1;have hjl:=(List.getElem?_eq_some_iff.1 hx0.book).1;refine qK c0.cells ⟨by show(0:Int)<=((j0:Nat):Int);omega,by show(l.books.map PBook.cells)[((j0:Nat):Int).toNat]?=_;rw[Int.toNat_natCast,List.getElem?_map,hx0.book];rfl⟩ ?_;conv=>whnf
          refine qK x0.cells ⟨by show(0:Int)<=((m0:Nat):Int);omega,by show(c0.ents.map PEnt.cells)[((m0:Nat):Int).toNat]?=_;rw[Int.toNat_natCast,List.getElem?_map,hx0.ent];rfl⟩ ?_;conv=>whnf
          have hxs:=(hR.book c0 (List.mem_of_getElem? hx0.book)).ent x0 (List.mem_of_getElem? hx0.ent);have hj0:j0<i:=by
           rcases hah with hah|⟨hji,hah⟩
           ·exact hah
           ·have hb0:=hx0.book
            rw[hji]at hb0;have hcb:c0=b:=Option.some.inj (hb0.symm.trans hx);have h7:=(hE.mine y.number).2.2 ⟨m0,hah,hcb▸hf0⟩;rw[hN]at h7;omega
          have hpj:=hI.pers.2 j0 c0 hx0.book hj0;refine qn (y.shown-x0.shown) rfl (qb (by omega)) ?_;conv=>whnf
          refine qj (fun _=>?_) (fun h=>absurd h (by
           show ¬ ((decide (0<=((j0:Nat):Int))&&decide (((j0:Nat):Int)<((x.pers.length:Nat):Int)))=false);have:=hI.pers.1;simp;omega))
          conv=>whnf
          refine jd [.vs ((jP j0 c0).map Per.cells)] (by
           show(zP x.pers)[0+((j0:Nat):Int).toNat]?=_;unfold zP;rw[Int.toNat_natCast,Nat.zero_add,List.getElem?_map,hpj];rfl) ?_
          conv=>whnf
          refine qK (Per.cells ⟨j0,(qL c0 m0:Nat)⟩) ⟨by show(0:Int)<=((m0:Nat):Int);omega,by show((jP j0 c0).map Per.cells)[((m0:Nat):Int).toNat]?=_;rw[Int.toNat_natCast,List.getElem?_map,jK hml];rfl⟩ ?_;conv=>whnf
          refine qn (-(y.shown-x0.shown)) (by omega) (qb (by omega)) ?_;conv=>whnf
          refine ql rfl ?_;conv=>whnf
          refine ql (by simp[Els.len,qu]) ?_;conv=>whnf
          refine zx (decide_eq_true (by
           show((qu ST).length+2)*40<=140737488355328;simp[qu];omega)) ?_
          conv=>whnf
          refine qe (qb (by(try dsimp only);omega)) ?_;conv=>whnf
          rw[qaP hx0 hpj,jE hx0]at hnx;subst hnx;refine⟨_,⟨hE2,hes,by simp only[List.length_append,List.length_cons,List.length_nil];omega,by simp only;omega,hmi2⟩,?_⟩;have hsc:∀ p q:zu,qu (ST ++ [p,q])=qu ST++qu [p,q]:=fun p q=>by unfold qu;rw[List.map_append]
          simp only[hsc];refine(Wk.move 174 900000 rfl rfl).trans (Wk.sub ⟨rfl,rfl,rfl,rfl,rfl,rfl,rfl,rfl,rfl,rfl,rfl,rfl,rfl,rfl,rfl,rfl,rfl,trivial⟩ ⟨rfl,rfl,rfl,?_,rfl,rfl,rfl,rfl,rfl,rfl,rfl,trivial⟩);show some (Obj.box (Cells.vv [.d (i64 l.near),.d (qS l.books),.sl 900000 5 0 ((qu ST).length+2),.sl 900001 1 0 x.pers.length,.d (i64 e.many)]))=_;simp[qu]
     ·rw[if_neg h3]at hnx
      have h1k:y.kind=1:=by omega
      have ht:zk y = .ifc 138 (.agg [.str y.word]):=by unfold zk;rw[if_pos h1k]
      rw[ht];conv=>whnf
      refine qe (qb (by(try dsimp only);omega)) ?_;conv=>whnf
      subst hnx;exact⟨_,⟨hE2,hes,by simp only;omega,by simp only;omega,fun num=>by have:=hmi num;simp only;omega⟩,(Wk.sub ⟨rfl,rfl,rfl,rfl,rfl,rfl,rfl,rfl,rfl,rfl,rfl,rfl,rfl,rfl,rfl,rfl,rfl,trivial⟩ ⟨rfl,rfl,rfl,rfl,rfl,rfl,rfl,rfl,rfl,rfl,rfl,trivial⟩)⟩
  ·rintro e ⟨hE,hes,hsl,hem,hmi⟩
   conv=>whnf
   refine qj (fun h=>absurd h (by simp)) (fun _=>?_);conv=>whnf
   refine ql rfl ?_;conv=>whnf
   refine ql (by simp[Els.len,zP]) ?_;conv=>whnf
   have hfree:(true && !qam 185 ((ze (zP x.pers) ++ [[V.sl 55 2 0 e.of.length]]).flatten))=true:=by
    rw[qds];rfl
   refine zx hfree ?_;conv=>whnf
   refine zx (decide_eq_true (by
    show((zP x.pers).length+1)*24<=140737488355328;have:=hI.pers.1;simp[zP];omega)) ?_
   conv=>whnf
   refine qcK [55,185] (by
    show zh ((ze (zP x.pers) ++ [[V.sl 55 2 0 e.of.length]]).flatten)++([185] ++ [])=_;rw[jD];rfl) ?_
   conv=>whnf
   refine qn ((i+1:Nat):Int) (by omega) (qb (by omega)) ?_;conv=>whnf
   have hes:e=ER:=hes;subst hes;have hofl:e.of.length=b.ents.length:=by rw[hE.of];simp
   refine⟨⟨e.steps,e.many,e.first,x.pers ++ [e.of]⟩,⟨by rw[<- hy]at hlk;exact hlk,by rw[<- hy]at hI2;exact hI2,by simp only;have:=hB.ents;omega,by simp only;have:=hB.ents;omega⟩,?_⟩;refine(Wk.frzArr 1 [55] 185 (sz:=1) (vs:=ze (zP x.pers) ++ [[.sl 55 2 0 e.of.length]]) (ds:=zP x.pers ++ [[.vs (zR e.of)]]) ?_ (qcJ (qeo (qy (js rfl (by simp[zR])) rfl)) _)).trans ((Wk.move 185 900001 rfl rfl).trans (Wk.sub ⟨rfl,rfl,rfl,rfl,rfl,rfl,rfl,rfl,rfl,trivial⟩ ⟨rfl,rfl,rfl,?_,rfl,?_,rfl,trivial⟩))
   ·rfl
   ·show some (Obj.box (Cells.vv [.d (i64 l.near),.d (qS l.books),.sl 900000 5 0 e.steps.length,.sl 900001 1 0 ((zP x.pers).length+1),.d (i64 e.many)]))=_
    simp[zP]
   ·show some (Obj.arr 1 (Els.dd (zP x.pers ++ [[.vs (zR e.of)]])))=_
    unfold zP zR;rw[List.map_append];rfl
 ·rintro x ⟨hlk,hI,hst,hmn⟩
  have hlk:x=RES:=hlk;subst hlk;conv=>whnf
  refine qj (fun h=>absurd h (by simp)) (fun _=>?_);conv=>whnf
  refine qc 2 (ds:=[qak l x]) (qy (qlT rfl (qcI (a:=[i64 l.near,qS l.books]) (qy (je (es':=qu x.steps) rfl rfl (by simp[qu])) (qy (je (es':=zP x.pers) rfl rfl (by simp[zP])) rfl)))) rfl) ⟨⟨rfl,rfl⟩,rfl⟩
theorem qvN(l:PLog)(hR:LogR l):FnV Tryz.prog 68 [l.d,i64 0,.vs []] (qak l (qX l 0 [])):=qzf l hR 0 (by omega) [] (by simp)
theorem qbc{P:Program}{σ:Type}{Y:Hd σ}{st:St σ}{d:Option Nat}{f:FuncId}{a b:V}{r:List V}{K:St σ->Prop}(hc:CallA P Y st d f (a::b :: .d (.vs [])::r) K):CallA P Y st d f (a::b :: .d .nils::r) K:=by
 refine qma (fun yv L F w l h=>?_) hc;obtain⟨x,l',rfl,h1,y,l'',rfl,h2,z,l3,rfl,h3,h4⟩:=h;exact⟨x,_,rfl,h1,y,_,rfl,h2,z,_,rfl,RepD.relax .nils z h3,h4⟩
theorem qAC(l:PLog)(x:LkS)(hR:LookR x):FnV Tryz.prog 75 [qak l x] (i64 (if qoL x (qcY x .right)=true then 0 else 9)):=by
 refine qJ mixed qm Tryz.func75 rfl (ft:=qAd) 1 (by decide +kernel) (by rfl) fun {σ} Y st=>?_;conv=>whnf
 refine qk (qtP) rfl rfl ?_;conv=>whnf
 refine qk (qxw l x hR .right) rfl rfl ?_
 cases h:qoL x (qcY x .right) with
 | true=>
  simp only[if_true];conv=>whnf
  exact qc 0 rfl ⟨⟨rfl,rfl⟩,rfl⟩
 | false=>
  simp only[Bool.false_eq_true,if_false];conv=>whnf
  exact qc 0 rfl ⟨⟨rfl,rfl⟩,rfl⟩
theorem qxc{l:PLog}{i k:Nat}{b:PBook}{y:PEnt}(h:At l i k b y):(0:Int)<=(i:Int)/\(l.books.map PBook.cells)[((i:Nat):Int).toNat]?=some b.cells:=
 ⟨by omega,by rw[Int.toNat_natCast,List.getElem?_map,h.book];rfl⟩
theorem qxd{l:PLog}{i k:Nat}{b:PBook}{y:PEnt}(h:At l i k b y):(0:Int)<=(k:Int)/\(b.ents.map PEnt.cells)[((k:Nat):Int).toNat]?=some y.cells:=
 ⟨by omega,by rw[Int.toNat_natCast,List.getElem?_map,h.ent];rfl⟩
theorem qxy(l:PLog)(x:LkS){i k:Nat}{b:PBook}{y:PEnt}(h:At l i k b y):FnV Tryz.prog 76 [qak l x,(PAt.mk i k).d] y.d:=by
 refine qJ mixed qm Tryz.func76 rfl (ft:=qAe) 2 (by decide +kernel) (by rfl) fun {σ} Y st=>?_;conv=>whnf
 refine qK b.cells (qxc h) ?_;conv=>whnf
 refine qK y.cells (qxd h) ?_;conv=>whnf
 exact qc 0 rfl ⟨⟨rfl,rfl⟩,rfl⟩
theorem qsh{l:PLog}{i k:Nat}{b:PBook}{y:PEnt}(h:At l i k b y):(0:Int)<=(i:Int)/\((qX l 0 []).pers.map fun r=>[D.vs (r.map Per.cells)])[((i:Nat):Int).toNat]?=some [D.vs ((jP i b).map Per.cells)]:=
 ⟨by omega,by rw[Int.toNat_natCast,List.getElem?_map,(qfB l 0 []).pers.2 i b h.book (qrQ h)];rfl⟩
theorem qsi{l:PLog}{i k:Nat}{b:PBook}{y:PEnt}(h:At l i k b y):(0:Int)<=(k:Int)/\((jP i b).map Per.cells)[((k:Nat):Int).toNat]?=some (Per.cells ⟨i,qL b k⟩):=
 ⟨by omega,by rw[Int.toNat_natCast,List.getElem?_map,jK (List.getElem?_eq_some_iff.1 h.ent).1];rfl⟩
theorem qsj{l:PLog}{i k j m:Nat}{b c:PBook}{y z:PEnt}(h:At l i k b y)(h':At l j m c z):qea l ⟨i,k⟩ ⟨j,m⟩=⟨(z.shown-y.shown)-(zO (qX l 0 []) ⟨j,qL c m⟩ ⟨i,qL b k⟩).hi,(z.shown-y.shown)-(zO (qX l 0 []) ⟨j,qL c m⟩ ⟨i,qL b k⟩).lo⟩:=by
 unfold qea;rw[qeV h,qeV h',jE h,jE h']
theorem qyw(l:PLog){i k j m:Nat}{b c:PBook}{y z:PEnt}(h:At l i k b y)(h':At l j m c z)(A B:Int)(hA : -4000000000<=A/\A<=4000000000)(hB : -4000000000<=B/\B<=4000000000)(hy:0<=y.shown/\y.shown<=20000)(hz:0<=z.shown/\z.shown<=20000)
  (h72:FnV Tryz.prog 72 [qak l (qX l 0 []),Per.d ⟨j,qL c m⟩,Per.d ⟨i,qL b k⟩] (.agg [i64 A,i64 B])):FnV Tryz.prog 81 [qak l (qX l 0 []),(PAt.mk i k).d,(PAt.mk j m).d] (.agg [i64 ((z.shown-y.shown)-B),i64 ((z.shown-y.shown)-A)]):=by
 refine qJ mixed qm Tryz.func81 rfl (ft:=qAh) 3 (by decide +kernel) (by rfl) fun {σ} Y st=>?_;conv=>whnf
 refine qK _ (qsh h') ?_;conv=>whnf
 refine qK _ (qsi h') ?_;conv=>whnf
 refine qK _ (qsh h) ?_;conv=>whnf
 refine qK _ (qsi h) ?_;conv=>whnf
 refine qq (ds:=[qak l (qX l 0 []),Per.d ⟨j,qL c m⟩,Per.d ⟨i,qL b k⟩]) h72 rfl rfl ?_;conv=>whnf
 refine qq (qxy l _ h') rfl rfl ?_;conv=>whnf
 refine qq (qxy l _ h) rfl rfl ?_;conv=>whnf
 refine qe (qb (by(try dsimp only);omega)) ?_;conv=>whnf
 refine qe (qb (by(try dsimp only);omega)) ?_;conv=>whnf
 refine qe (qb (by(try dsimp only);omega)) ?_;conv=>whnf
 exact qc 0 rfl ⟨⟨rfl,rfl⟩,rfl⟩
theorem qzg(l:PLog)(hR:LogR l)(hf:jW l 0 []=true){i k j m:Nat}{b c:PBook}{y z:PEnt}(h:At l i k b y)(h':At l j m c z):FnV Tryz.prog 81 [qak l (qX l 0 []),(PAt.mk i k).d,(PAt.mk j m).d] (qea l ⟨i,k⟩ ⟨j,m⟩).d:=by
 rw[qsj h h'];have hL:=qjD hR (w:=0) (by omega) [];have hn:=qit (qdt.2 ⟨i,k,b,y,rfl,h⟩);have hn':=qit (qdt.2 ⟨j,m,c,z,rfl,h'⟩);rw[qeV h]at hn;rw[qeV h']at hn';have hb:=qml hL ⟨j,qL c m⟩ ⟨i,qL b k⟩;have hb':=qml hL ⟨i,qL b k⟩ ⟨j,qL c m⟩;have hy:=((hR.book b (List.mem_of_getElem? h.book)).ent y (List.mem_of_getElem? h.ent)).1;have hz:=((hR.book c (List.mem_of_getElem? h'.book)).ent z (List.mem_of_getElem? h'.ent)).1;exact fun {σ}=>FnV.cast (fun {σ}=>qyw l h h' (zO (qX l 0 []) ⟨j,qL c m⟩ ⟨i,qL b k⟩).lo (zO (qX l 0 []) ⟨j,qL c m⟩ ⟨i,qL b k⟩).hi ⟨by show -4000000000 <= -_;omega,by show -_<=4000000000;omega⟩ hb' hy hz (fun {σ}=>qzc l (qX l 0 []) hL ⟨j,qL c m⟩ ⟨i,qL b k⟩ (qkH hf hn') (qkH hf hn))) rfl
def qtW(l:PLog)(xs:List PAt):D:=if qcj l xs=0 then qak l (qX l 0 []) else .nilp
def qkN(l:List PAt):D:=.vs (l.map PAt.cells)
theorem qcd(l:PLog):qaQ l=((qaQ l).1,(qaQ l).2.1,qE l):=rfl
theorem qev(l:PLog)(p q e:Int)(h:qaQ l=(p,q,e)):FnV Tryz.prog 17 [l.d] (.tup [i64 p,i64 q,i64 e]):=FnV.cast (fun {σ}=>qAx l) (by rw[h];rfl)
theorem qzh(l:PLog)(xs:List PAt)(hx:xs.length<1000000):FnV Tryz.prog 74 [l.d,qkN xs] (.tup [qtW l xs,i64 (qcj l xs)]):=by
 unfold qtW qcj;refine qJ mixed qm Tryz.func74 rfl (ft:=qAc) 2 (by decide +kernel) (by rfl) fun {σ} Y st=>?_;conv=>whnf
 by_cases hc:qE l=0
 ·rw[if_pos hc]
  have hR:=zK hc;have hbl:=hR.books;refine qk (qev l 0 0 0 (qcb hc)) rfl rfl ?_;conv=>whnf
  generalize hE:(if xs.all (quU l)=true then (0:Int) else 4)=E;refine zd (T:=tys) qm (by exact qg mixed qm (by decide +kernel)) xs (fun i (_:Unit)=>⟨[(2,.ptr 2 0),(20,.d (qkN xs)),(21,.d (i64 xs.length)),(22,.d (i64 i))],[(2,.box (.dd l.cells))],st⟩) (fun i r _=>(if r.all (quU l)=true then (0:Int) else 4)=E) () (Wk.sub (by repeat' first|constructor|(simp only[List.length_map];rfl)|simp[PX.get]) ⟨(by first|rfl|(simp only[List.length_map];rfl)|simp[PX.get]),trivial⟩) hE ?_ ?_
  ·rintro i x r _ hxi hi hr he
   conv=>whnf
   refine qj (fun _=>?_) (fun h=>absurd hi (by simpa using h));conv=>whnf
   refine qt hxi ?_;conv=>whnf
   refine qn ((l.books.length:Int)-1) (by simp) (qb (by omega)) ?_;conv=>whnf
   refine qB (qnz 0 ((l.books.length:Int)-1) x.book) rfl 1 rfl ?_;rw[List.all_cons]at he;unfold quU at he
   cases h1:qcM x.book 0 ((l.books.length:Int)-1) with
   | true=>
    rw[h1]at he;simp only[Bool.not_true,Bool.false_and,Bool.false_eq_true,if_false]at he;conv=>whnf
    subst he;exact qc 0 rfl ⟨⟨rfl,rfl⟩,rfl⟩
   | false=>
    rw[h1]at he;simp only[Bool.not_false,Bool.true_and]at he;have h1:=zV.1 h1;obtain⟨b,hb⟩:∃ b,l.books[x.book.toNat]?=some b:=⟨_,List.getElem?_eq_getElem (by omega)⟩;have hba:qeB l x.book=b:=by unfold qeB;rw[hb];rfl
    rw[hba]at he;have hbe:=(hR.book b (List.mem_of_getElem? hb)).ents;conv=>whnf
    refine qK b.cells ⟨h1.1,by rw[List.getElem?_map,hb];rfl⟩ ?_;conv=>whnf
    refine qn ((b.ents.length:Int)-1) (by simp) (qb (by omega)) ?_;conv=>whnf
    refine qB (qnz 0 ((b.ents.length:Int)-1) x.entry) rfl 1 rfl ?_
    cases h2:qcM x.entry 0 ((b.ents.length:Int)-1) with
    | true=>
     rw[h2]at he;simp only[Bool.not_true,Bool.false_and,Bool.false_eq_true,if_false]at he;conv=>whnf
     subst he;exact qc 0 rfl ⟨⟨rfl,rfl⟩,rfl⟩
    | false=>
     rw[h2]at he;simp only[Bool.not_false,Bool.true_and]at he;conv=>whnf
     refine qe (qb (by(try dsimp only);omega)) ?_;conv=>whnf
     exact⟨(),he,(Wk.sub (by repeat' first|constructor|(simp only[List.length_map];rfl)|simp[PX.get]) ⟨(by first|rfl|(simp only[List.length_map];rfl)|simp[PX.get]),trivial⟩)⟩
  ·rintro _ he
   have he:(0:Int)=E:=he;subst he;conv=>whnf
   refine qj (fun h=>absurd h (by simp)) (fun _=>?_);conv=>whnf
   refine qbc ?_;refine qk (qvN l hR) rfl rfl ?_;conv=>whnf
   rw[if_pos rfl];exact qc 0 rfl ⟨⟨rfl,rfl⟩,rfl⟩
 ·rw[if_neg hc]
  refine qk (qev l _ _ _ (qcd l)) rfl rfl ?_;conv=>whnf
  generalize qE l=E at hc;refine qj (fun _=>?_) (fun h=>absurd hc (by simpa using h));conv=>whnf
  rw[if_neg hc];exact qc 0 rfl ⟨⟨rfl,rfl⟩,rfl⟩
theorem qvO(l:PLog)(hR:LogR l):FnV Tryz.prog 75 [qak l (qX l 0 [])] (i64 (if jW l 0 []=true then 0 else 9)):=qAC l (qX l 0 []) (qjD hR (by omega) [])
theorem qtX(l:PLog)(hR:LogR l)(w:Int)(hw:0<=w/\w<=1048576)(conf:List Int):∃ m,FnV Tryz.prog 69 [qak l (qX l w conf),Per.right.d] (.tup [m,.bool (jW l w conf)]):=⟨_,fun {σ}=>qxw l (qX l w conf) (qjD hR hw conf) .right⟩
theorem qzi(l:PLog):FnV Tryz.prog 19 [l.d] (.tup [.bool (qrU l).1,i64 (qrU l).2]):=by
 unfold qrU;refine qJ mixed qm Tryz.func19 rfl (ft:=qzx) 1 (by decide +kernel) (by rfl) fun {σ} Y st=>?_;conv=>whnf
 by_cases hc:qE l=0
 ·rw[if_pos hc]
  have hR:=zK hc;refine qk (qev l 0 0 0 (qcb hc)) rfl rfl ?_;conv=>whnf
  refine qbc ?_;refine qk (qvN l hR) rfl rfl ?_;conv=>whnf
  refine qk (qtP) rfl rfl ?_;conv=>whnf
  obtain⟨m,hm⟩:=qtX l hR 0 (by omega) [];refine qk (hm) rfl rfl ?_;conv=>whnf
  exact qc 0 rfl ⟨⟨rfl,rfl⟩,rfl⟩
 ·rw[if_neg hc]
  refine qk (qev l _ _ _ (qcd l)) rfl rfl ?_;conv=>whnf
  generalize qE l=E at hc;refine qj (fun _=>?_) (fun h=>absurd hc (by simpa using h));conv=>whnf
  exact qc 0 rfl ⟨⟨rfl,rfl⟩,rfl⟩
theorem qAD{l:PLog}(hR:LogR l){i k:Nat}{b:PBook}{y:PEnt}(h:At l i k b y):0<=y.shown/\y.shown<=20000:=((hR.book b (List.mem_of_getElem? h.book)).ent y (List.mem_of_getElem? h.ent)).1
theorem qtY{l:PLog}{i k:Nat}{b:PBook}{y:PEnt}(h:At l i k b y):qtQ l ⟨i,k⟩=⟨y.shown-(zO (qX l 0 []) ⟨i,qL b k⟩ .right).hi,y.shown-(zO (qX l 0 []) ⟨i,qL b k⟩ .right).lo⟩:=by
 unfold qtQ;rw[qeV h,jE h]
theorem qxe{l:PLog}(hR:LogR l)(hf:jW l 0 []=true){p q:Per}(hp:p∈qY l)(hq:q∈qY l):FnV Tryz.prog 72 [qak l (qX l 0 []),p.d,q.d] (.agg [i64 (zO (qX l 0 []) p q).lo,i64 (zO (qX l 0 []) p q).hi]):=
 qzc l (qX l 0 []) (qjD hR (by omega) []) p q (qkH hf hp) (qkH hf hq)
theorem qtZ{l:PLog}(hR:LogR l)(p q:Per):(-4000000000<=(zO (qX l 0 []) p q).lo/\(zO (qX l 0 []) p q).lo<=4000000000)/\(-4000000000<=(zO (qX l 0 []) p q).hi/\(zO (qX l 0 []) p q).hi<=4000000000):=by
 have h1:=qml (qjD hR (w:=0) (by omega) []) p q;have h2:=qml (qjD hR (w:=0) (by omega) []) q p;unfold zO;simp only;omega
theorem qix{l:PLog}{xs:List PAt}(h:qcj l xs=0):qE l=0 /\ ∀ x∈xs,quU l x=true:=by
 unfold qcj at h;split at h
 ·rename_i h1
  split at h
  ·rename_i h2;exact⟨h1,fun x hx=>List.all_eq_true.1 h2 x hx⟩
  ·cases h
 ·rename_i h1;exact absurd h h1
theorem qsk{l:PLog}{xs:List PAt}(hx:xs.length<1000000)(h:qcj l xs=0):FnV Tryz.prog 74 [l.d,qkN xs] (.tup [qak l (qX l 0 []),i64 0]):=
 FnV.cast (fun {σ}=>qzh l xs hx) (by unfold qtW;rw[if_pos h,h])
theorem qsl{l:PLog}{xs:List PAt}(hx:xs.length<1000000)(h:qcj l xs≠0):FnV Tryz.prog 74 [l.d,qkN xs] (.tup [.nilp,i64 (qcj l xs)]):=
 FnV.cast (fun {σ}=>qzh l xs hx) (by unfold qtW;rw[if_neg h])
theorem qoZ{l:PLog}{xs:List PAt}(h:qcj l xs≠0):qkF l xs=qcj l xs/\qkF l xs≠0:=by
 unfold qkF;rw[if_neg h];exact⟨rfl,h⟩
theorem qyx(l:PLog)(x:PAt):FnV Tryz.prog 24 [l.d,x.d] (.tup [(qkG l x).1.d,i64 (qkG l x).2]):=by
 by_cases hc:qcj l [x]=0
 ·obtain⟨hck,hall⟩:=qix hc
  have hR:=zK hck;have hat:=hall x (by simp);obtain⟨i,k,b,y,rfl,hA⟩:=qdt.1 hat;have e:qkG l ⟨i,k⟩=if jW l 0 []=true then (qtQ l ⟨i,k⟩,0) else (⟨0,0⟩,9):=by
   unfold qkG qkF;rw[if_pos hc];cases jW l 0 []<;>rfl
  rw[e];refine qJ mixed qm Tryz.func24 rfl (ft:=qyP) 2 (by decide +kernel) (by rfl) fun {σ} Y st=>?_;conv=>whnf
  refine qdr (ds:=[l.d,qkN [⟨i,k⟩]]) (qsk (by simp) hc) 1 [13] rfl rfl ?_;conv=>whnf
  refine qk (qvO l hR) rfl rfl ?_;conv=>whnf
  cases hf:jW l 0 []with
  | false=>
   simp only[Bool.false_eq_true,if_false];conv=>whnf
   exact qc 0 rfl ⟨⟨rfl,rfl⟩,rfl⟩
  | true=>
   simp only[if_true];rw[qtY hA];have hn:=qit hat;rw[qeV hA]at hn;have h72:=fun {σ}=>@qxe l hR hf _ _ hn (qjE l) σ;have hbd:=qtZ hR ⟨i,qL b k⟩ .right;have hy:=qAD hR hA;generalize (zO (qX l 0 []) ⟨i,qL b k⟩ .right)=S at h72 hbd ⊢;conv=>whnf
   refine qK _ (qsh hA) ?_;conv=>whnf
   refine qK _ (qsi hA) ?_;conv=>whnf
   refine qq (ds:=[]) qtP rfl rfl ?_;conv=>whnf
   refine qq (ds:=[qak l (qX l 0 []),Per.d ⟨i,qL b k⟩,Per.right.d]) h72 rfl rfl ?_;conv=>whnf
   refine qq (qxy l _ hA) rfl rfl ?_;conv=>whnf
   refine qe (qb (by(try dsimp only);omega)) ?_;conv=>whnf
   refine qe (qb (by(try dsimp only);omega)) ?_;conv=>whnf
   exact qc 0 rfl ⟨⟨rfl,rfl⟩,rfl⟩
 ·obtain⟨e1,e2⟩:=qoZ hc
  have e:qkG l x=(⟨0,0⟩,qcj l [x]):=by
   unfold qkG;rw[if_neg e2,e1]
  rw[e];refine qJ mixed qm Tryz.func24 rfl (ft:=qyP) 2 (by decide +kernel) (by rfl) fun {σ} Y st=>?_;conv=>whnf
  refine qdr (ds:=[l.d,qkN [x]]) (qsl (by simp) hc) 1 [13] rfl rfl ?_;generalize qcj l [x]=E at hc ⊢;conv=>whnf
  refine qj (fun h=>absurd h (by simpa using hc)) (fun _=>?_);conv=>whnf
  refine qj (fun _=>?_) (fun h=>absurd hc (by simpa using h));conv=>whnf
  exact qc 0 rfl ⟨⟨rfl,rfl⟩,rfl⟩
theorem qzj(l:PLog)(x z:PAt):FnV Tryz.prog 27 [l.d,x.d,z.d] (.tup [(qfD l x z).1.d,i64 (qfD l x z).2.1,i64 (qfD l x z).2.2]):=by
 by_cases hc:qcj l [x,z]=0
 ·obtain⟨hck,hall⟩:=qix hc
  have hR:=zK hck;have hat:=hall x (by simp);have hat':=hall z (by simp);obtain⟨i,k,b,y,rfl,hA⟩:=qdt.1 hat;obtain⟨j,m,c,u,rfl,hA'⟩:=qdt.1 hat';have e:qfD l ⟨i,k⟩ ⟨j,m⟩=if jW l 0 []=true then (qea l ⟨i,k⟩ ⟨j,m⟩,qrV (qea l ⟨i,k⟩ ⟨j,m⟩),0) else (⟨0,0⟩,0,9):=by
   unfold qfD qkF;rw[if_pos hc];cases jW l 0 []<;>rfl
  rw[e];refine qJ mixed qm Tryz.func27 rfl (ft:=qyQ) 3 (by decide +kernel) (by rfl) fun {σ} Y st=>?_;conv=>whnf
  refine qdr (ds:=[l.d,qkN [⟨i,k⟩,⟨j,m⟩]]) (qsk (by simp) hc) 1 [14] rfl rfl ?_;conv=>whnf
  refine qk (qvO l hR) rfl rfl ?_;conv=>whnf
  cases hf:jW l 0 []with
  | false=>
   simp only[Bool.false_eq_true,if_false];conv=>whnf
   exact qc 0 rfl ⟨⟨rfl,rfl⟩,rfl⟩
  | true=>
   simp only[if_true];have h81:=fun {σ}=>@qzg l hR hf _ _ _ _ _ _ _ _ hA hA' σ;generalize qea l ⟨i,k⟩ ⟨j,m⟩=S at h81 ⊢;conv=>whnf
   refine qk h81 rfl rfl ?_;conv=>whnf
   unfold qrV;have hS:(S=⟨0,0⟩)↔(S.lo=0/\S.hi=0):=by cases S;simp
   generalize hB:(decide (S.lo=0)&&(decide (S.hi=0)&&true))=B
   cases B with
   | true=>
    rw[if_pos (hS.2 (by simpa using hB))];conv=>whnf
    exact qc 0 rfl ⟨⟨rfl,rfl⟩,rfl⟩
   | false=>
    rw[if_neg (fun h=>by have:=hS.1 h;rw[this.1,this.2]at hB;cases hB)];conv=>whnf
    refine qj (fun h1=>?_) (fun h1=>?_)
    ·rw[if_pos (of_decide_eq_true h1)]
     conv=>whnf
     exact qc 0 rfl ⟨⟨rfl,rfl⟩,rfl⟩
    ·rw[if_neg (of_decide_eq_false h1)]
     conv=>whnf
     refine qj (fun h2=>?_) (fun h2=>?_)
     ·rw[if_pos (of_decide_eq_true h2)]
      conv=>whnf
      exact qc 0 rfl ⟨⟨rfl,rfl⟩,rfl⟩
     ·rw[if_neg (of_decide_eq_false h2)]
      conv=>whnf
      exact qc 0 rfl ⟨⟨rfl,rfl⟩,rfl⟩
 ·obtain⟨e1,e2⟩:=qoZ hc
  have e:qfD l x z=(⟨0,0⟩,0,qcj l [x,z]):=by
   unfold qfD;rw[if_neg e2,e1]
  rw[e];refine qJ mixed qm Tryz.func27 rfl (ft:=qyQ) 3 (by decide +kernel) (by rfl) fun {σ} Y st=>?_;conv=>whnf
  refine qdr (ds:=[l.d,qkN [x,z]]) (qsl (by simp) hc) 1 [14] rfl rfl ?_;generalize qcj l [x,z]=E at hc ⊢;conv=>whnf
  refine qj (fun h=>absurd h (by simpa using hc)) (fun _=>?_);conv=>whnf
  refine qj (fun _=>?_) (fun h=>absurd hc (by simpa using h));conv=>whnf
  exact qc 0 rfl ⟨⟨rfl,rfl⟩,rfl⟩
theorem qyy(l:PLog)(book:Int):FnV Tryz.prog 21 [l.d,i64 book] (.tup [qbA (qnB l book).1,i64 (qnB l book).2]):=by
 unfold qnB;refine qJ mixed qm Tryz.func21 rfl (ft:=qzy) 2 (by decide +kernel) (by rfl) fun {σ} Y st=>?_;conv=>whnf
 by_cases hc:qE l=0
 ·rw[if_pos hc]
  have hR:=zK hc;have hbl:=hR.books;refine qk (qev l 0 0 0 (qcb hc)) rfl rfl ?_;conv=>whnf
  refine qn ((l.books.length:Int)-1) (by simp) (qb (by omega)) ?_;conv=>whnf
  refine qw (qnz 0 ((l.books.length:Int)-1) book) rfl 1 rfl ?_
  cases h1:qcM book 0 ((l.books.length:Int)-1) with
  | true=>
   simp only[if_true];conv=>whnf
   refine jG ?_;exact qc 0 rfl ⟨⟨rfl,rfl⟩,rfl⟩
  | false=>
   simp only[Bool.false_eq_true,if_false];have h1:=zV.1 h1;obtain⟨i,rfl⟩:∃ i:Nat,book=i:=⟨book.toNat,by omega⟩;obtain⟨b,hb⟩:∃ b,l.books[i]?=some b:=⟨_,List.getElem?_eq_getElem (by omega)⟩;have hba:qeB l i=b:=by unfold qeB;rw[Int.toNat_natCast,hb];rfl
   conv=>whnf
   refine qbc ?_;refine qk (qvN l hR) rfl rfl ?_;conv=>whnf
   refine qk (qtP) rfl rfl ?_;conv=>whnf
   obtain⟨m,hm⟩:=qtX l hR 0 (by omega) [];refine qk (hm) rfl rfl ?_;conv=>whnf
   cases hf:jW l 0 []with
   | false=>
    simp only[Bool.false_eq_true,if_false];conv=>whnf
    refine jG ?_;exact qc 0 rfl ⟨⟨rfl,rfl⟩,rfl⟩
   | true=>
    simp only[if_true];unfold qwQ;rw[hba];conv=>whnf
    refine qK b.cells ⟨by omega,by rw[Int.toNat_natCast,List.getElem?_map,hb];rfl⟩ ?_;conv=>whnf
    have hbe:=(hR.book b (List.mem_of_getElem? hb)).ents;have hsl:=qbe b;refine zd (T:=tys) qm (by exact qg mixed qm (by decide +kernel)) b.ents (fun k (n:Nat)=>⟨[(1,.d (i64 i)),(4,.d .nils),(6,.d (qak l (qX l 0 []))),(9,.d (i64 n)),(46,.d (qeS b.ents)),(47,.d (i64 b.ents.length)),(48,.d (i64 k))],[],st⟩) (fun k r n=>n+zn r=zn b.ents) 0 ?_ (by simp) ?_ ?_
    ·exact(Wk.sub (by repeat' first|constructor|(simp only[List.length_map];rfl)|simp[PX.get]) trivial)
    ·rintro k y r n hyk hk hr he
     rw[qjz]at he;conv=>whnf
     refine qj (fun _=>?_) (fun h=>absurd hk (by simpa using h));conv=>whnf
     refine qt hyk ?_;conv=>whnf
     refine qj (fun h2=>?_) (fun h2=>?_)
     ·rw[if_pos (of_decide_eq_true h2)]at he
      conv=>whnf
      refine qn (((n+1:Nat):Int)) (by(try dsimp only);omega) (qb (by(try dsimp only);omega)) ?_;conv=>whnf
      refine qe (qb (by(try dsimp only);omega)) ?_;conv=>whnf
      exact⟨n+1,by omega,(Wk.sub (by repeat' first|constructor|(simp only[List.length_map];rfl)|simp[PX.get]) trivial)⟩
     ·rw[if_neg (of_decide_eq_false h2)]at he
      conv=>whnf
      refine qe (qb (by(try dsimp only);omega)) ?_;conv=>whnf
      exact⟨n,by omega,(Wk.sub (by repeat' first|constructor|(simp only[List.length_map];rfl)|simp[PX.get]) trivial)⟩
    ·rintro n he
     have he:n=zn b.ents:=he;subst he;conv=>whnf
     refine qj (fun h=>absurd h (by simp)) (fun _=>?_);conv=>whnf
     generalize hN:zn b.ents=N at hsl ⊢;generalize hF:(fun(n:Nat)=>zO (qX l 0 []) ⟨(i:Int),(n:Int)⟩ .right)=F;refine qn (((N+1:Nat):Int)) (by(try dsimp only);omega) (qb (by(try dsimp only);omega)) ?_;conv=>whnf
     refine zI (T:=tys) qm (by exact qg mixed qm (by decide +kernel)) (α:=Nat×List Span) (fun z=>⟨[(1,.d (i64 i)),(4,.sl 71 2 0 z.2.length),(6,.d (qak l (qX l 0 []))),(59,.d (i64 (N+1:Nat))),(60,.d (i64 z.1))],[(71,.arr 2 (.dd (z.2.map Span.cells)))],st⟩) (fun z=>z.1<=N+1/\z.2=(List.range z.1).map F) (fun z=>N+1-z.1) (0,[]) ?_ ⟨Nat.zero_le _,rfl⟩ ?_
     ·exact(Wk.born 4 71 2 rfl rfl rfl).trans (Wk.sub (by repeat' first|constructor|(simp only[List.length_map];rfl)|simp[PX.get]) ⟨(by first|rfl|(simp only[List.length_map];rfl)|simp[PX.get]),trivial⟩)
     rintro ⟨k,acc⟩ ⟨hk,hacc⟩;simp only at hk hacc;conv=>whnf
     refine qj (fun h3=>?_) (fun h3=>?_)
     ·have h3:k<N+1:=by have:=of_decide_eq_true h3;simp only at this;omega
      have hn:=qoW hb (n:=k) (by omega);have h72:=fun {σ}=>@qxe l hR hf _ _ hn (qjE l) σ;have hFk:F k=zO (qX l 0 []) ⟨(i:Int),(k:Int)⟩ .right:=by rw[<- hF]
      rw[<- hFk]at h72;have hal:acc.length=k:=by rw[hacc];simp
      conv=>whnf
      refine qk (qtP) rfl rfl ?_;conv=>whnf
      refine qk (ds:=[qak l (qX l 0 []),Per.d ⟨(i:Int),(k:Int)⟩,Per.right.d]) h72 rfl rfl ?_;conv=>whnf
      refine ql rfl ?_;conv=>whnf
      refine ql (by simp[Els.len]) ?_;conv=>whnf
      refine zx (decide_eq_true (by
       show((acc.map Span.cells).length+1)*16<=140737488355328;rw[List.length_map];omega)) ?_
      conv=>whnf
      refine qe (qb (by(try dsimp only);omega)) ?_;conv=>whnf
      refine⟨(k+1,acc ++ [F k]),by simp only;omega,⟨by simp only;omega,by simp only;rw[List.range_succ,List.map_append,hacc];rfl⟩,Wk.sub ⟨rfl,?_,rfl,rfl,rfl,trivial⟩ ⟨?_,trivial⟩⟩
      ·show some (V.sl 71 2 0 ((acc.map Span.cells).length+1))=_
       simp
      ·show some (Obj.arr 2 (.dd (acc.map Span.cells ++ [[i64 (F k).lo,i64 (F k).hi]])))=_
       simp[Span.cells]
     ·have h3:¬ k<N+1:=by have:=of_decide_eq_false h3;simp only at this;omega
      have hk2:k=N+1:=by omega
      subst hk2;subst hacc;conv=>whnf
      refine qc 1 (ds:=[qbA ((List.range (N+1)).map F),i64 0]) (qy (js rfl (by simp)) rfl) ⟨⟨rfl,rfl⟩,rfl⟩
 ·rw[if_neg hc]
  refine qk (qev l _ _ _ (qcd l)) rfl rfl ?_;conv=>whnf
  generalize qE l=E at hc;refine qj (fun _=>?_) (fun h=>absurd hc (by simpa using h));conv=>whnf
  refine jG ?_;exact qc 0 rfl ⟨⟨rfl,rfl⟩,rfl⟩
theorem qAE(l:PLog)(x:PAt):FnV Tryz.prog 29 [l.d,x.d] (.tup [qkN (qtR l x).1,i64 (qtR l x).2]):=by
 unfold qtR;by_cases hc:qcj l [x]=0
 ·rw[if_pos hc]
  obtain⟨hck,hall⟩:=qix hc;have hR:=zK hck;have hbl:=hR.books;have hat:=hall x (by simp);obtain⟨xi,xk,xb,xy,rfl,hA⟩:=qdt.1 hat;rw[jE hA];refine qJ mixed qm Tryz.func29 rfl (ft:=qyR) 2 (by decide +kernel) (by rfl) fun {σ} Y st=>?_;conv=>whnf
  refine qdr (ds:=[l.d,qkN [⟨xi,xk⟩]]) (qsk (by simp) hc) 1 [20] rfl rfl ?_;conv=>whnf
  refine qk (qxy l (qX l 0 []) hA) rfl rfl ?_;conv=>whnf
  refine qk (qsU xy) rfl rfl ?_;conv=>whnf
  by_cases h1:xy.kind=1
  ·rw[if_pos h1]
   have ht:zk xy = .ifc 138 (.agg [.str xy.word]):=by unfold zk;rw[if_pos h1]
   rw[ht];conv=>whnf
   refine qk (qvO l hR) rfl rfl ?_;conv=>whnf
   cases hf:jW l 0 []with
   | false=>
    simp only[Bool.false_eq_true,if_false];conv=>whnf
    refine jG ?_;exact qc 0 rfl ⟨⟨rfl,rfl⟩,rfl⟩
   | true=>
    simp only[if_true];conv=>whnf
    generalize hT:qiq l ⟨xi,xk⟩ 0 l.books=T;refine zd (T:=tys) qm (by exact qg mixed qm (by decide +kernel)) l.books (fun i (acc:List PAt)=>⟨[(2,.ptr 2 0),(3,.ptr 3 0),(4,.sl 100 2 0 acc.length),(6,.d (qak l (qX l 0 []))),(7,.ptr 7 0),(43,.d (qS l.books)),(44,.d (i64 l.books.length)),(45,.d (i64 i))],[(2,.box (.dd l.cells)),(3,.box (.dd (PAt.mk xi xk).cells)),(7,.box (.dd [.str xy.word])),(100,.arr 2 (.dd (acc.map PAt.cells)))],st⟩) (fun i r acc=>acc++qiq l ⟨xi,xk⟩ i r=T/\acc.length<=8*i) [] ?_ ⟨hT,by simp⟩ ?_ ?_
    ·exact(Wk.born 4 100 2 rfl rfl rfl).trans (Wk.sub (by repeat' first|constructor|(simp only[List.length_map];rfl)|simp[PX.get]) (by repeat' first|constructor|(simp only[List.length_map];rfl)|simp[PX.get]))
    ·rintro i b r acc hb hi hr ⟨he,hal⟩
     rw[qiq]at he;have hB:=hR.book b (List.mem_of_getElem? hb);have hbe:=hB.ents;conv=>whnf
     refine qj (fun _=>?_) (fun h=>absurd hi (by simpa using h));conv=>whnf
     refine qt hb ?_;conv=>whnf
     refine zd (T:=tys) qm (by exact qg mixed qm (by decide +kernel)) b.ents (fun k (acc:List PAt)=>⟨[(2,.ptr 2 0),(3,.ptr 3 0),(4,.sl 100 2 0 acc.length),(6,.d (qak l (qX l 0 []))),(7,.ptr 7 0),(9,.d (i64 i)),(43,.d (qS l.books)),(44,.d (i64 l.books.length)),(45,.d (i64 i)),(51,.d (qeS b.ents)),(52,.d (i64 b.ents.length)),(53,.d (i64 k))],[(2,.box (.dd l.cells)),(3,.box (.dd (PAt.mk xi xk).cells)),(7,.box (.dd [.str xy.word])),(100,.arr 2 (.dd (acc.map PAt.cells)))],st⟩) (fun k q acc=>acc++(qpU l ⟨xi,xk⟩ i k q++qiq l ⟨xi,xk⟩ (i+1) r)=T/\acc.length<=8*i+k) acc ?_ ⟨he,by omega⟩ ?_ ?_
     ·exact(Wk.sub (by repeat' first|constructor|(simp only[List.length_map];rfl)|simp[PX.get]) (by repeat' first|constructor|(simp only[List.length_map];rfl)|simp[PX.get]))
     ·rintro k y q acc hy hk hq ⟨hin,hal⟩
      rw[qpU]at hin;have hA':At l i k b y:=⟨hb,hy⟩;have hyk:=(hB.ent y (List.mem_of_getElem? hy)).2.1;conv=>whnf
      refine qj (fun _=>?_) (fun h=>absurd hk (by simpa using h));conv=>whnf
      refine qt hy ?_;conv=>whnf
      refine qk (qsU y) rfl rfl ?_;generalize hSB:qvG l ⟨xi,xk⟩ i k y=SB at hin;unfold qvG at hSB;simp only[jE hA]at hSB;by_cases k1:y.kind=1
      ·have ht2:zk y = .ifc 138 (.agg [.str y.word]):=by unfold zk;rw[if_pos k1]
       rw[ht2];rw[decide_eq_true k1,Bool.true_and]at hSB;conv=>whnf
       generalize hd:decide (((i:Nat):Int)=(PAt.mk (xi:Nat) (xk:Nat)).book)=Dd at hSB ⊢
       cases Dd with
       | true=>
        simp only[Bool.not_true,Bool.false_and]at hSB;subst hSB;simp only[Bool.false_eq_true,if_false]at hin;conv=>whnf
        refine qe (qb (by(try dsimp only);omega)) ?_;conv=>whnf
        exact⟨acc,⟨hin,by omega⟩,(Wk.sub (by repeat' first|constructor|(simp only[List.length_map];rfl)|simp[PX.get]) (by repeat' first|constructor|(simp only[List.length_map];rfl)|simp[PX.get]))⟩
       | false=>
        simp only[Bool.not_false,Bool.true_and]at hSB;conv=>whnf
        generalize hw:decide (y.word=xy.word)=Dw at hSB ⊢
        cases Dw with
        | false=>
         simp only[Bool.false_and]at hSB;subst hSB;simp only[Bool.false_eq_true,if_false]at hin;conv=>whnf
         refine qe (qb (by(try dsimp only);omega)) ?_;conv=>whnf
         exact⟨acc,⟨hin,by omega⟩,(Wk.sub (by repeat' first|constructor|(simp only[List.length_map];rfl)|simp[PX.get]) (by repeat' first|constructor|(simp only[List.length_map];rfl)|simp[PX.get]))⟩
        | true=>
         simp only[Bool.true_and]at hSB;have h81:=fun {σ}=>@qzg l hR hf _ _ _ _ _ _ _ _ hA hA' σ;generalize qea l ⟨xi,xk⟩ ⟨i,k⟩=S at h81 hSB;conv=>whnf
         refine qk (ds:=[qak l (qX l 0 []),(PAt.mk xi xk).d,(PAt.mk i k).d]) h81 rfl rfl ?_;conv=>whnf
         have hnr:=hR.near;generalize hd1:decide (S.lo<=l.near)=D1 at hSB ⊢
         cases D1 with
         | false=>
          simp only[Bool.false_and]at hSB;subst hSB;simp only[Bool.false_eq_true,if_false]at hin;conv=>whnf
          refine qe (qb (by(try dsimp only);omega)) ?_;conv=>whnf
          exact⟨acc,⟨hin,by omega⟩,(Wk.sub (by repeat' first|constructor|(simp only[List.length_map];rfl)|simp[PX.get]) (by repeat' first|constructor|(simp only[List.length_map];rfl)|simp[PX.get]))⟩
         | true=>
          simp only[Bool.true_and]at hSB;conv=>whnf
          refine qn (-l.near) (by omega) (qb (by omega)) ?_;conv=>whnf
          generalize hd2:decide (-l.near<=S.hi)=D2 at hSB ⊢
          cases D2 with
          | false=>
           subst hSB;simp only[Bool.false_eq_true,if_false]at hin;conv=>whnf
           refine qe (qb (by(try dsimp only);omega)) ?_;conv=>whnf
           exact⟨acc,⟨hin,by omega⟩,(Wk.sub (by repeat' first|constructor|(simp only[List.length_map];rfl)|simp[PX.get]) (by repeat' first|constructor|(simp only[List.length_map];rfl)|simp[PX.get]))⟩
          | true=>
           subst hSB;simp only[if_true]at hin;conv=>whnf
           refine ql rfl ?_;conv=>whnf
           refine ql (by simp[Els.len]) ?_;conv=>whnf
           refine zx (decide_eq_true (by
            show((acc.map PAt.cells).length+1)*16<=140737488355328;rw[List.length_map];omega)) ?_
           conv=>whnf
           refine qe (qb (by(try dsimp only);omega)) ?_;conv=>whnf
           refine⟨acc ++ [⟨i,k⟩],⟨by rw[List.append_assoc];exact hin,by simp;omega⟩,Wk.sub ⟨rfl,rfl,?_,rfl,rfl,rfl,rfl,rfl,rfl,rfl,rfl,rfl,trivial⟩ ⟨rfl,rfl,rfl,?_,trivial⟩⟩
           ·show some (V.sl 100 2 0 ((acc.map PAt.cells).length+1))=_
            simp
           ·show some (Obj.arr 2 (.dd (acc.map PAt.cells ++ [[i64 i,i64 k]])))=_
            simp[PAt.cells]
      ·rw[decide_eq_false k1,Bool.false_and,Bool.and_false]at hSB
       subst hSB;simp only[Bool.false_eq_true,if_false]at hin;by_cases k2:y.kind=2
       ·have ht2:zk y = .ifc 175 (.agg []):=by unfold zk;rw[if_neg k1,if_pos k2]
        rw[ht2];conv=>whnf
        generalize hd:decide (((i:Nat):Int)=(PAt.mk (xi:Nat) (xk:Nat)).book)=Dd
        cases Dd with
        | true=>
         conv=>whnf
         refine qe (qb (by(try dsimp only);omega)) ?_;conv=>whnf
         exact⟨acc,⟨hin,by omega⟩,(Wk.sub (by repeat' first|constructor|(simp only[List.length_map];rfl)|simp[PX.get]) (by repeat' first|constructor|(simp only[List.length_map];rfl)|simp[PX.get]))⟩
        | false=>
         conv=>whnf
         refine qe (qb (by(try dsimp only);omega)) ?_;conv=>whnf
         exact⟨acc,⟨hin,by omega⟩,(Wk.sub (by repeat' first|constructor|(simp only[List.length_map];rfl)|simp[PX.get]) (by repeat' first|constructor|(simp only[List.length_map];rfl)|simp[PX.get]))⟩
       ·have ht2:zk y = .ifc 156 (.agg [.str y.word,i64 y.number]):=by unfold zk;rw[if_neg k1,if_neg k2,if_pos (by omega)]
        rw[ht2];conv=>whnf
        generalize hd:decide (((i:Nat):Int)=(PAt.mk (xi:Nat) (xk:Nat)).book)=Dd
        cases Dd with
        | true=>
         conv=>whnf
         refine qe (qb (by(try dsimp only);omega)) ?_;conv=>whnf
         exact⟨acc,⟨hin,by omega⟩,(Wk.sub (by repeat' first|constructor|(simp only[List.length_map];rfl)|simp[PX.get]) (by repeat' first|constructor|(simp only[List.length_map];rfl)|simp[PX.get]))⟩
        | false=>
         conv=>whnf
         refine qe (qb (by(try dsimp only);omega)) ?_;conv=>whnf
         exact⟨acc,⟨hin,by omega⟩,(Wk.sub (by repeat' first|constructor|(simp only[List.length_map];rfl)|simp[PX.get]) (by repeat' first|constructor|(simp only[List.length_map];rfl)|simp[PX.get]))⟩
     ·rintro acc ⟨hin,hal⟩
      rw[qpU,List.nil_append]at hin;conv=>whnf
      refine qj (fun h=>absurd h (by simp)) (fun _=>?_);conv=>whnf
      refine qe (qb (by(try dsimp only);omega)) ?_;conv=>whnf
      exact⟨acc,⟨hin,by omega⟩,(Wk.sub (by repeat' first|constructor|(simp only[List.length_map];rfl)|simp[PX.get]) (by repeat' first|constructor|(simp only[List.length_map];rfl)|simp[PX.get]))⟩
    ·rintro acc ⟨he,hal⟩
     rw[qiq,List.append_nil]at he;subst he;conv=>whnf
     refine qj (fun h=>absurd h (by simp)) (fun _=>?_);conv=>whnf
     refine qc 1 (ds:=[qkN acc,i64 0]) (qy (js rfl (by simp)) rfl) ⟨⟨rfl,rfl⟩,rfl⟩
  ·rw[if_neg h1]
   have hk:=(hR.book xb (List.mem_of_getElem? hA.book)).ent xy (List.mem_of_getElem? hA.ent);by_cases h2:xy.kind=2
   ·have ht:zk xy = .ifc 175 (.agg []):=by unfold zk;rw[if_neg h1,if_pos h2]
    rw[ht];conv=>whnf
    refine jG ?_;exact qc 0 rfl ⟨⟨rfl,rfl⟩,rfl⟩
   ·have ht:zk xy = .ifc 156 (.agg [.str xy.word,i64 xy.number]):=by unfold zk;rw[if_neg h1,if_neg h2,if_pos (by omega)]
    rw[ht];conv=>whnf
    refine jG ?_;exact qc 0 rfl ⟨⟨rfl,rfl⟩,rfl⟩
 ·rw[if_neg hc]
  refine qJ mixed qm Tryz.func29 rfl (ft:=qyR) 2 (by decide +kernel) (by rfl) fun {σ} Y st=>?_;conv=>whnf
  refine qdr (ds:=[l.d,qkN [x]]) (qsl (by simp) hc) 1 [20] rfl rfl ?_;generalize qcj l [x]=E at hc ⊢;conv=>whnf
  refine qj (fun _=>?_) (fun h=>absurd hc (by simpa using h));conv=>whnf
  refine jG ?_;exact qc 0 rfl ⟨⟨rfl,rfl⟩,rfl⟩
end Go.PX
