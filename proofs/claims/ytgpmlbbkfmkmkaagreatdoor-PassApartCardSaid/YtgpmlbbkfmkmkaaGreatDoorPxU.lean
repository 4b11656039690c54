import Derived.Test.YtgpmlbbkfmkmkaaGreatDoorPxR
import Derived.Test.YtgpmlbbkfmkmkaaGreatDoorPxT
set_option linter.all false
set_option maxRecDepth 10000
namespace Go.PX
open Go.Proofs
theorem qnt{l:PLog}(hC:qK l=0){conf:List Int}{t:Per->Int}(ht:TruthX l 0 conf t){p:Per}(hp:p∈qV l) : -720<=t p/\t p<=720:=by
 obtain⟨k,hk⟩:=List.getElem?_of_mem hp
 rcases qdf hk with⟨rfl,_⟩ | ⟨i,b,n,hb,hn,rfl,_⟩
 ·rw[ht.right];omega
 ·obtain⟨h1,h2,_,_⟩:=qec hC (List.mem_of_getElem? hb)
  cases n with
  | zero=>
   have:=ht.off i b hb;have e:(⟨(i:Nat),((0:Nat):Int)⟩:Per)=⟨i,0⟩:=rfl;rw[e];omega
  | succ n=>
   have:=ht.set i b (n+1) hb (by omega) hn;omega
theorem far_bd{l:PLog}(hC:qK l=0){conf:List Int}(hf:qcn l 0 conf=true){p q:Per}(hp:p∈qV l)(hq:q∈qV l) : -1440<=qpe l 0 conf p q/\qpe l 0 conf p q<=1440:=by
 obtain⟨t,ht,he⟩:=qla hf hp hq;have h1:=qnt hC ht hp;have h2:=qnt hC ht hq;omega
structure TabV(l:PLog)(T:Rws):Prop where
 at':∀ (i j:Nat) p q,(qV l)[i]?=some p->(qV l)[j]?=some q -> ∃ r x,T[i]?=some r/\r[j]?=some x/\x=qpe l 0 [] p q /\ -1440<=x/\x<=1440
theorem qri{l:PLog}(hC:qK l=0)(hf:qcn l 0 []=true):TabV l (qnT l 0 []):=by
 obtain⟨hS,_,_,hV⟩:=qqa hC (w:=0) (by omega) [];refine⟨fun i j p q hi hj=>?_⟩;have h1:=(List.getElem?_eq_some_iff.1 hi).1;have h2:=(List.getElem?_eq_some_iff.1 hj).1;rw[qfl]at h1 h2;obtain⟨r,hr,hl⟩:=hS.get h1;obtain⟨x,hx⟩:∃ x,r[j]?=some x:=⟨_,List.getElem?_eq_getElem (by omega)⟩;have he:=hV hf i j p q hi hj;unfold tAt at he;rw[hr,Option.getD_some,hx,Option.getD_some]at he;have hb:=far_bd hC hf (List.mem_of_getElem? hi) (List.mem_of_getElem? hj);exact⟨r,x,hr,hx,he,by omega,by omega⟩
end Go.PX
namespace Go.PX
open Go.Proofs
open Go.RowKit
theorem qrj{l:PLog}(hc:qK l=0):FnV Tryz.prog 71 [l.d,i64 0,qU []] (if qcn l 0 [] then .tup [.vs ((qnT l 0 []).map fun r=>[qU r]),.bool true] else .tup [.nils,.bool false]):=pa71 l hc 0 (by omega) [] (by simp)
theorem qsw{l:PLog}{i k j m:Nat}{b c:PBook}{e f:PEnt}{T:Rws}(hc:qK l=0)(hA:At l i k b e)(hB:At l j m c f)(hT:TabV l T) :
  FnV Tryz.prog 82 [l.d,.vs (T.map fun r=>[qU r]),PAt.d ⟨i,k⟩,PAt.d ⟨j,m⟩] (qax l ⟨i,k⟩ ⟨j,m⟩).d /\ -24000<=(qax l ⟨i,k⟩ ⟨j,m⟩).lo/\(qax l ⟨i,k⟩ ⟨j,m⟩).hi<=24000:=by
 have hR:=zT hc;have hent:∀ b∈l.books,b.ents.length<=8:=fun b hb=>(hR.book b hb).ents;have hes:=((hR.book b (List.mem_of_getElem? hA.book)).ent e (List.mem_of_getElem? hA.ent)).1;have hfs:=((hR.book c (List.mem_of_getElem? hB.book)).ent f (List.mem_of_getElem? hB.ent)).1;have c1:=fun {σ}=>@qsv l i k b e hR.books.2 hent hA σ;have c2:=fun {σ}=>@qsv l j m c f hR.books.2 hent hB σ;have c3:=fun {σ}=>@qrv l i k b e hA σ;have c4:=fun {σ}=>@qrv l j m c f hB σ;have hM:=jC hA.book (zE b k);have hN:=jC hB.book (zE c m);have hI:=apartS_eq l ⟨i,k⟩ ⟨j,m⟩;rw[qdg hA,qdg hB,jc hA,jc hB]at hI;rw[hI];generalize jp l i (qJ b k)=M at c1 hM;generalize jp l j (qJ c m)=N at c2 hN;obtain⟨rM,xN,a1,a2,a3,a4⟩:=hT.at' M N _ _ hM hN;obtain⟨rN,xM,b1,b2,b3,b4⟩:=hT.at' N M _ _ hN hM;rw[<- a3,<- b3];refine⟨?_,by simp only;omega,by simp only;omega⟩;show FnV Tryz.prog 82 [l.d,.vs (T.map fun r=>[qU r]),PAt.d ⟨i,k⟩,PAt.d ⟨j,m⟩] _;refine qG mixed ql Tryz.func82 rfl (ft:=ft82) 4 (by decide +kernel) (by rfl) fun {σ} Y st=>?_;conv=>whnf
 refine qo (ds:=[l.d,PAt.d ⟨i,k⟩]) c1 rfl rfl ?_;conv=>whnf
 refine qo (ds:=[l.d,PAt.d ⟨j,m⟩]) c2 rfl rfl ?_;conv=>whnf
 refine qo (ds:=[l.d,PAt.d ⟨j,m⟩]) c4 rfl rfl ?_;conv=>whnf
 refine qo (ds:=[l.d,PAt.d ⟨i,k⟩]) c3 rfl rfl ?_;conv=>whnf
 refine qm (f.shown-e.shown) rfl (qb (by omega)) ?_;conv=>whnf
 refine qw a1 ?_;conv=>whnf
 refine qw a2 ?_;conv=>whnf
 refine qm (f.shown-e.shown-xN) rfl (qb (by omega)) ?_;conv=>whnf
 refine qw b1 ?_;conv=>whnf
 refine qw b2 ?_;conv=>whnf
 refine qm (f.shown-e.shown+xM) rfl (qb (by omega)) ?_;conv=>whnf
 exact qc 0 rfl ⟨⟨rfl,rfl⟩,rfl⟩
theorem pa28(l:PLog)(x y:PAt):FnV Tryz.prog 28 [l.d,x.d,y.d] (.tup [(qch l x y).1.d,i64 (qch l x y).2.1,i64 (qch l x y).2.2]):=by
 have h77:=fun {σ}=>@qsu l [x,y] (by simp) σ;unfold qch qhZ
 rcases Classical.em (qan l [x,y]=0) with he | he
 ·rw[he]at h77
  rw[if_pos he];obtain⟨hc,hx,hy⟩:qK l=0/\qke l x=true/\qke l y=true:=by
   unfold qan at he
   split at he
   ·rename_i hc
    split at he
    ·rename_i h
     rw[List.all_cons,List.all_cons,Bool.and_eq_true,Bool.and_eq_true]at h;exact⟨hc,h.1,h.2.1⟩
    ·cases he
   ·rename_i hc;exact absurd he hc
  obtain⟨i,k,b,e,rfl,hA⟩:=qaZ.1 hx;obtain⟨j,m,c,f,rfl,hB⟩:=qaZ.1 hy;have h71:=fun {σ}=>@qrj l hc σ
  cases hf:qcn l 0 []with
  | false=>
   rw[hf]at h71;simp only[Bool.false_eq_true,if_false]at h71 ⊢;rw[if_neg (by decide)];show FnV Tryz.prog 28 [l.d,PAt.d ⟨i,k⟩,PAt.d ⟨j,m⟩] _;refine qG mixed ql Tryz.func28 rfl (ft:=qrH) 3 (by decide +kernel) (by rfl) fun {σ} Y st=>?_;conv=>whnf
   refine qs (ds:=[l.d,qdp [⟨i,k⟩,⟨j,m⟩]]) h77 rfl 1 rfl ?_;conv=>whnf
   refine qay ?_;refine qk (ds:=[l.d,i64 0,qU []]) h71 rfl rfl ?_;conv=>whnf
   exact qc 0 rfl ⟨⟨rfl,rfl⟩,rfl⟩
  | true=>
   obtain⟨h82,hlo,hhi⟩:=qsw hc hA hB (qri hc hf);rw[hf]at h71;simp only[if_true]at h71 ⊢;generalize qax l ⟨i,k⟩ ⟨j,m⟩=s at h82 hlo hhi;generalize qnT l 0 []=T at h71 h82;obtain⟨lo,hi⟩:=s;unfold qnd;show FnV Tryz.prog 28 [l.d,PAt.d ⟨i,k⟩,PAt.d ⟨j,m⟩] _;refine qG mixed ql Tryz.func28 rfl (ft:=qrH) 3 (by decide +kernel) (by rfl) fun {σ} Y st=>?_;conv=>whnf
   refine qs (ds:=[l.d,qdp [⟨i,k⟩,⟨j,m⟩]]) h77 rfl 1 rfl ?_;conv=>whnf
   refine qay ?_;refine qk (ds:=[l.d,i64 0,qU []]) h71 rfl rfl ?_;conv=>whnf
   refine qk (ds:=[l.d,.vs (T.map fun r=>[qU r]),PAt.d ⟨i,k⟩,PAt.d ⟨j,m⟩]) h82 rfl rfl ?_;conv=>whnf
   refine qj (fun h1=>?_) (fun h1=>?_)
   ·have h1:0<lo:=of_decide_eq_true h1
    conv=>whnf
    rw[if_neg (show ¬ (⟨lo,hi⟩:Span)=⟨0,0⟩ from fun h=>by cases h;omega),if_pos h1];exact qc 0 rfl ⟨⟨rfl,rfl⟩,rfl⟩
   ·have h1:¬ 0<lo:=of_decide_eq_false h1
    conv=>whnf
    refine qj (fun h2=>?_) (fun h2=>?_)
    ·have h2:hi<0:=of_decide_eq_true h2
     conv=>whnf
     rw[if_neg (show ¬ (⟨lo,hi⟩:Span)=⟨0,0⟩ from fun h=>by cases h;omega),if_neg h1,if_pos h2];exact qc 0 rfl ⟨⟨rfl,rfl⟩,rfl⟩
    ·have h2:¬ hi<0:=of_decide_eq_false h2
     conv=>whnf
     refine qj (fun h3=>?_) (fun h3=>?_)
     ·have h3:lo=0:=of_decide_eq_true h3
      conv=>whnf
      refine qj (fun h4=>?_) (fun h4=>?_)
      ·have h4:hi=0:=of_decide_eq_true h4
       conv=>whnf
       rw[if_pos (show(⟨lo,hi⟩:Span)=⟨0,0⟩ from by rw[h3,h4])];exact qc 0 rfl ⟨⟨rfl,rfl⟩,rfl⟩
      ·have h4:¬ hi=0:=of_decide_eq_false h4
       conv=>whnf
       rw[if_neg (show ¬ (⟨lo,hi⟩:Span)=⟨0,0⟩ from fun h=>by injection h with _ e2;exact h4 e2),if_neg h1,if_neg h2];exact qc 0 rfl ⟨⟨rfl,rfl⟩,rfl⟩
     ·have h3:¬ lo=0:=of_decide_eq_false h3
      conv=>whnf
      rw[if_neg (show ¬ (⟨lo,hi⟩:Span)=⟨0,0⟩ from fun h=>by injection h with e2;exact h3 e2),if_neg h1,if_neg h2];exact qc 0 rfl ⟨⟨rfl,rfl⟩,rfl⟩
 ·rw[if_neg he,if_neg he]
  generalize qan l [x,y]=N at he h77;show FnV Tryz.prog 28 [l.d,x.d,y.d] _;refine qG mixed ql Tryz.func28 rfl (ft:=qrH) 3 (by decide +kernel) (by rfl) fun {σ} Y st=>?_;conv=>whnf
  refine qs (ds:=[l.d,qdp [x,y]]) h77 rfl 1 rfl ?_;conv=>whnf
  refine qj (fun _=>?_) (fun h=>absurd h (by simp[he]));conv=>whnf
  exact qc 0 rfl ⟨⟨rfl,rfl⟩,rfl⟩
set_option maxHeartbeats 4000000 in
theorem pa30(l:PLog)(x:PAt):FnV Tryz.prog 30 [l.d,x.d] (.tup [qdp (qib l x).1,i64 (qib l x).2]):=by
 have h77:=fun {σ}=>@qsu l [x] (by simp) σ;unfold qib
 rcases Classical.em (qan l [x]=0) with he | he
 ·rw[he]at h77
  rw[if_pos he];obtain⟨hc,hx⟩:qK l=0/\qke l x=true:=by
   unfold qan at he
   split at he
   ·rename_i hc
    split at he
    ·rename_i h;exact⟨hc,by simpa using h⟩
    ·cases he
   ·rename_i hc;exact absurd he hc
  obtain⟨i0,k0,b0,e0,rfl,hA⟩:=qaZ.1 hx;have h71:=fun {σ}=>@qrj l hc σ;have h50:=fun {σ}=>@qrv l i0 k0 b0 e0 hA σ;have he0:=jc hA;have hR:=zT hc;have hlen:=hR.books;rw[he0]
  rcases Classical.em (e0.kind=1) with hk1 | hk1
  ·rw[if_pos hk1]
   cases hf:qcn l 0 []with
   | false=>
    rw[hf]at h71;simp only[Bool.false_eq_true,if_false]at h71 ⊢;show FnV Tryz.prog 30 [l.d,PAt.d ⟨i0,k0⟩] _;refine qG mixed ql Tryz.func30 rfl (ft:=qrn) 2 (by decide +kernel) (by rfl) fun {σ} Y st=>?_;conv=>whnf
    refine qs (ds:=[l.d,qdp [⟨i0,k0⟩]]) h77 rfl 1 rfl ?_;conv=>whnf
    refine qk (ds:=[l.d,PAt.d ⟨i0,k0⟩]) h50 rfl rfl ?_;conv=>whnf
    refine qj (fun h=>absurd h (by simp[hk1])) (fun _=>?_);conv=>whnf
    refine qay ?_;refine qk (ds:=[l.d,i64 0,qU []]) h71 rfl rfl ?_;conv=>whnf
    refine jt ?_;exact qc 0 rfl ⟨⟨rfl,rfl⟩,rfl⟩
   | true=>
    have htab:=qri hc hf;rw[hf]at h71;simp only[if_true]at h71 ⊢;generalize qnT l 0 []=T at h71 htab;have h82:=fun {j m:Nat} {c:PBook} {f:PEnt} hB=>@qsw l i0 k0 j m b0 c e0 f T hc hA hB htab;show FnV Tryz.prog 30 [l.d,PAt.d ⟨i0,k0⟩] _;refine qG mixed ql Tryz.func30 rfl (ft:=qrn) 2 (by decide +kernel) (by rfl) fun {σ} Y st=>?_;conv=>whnf
    refine qs (ds:=[l.d,qdp [⟨i0,k0⟩]]) h77 rfl 1 rfl ?_;conv=>whnf
    refine qk (ds:=[l.d,PAt.d ⟨i0,k0⟩]) h50 rfl rfl ?_;conv=>whnf
    refine qj (fun h=>absurd h (by simp[hk1])) (fun _=>?_);conv=>whnf
    refine qay ?_;refine qk (ds:=[l.d,i64 0,qU []]) h71 rfl rfl ?_;conv=>whnf
    refine zr (T:=tys) ql (by exact qi mixed ql (by decide +kernel)) l.books (fun i (q:List PAt)=>⟨[(2,.ptr 2 0),(3,.ptr 3 0),(7,.d (.vs (T.map fun r=>[qU r]))),(9,.sl 101 2 0 q.length),(10,.d (i64 i))],[(2,.box (.dd l.cells)),(3,.box (.dd [i64 i0,i64 k0])),(101,.arr 2 (.dd (q.map PAt.cells)))],st⟩)
     (fun i r q=>q++qbT l ⟨i0,k0⟩ i r=qbT l ⟨i0,k0⟩ 0 l.books/\q.length<=8*i) [] ((Wk.born 9 101 2 rfl rfl rfl).trans (Wk.sub (by repeat' first|exact trivial|refine⟨?_,?_⟩|rfl|(simp only[List.length_map];rfl)|simp[PX.get]) (by repeat' first|exact trivial|refine⟨?_,?_⟩|rfl|(simp only[List.length_map];rfl)|simp[PX.get]))) ⟨rfl,Nat.le_refl _⟩ ?_ ?_
    ·rintro i b r q hb hi hr ⟨hq,hql⟩
     have hbR:=hR.book b (List.mem_of_getElem? hb);have hel:=hbR.ents;rw[qbT]at hq;conv=>whnf
     refine qj (fun _=>?_) (fun h=>absurd hi (by have:=of_decide_eq_false h;simp at this;omega));conv=>whnf
     refine zr (T:=tys) ql (by exact qi mixed ql (by decide +kernel)) b.ents (fun k (q:List PAt)=>⟨[(2,.ptr 2 0),(3,.ptr 3 0),(7,.d (.vs (T.map fun r=>[qU r]))),(9,.sl 101 2 0 q.length),(10,.d (i64 i)),(11,.d (i64 k))],[(2,.box (.dd l.cells)),(3,.box (.dd [i64 i0,i64 k0])),(101,.arr 2 (.dd (q.map PAt.cells)))],st⟩)
      (fun k r2 q=>q++(qia l ⟨i0,k0⟩ i k r2++qbT l ⟨i0,k0⟩ (i+1) r)=qbT l ⟨i0,k0⟩ 0 l.books/\q.length<=8*i+k) q (Wk.sub (by repeat' first|exact trivial|refine⟨?_,?_⟩|rfl|(simp only[List.length_map];rfl)|simp[PX.get]) (by repeat' first|exact trivial|refine⟨?_,?_⟩|rfl|(simp only[List.length_map];rfl)|simp[PX.get])) ⟨hq,hql⟩ ?_ ?_
     ·rintro k y r2 q hy hk hr2 ⟨hq,hql⟩
      have hB:At l i k b y:=⟨hb,hy⟩;have h50y:=fun {σ}=>@qrv l i k b y hB σ;obtain⟨h82y,hlo,hhi⟩:=h82 hB;rw[qia]at hq;have hsb:qoK l ⟨i0,k0⟩ i k y=(!decide ((i:Int)=i0)&&(decide (y.kind=1)&&(decide (y.word=e0.word)&&(decide ((qax l ⟨i0,k0⟩ ⟨i,k⟩).lo<=l.near)&&decide (-l.near<=(qax l ⟨i0,k0⟩ ⟨i,k⟩).hi))))):=by unfold qoK;rw[he0]
      rw[hsb]at hq;generalize qax l ⟨i0,k0⟩ ⟨i,k⟩=s at h82y hlo hhi hq;conv=>whnf
      refine qw hb ?_;conv=>whnf
      refine qj (fun _=>?_) (fun h=>absurd hk (by have:=of_decide_eq_false h;simp at this;omega));conv=>whnf
      refine qj (fun a1=>?_) (fun a1=>?_)
      ·simp only[decide_eq_true (of_decide_eq_true a1),Bool.not_true,Bool.false_and,Bool.false_eq_true,if_false]at hq
       conv=>whnf
       refine qf (qb (by(try dsimp only);omega)) ?_;conv=>whnf
       exact⟨q,⟨hq,by omega⟩,(Wk.sub (by repeat' first|exact trivial|refine⟨?_,?_⟩|rfl|(simp only[List.length_map];rfl)|simp[PX.get]) (by repeat' first|exact trivial|refine⟨?_,?_⟩|rfl|(simp only[List.length_map];rfl)|simp[PX.get]))⟩
      ·simp only[decide_eq_false (of_decide_eq_false a1),Bool.not_false,Bool.true_and]at hq
       conv=>whnf
       refine qo (ds:=[l.d,PAt.d ⟨i,k⟩]) h50y rfl rfl ?_;conv=>whnf
       refine qj (fun a2=>?_) (fun a2=>?_)
       ·have a2:¬ y.kind=1:=by simpa using a2
        simp only[decide_eq_false a2,Bool.false_and,Bool.false_eq_true,if_false]at hq;conv=>whnf
        refine qf (qb (by(try dsimp only);omega)) ?_;conv=>whnf
        exact⟨q,⟨hq,by omega⟩,(Wk.sub (by repeat' first|exact trivial|refine⟨?_,?_⟩|rfl|(simp only[List.length_map];rfl)|simp[PX.get]) (by repeat' first|exact trivial|refine⟨?_,?_⟩|rfl|(simp only[List.length_map];rfl)|simp[PX.get]))⟩
       ·have a2:y.kind=1:=by simpa using a2
        simp only[decide_eq_true a2,Bool.true_and]at hq;conv=>whnf
        refine qo (ds:=[l.d,PAt.d ⟨i,k⟩]) h50y rfl rfl ?_;conv=>whnf
        refine qo (ds:=[l.d,PAt.d ⟨i0,k0⟩]) h50 rfl rfl ?_;conv=>whnf
        refine qj (fun a3=>?_) (fun a3=>?_)
        ·have a3:¬ y.word=e0.word:=by simpa using a3
         simp only[decide_eq_false a3,Bool.false_and,Bool.false_eq_true,if_false]at hq;conv=>whnf
         refine qf (qb (by(try dsimp only);omega)) ?_;conv=>whnf
         exact⟨q,⟨hq,by omega⟩,(Wk.sub (by repeat' first|exact trivial|refine⟨?_,?_⟩|rfl|(simp only[List.length_map];rfl)|simp[PX.get]) (by repeat' first|exact trivial|refine⟨?_,?_⟩|rfl|(simp only[List.length_map];rfl)|simp[PX.get]))⟩
        ·have a3:y.word=e0.word:=by simpa using a3
         simp only[decide_eq_true a3,Bool.true_and]at hq;conv=>whnf
         refine qk (ds:=[l.d,.vs (T.map fun r=>[qU r]),PAt.d ⟨i0,k0⟩,PAt.d ⟨i,k⟩]) h82y rfl rfl ?_;conv=>whnf
         refine qj (fun a4=>?_) (fun a4=>?_)
         ·simp only[decide_eq_true (show s.lo<=l.near from of_decide_eq_true a4),Bool.true_and]at hq
          have hnr:=hR.near;conv=>whnf
          refine qm (-l.near) (by omega) (qb (by omega)) ?_;conv=>whnf
          refine qj (fun a5=>?_) (fun a5=>?_)
          ·simp only[decide_eq_true (show -l.near<=s.hi from of_decide_eq_true a5),if_true]at hq
           conv=>whnf
           refine qn rfl ?_;conv=>whnf
           refine qn (by simp[Els.len]) ?_;conv=>whnf
           refine zL (decide_eq_true (by
            show((q.map PAt.cells).length+1)*16<=140737488355328;rw[List.length_map];omega)) ?_
           conv=>whnf
           refine qf (qb (by(try dsimp only);omega)) ?_;conv=>whnf
           refine⟨q ++ [⟨i,k⟩],⟨by rw[<- hq];simp,by simp;omega⟩,Wk.sub ⟨rfl,rfl,rfl,?_,rfl,rfl,trivial⟩ ⟨rfl,rfl,?_,trivial⟩⟩
           ·show some (V.sl 101 2 0 ((q.map PAt.cells).length+1))=_
            simp
           ·show some (Obj.arr 2 (.dd (q.map PAt.cells ++ [PAt.cells ⟨i,k⟩])))=_
            simp
          ·simp only[decide_eq_false (show ¬ -l.near<=s.hi from of_decide_eq_false a5),Bool.false_eq_true,if_false]at hq
           conv=>whnf
           refine qf (qb (by(try dsimp only);omega)) ?_;conv=>whnf
           exact⟨q,⟨hq,by omega⟩,(Wk.sub (by repeat' first|exact trivial|refine⟨?_,?_⟩|rfl|(simp only[List.length_map];rfl)|simp[PX.get]) (by repeat' first|exact trivial|refine⟨?_,?_⟩|rfl|(simp only[List.length_map];rfl)|simp[PX.get]))⟩
         ·simp only[decide_eq_false (show ¬ s.lo<=l.near from of_decide_eq_false a4),Bool.false_and,Bool.false_eq_true,if_false]at hq
          conv=>whnf
          refine qf (qb (by(try dsimp only);omega)) ?_;conv=>whnf
          exact⟨q,⟨hq,by omega⟩,(Wk.sub (by repeat' first|exact trivial|refine⟨?_,?_⟩|rfl|(simp only[List.length_map];rfl)|simp[PX.get]) (by repeat' first|exact trivial|refine⟨?_,?_⟩|rfl|(simp only[List.length_map];rfl)|simp[PX.get]))⟩
     ·rintro q ⟨hq,hql⟩
      conv=>whnf
      refine qw hb ?_;conv=>whnf
      refine qj (fun h=>absurd h (by simp)) (fun _=>?_);conv=>whnf
      refine qf (qb (by(try dsimp only);omega)) ?_;conv=>whnf
      exact⟨q,⟨hq,by omega⟩,(Wk.sub (by repeat' first|exact trivial|refine⟨?_,?_⟩|rfl|(simp only[List.length_map];rfl)|simp[PX.get]) (by repeat' first|exact trivial|refine⟨?_,?_⟩|rfl|(simp only[List.length_map];rfl)|simp[PX.get]))⟩
    ·rintro q ⟨hq,hql⟩
     rw[qbT,List.append_nil]at hq;rw[<- hq];conv=>whnf
     refine qj (fun h=>absurd h (by simp)) (fun _=>?_);conv=>whnf
     exact qc 1 (qH (qbh (es':=q.map PAt.cells) rfl rfl (by simp)) (qH rfl rfl)) ⟨⟨rfl,rfl⟩,rfl⟩
  ·rw[if_neg hk1]
   show FnV Tryz.prog 30 [l.d,PAt.d ⟨i0,k0⟩] _;refine qG mixed ql Tryz.func30 rfl (ft:=qrn) 2 (by decide +kernel) (by rfl) fun {σ} Y st=>?_;conv=>whnf
   refine qs (ds:=[l.d,qdp [⟨i0,k0⟩]]) h77 rfl 1 rfl ?_;conv=>whnf
   refine qk (ds:=[l.d,PAt.d ⟨i0,k0⟩]) h50 rfl rfl ?_;conv=>whnf
   refine qj (fun _=>?_) (fun h=>absurd h (by simp[hk1]));conv=>whnf
   refine jt ?_;exact qc 0 rfl ⟨⟨rfl,rfl⟩,rfl⟩
 ·rw[if_neg he]
  generalize qan l [x]=N at he h77;show FnV Tryz.prog 30 [l.d,x.d] _;refine qG mixed ql Tryz.func30 rfl (ft:=qrn) 2 (by decide +kernel) (by rfl) fun {σ} Y st=>?_;conv=>whnf
  refine qs (ds:=[l.d,qdp [x]]) h77 rfl 1 rfl ?_;conv=>whnf
  refine qj (fun h=>absurd h (by simp[he])) (fun _=>?_);conv=>whnf
  refine qj (fun _=>?_) (fun h=>absurd h (by simp[he]));conv=>whnf
  refine jt ?_;exact qc 0 rfl ⟨⟨rfl,rfl⟩,rfl⟩
theorem same_len(l:PLog)(x:PAt):(qib l x).1.length<=24:=by
 unfold qib
 split
 ·rename_i he
  have hc:qK l=0:=by
   unfold qan at he
   split at he
   ·assumption
   ·rename_i hc;exact absurd he hc
  have hR:=zT hc;have h:=qiY (l:=l) (x:=x) l.books 0 fun b hb=>(hR.book b hb).ents;have:=hR.books
  split
  ·split
   ·simp only;omega
   ·simp
  ·simp
 ·simp
set_option maxHeartbeats 4000000 in
theorem pa4(l:PLog)(x y:PAt):FnV Tryz.prog 4 [l.d,x.d,y.d] (.bool true):=by
 have h27:=fun {σ}=>@qrN l x y σ;have h28:=fun {σ}=>@pa28 l x y σ;have h29:=fun {σ}=>@qsm l x σ;have h30:=fun {σ}=>@pa30 l x σ;have hsl:=same_len l x;generalize qch l x y=S at h27 h28;generalize qib l x=R at h29 h30 hsl;obtain⟨⟨S1,S2⟩,S3,S4⟩:=S;obtain⟨R1,R2⟩:=R;have c31:FnV Tryz.prog 31 [qdp R1,qdp R1] (.bool true):=FnV.cast (qsp R1 R1 (by simp only at hsl;omega)) (by simp);show FnV Tryz.prog 4 [l.d,x.d,y.d] _;refine qG mixed ql Tryz.func4 rfl (ft:=ft4) 3 (by decide +kernel) (by rfl) fun {σ} Y st=>?_;conv=>whnf
 refine qk (ds:=[l.d,x.d,y.d]) h27 rfl rfl ?_;conv=>whnf
 refine qk (ds:=[l.d,x.d,y.d]) h28 rfl rfl ?_;conv=>whnf
 refine qj (fun h=>absurd h (by simp)) (fun _=>?_);conv=>whnf
 refine qj (fun h=>absurd h (by simp)) (fun _=>?_);conv=>whnf
 refine qj (fun h=>absurd h (by simp)) (fun _=>?_);conv=>whnf
 refine qk (ds:=[l.d,x.d]) h29 rfl rfl ?_;conv=>whnf
 refine qk (ds:=[l.d,x.d]) h30 rfl rfl ?_;conv=>whnf
 refine qk (ds:=[qdp R1,qdp R1]) c31 rfl rfl ?_;conv=>whnf
 refine qj (fun _=>?_) (fun h=>absurd h (by simp));conv=>whnf
 refine qk (pa26) rfl rfl ?_;conv=>whnf
 exact qc 0 rfl ⟨⟨rfl,rfl⟩,rfl⟩
end Go.PX
