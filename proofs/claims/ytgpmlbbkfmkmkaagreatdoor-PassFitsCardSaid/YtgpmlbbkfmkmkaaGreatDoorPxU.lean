import Derived.Test.YtgpmlbbkfmkmkaaGreatDoorPxR
import Derived.Test.YtgpmlbbkfmkmkaaGreatDoorPxT
set_option linter.all false
set_option maxRecDepth 10000
namespace Go.PX
open Go.Proofs
theorem qnq{l:PLog}(hC:qJ l=0){conf:List Int}{t:Per->Int}(ht:TruthX l 0 conf t){p:Per}(hp:p∈qU l) : -720<=t p/\t p<=720:=by
 obtain⟨k,hk⟩:=List.getElem?_of_mem hp
 rcases qdc hk with⟨rfl,_⟩ | ⟨i,b,n,hb,hn,rfl,_⟩
 ·rw[ht.right];omega
 ·obtain⟨h1,h2,_,_⟩:=qdY hC (List.mem_of_getElem? hb)
  cases n with
  | zero=>
   have:=ht.off i b hb;have e:(⟨(i:Nat),((0:Nat):Int)⟩:Per)=⟨i,0⟩:=rfl;rw[e];omega
  | succ n=>
   have:=ht.set i b (n+1) hb (by omega) hn;omega
theorem far_bd{l:PLog}(hC:qJ l=0){conf:List Int}(hf:qcf l 0 conf=true){p q:Per}(hp:p∈qU l)(hq:q∈qU l) : -1440<=qnf l 0 conf p q/\qnf l 0 conf p q<=1440:=by
 obtain⟨t,ht,he⟩:=qkZ hf hp hq;have h1:=qnq hC ht hp;have h2:=qnq hC ht hq;omega
structure TabV(l:PLog)(T:Rws):Prop where
 at':∀ (i j:Nat) p q,(qU l)[i]?=some p->(qU l)[j]?=some q -> ∃ r x,T[i]?=some r/\r[j]?=some x/\x=qnf l 0 [] p q /\ -1440<=x/\x<=1440
theorem qri{l:PLog}(hC:qJ l=0)(hf:qcf l 0 []=true):TabV l (qnR l 0 []):=by
 obtain⟨hS,_,_,hV⟩:=qpZ hC (w:=0) (by omega) [];refine⟨fun i j p q hi hj=>?_⟩;have h1:=(List.getElem?_eq_some_iff.1 hi).1;have h2:=(List.getElem?_eq_some_iff.1 hj).1;rw[qfi]at h1 h2;obtain⟨r,hr,hl⟩:=hS.get h1;obtain⟨x,hx⟩:∃ x,r[j]?=some x:=⟨_,List.getElem?_eq_getElem (by omega)⟩;have he:=hV hf i j p q hi hj;unfold tAt at he;rw[hr,Option.getD_some,hx,Option.getD_some]at he;have hb:=far_bd hC hf (List.mem_of_getElem? hi) (List.mem_of_getElem? hj);exact⟨r,x,hr,hx,he,by omega,by omega⟩
theorem offsL_eq{l:PLog}{i:Nat}{b:PBook}(hb:l.books[i]?=some b):qoH l i=(List.range (zi b.ents+1)).map fun(n:Nat)=>(⟨-(qnf l 0 [] ⟨i,n⟩ .right),qnf l 0 [] .right ⟨i,n⟩⟩:Span):=by
 unfold qoH;have:qbi l i=b:=by unfold qbi;rw[Int.toNat_natCast,hb];rfl
 rw[this];rfl
end Go.PX
namespace Go.PX
open Go.Proofs
open Go.RowKit
theorem qqt{l:PLog}(hc:qJ l=0):FnV Tryz.prog 71 [l.d,i64 0,qW []] (if qcf l 0 [] then .tup [.vs ((qnR l 0 []).map fun r=>[qW r]),.bool true] else .tup [.nils,.bool false]):=pa71 l hc 0 (by omega) [] (by simp)
theorem qpE(l:PLog):FnV Tryz.prog 18 [l.d] (.tup [i64 (jp l).1,i64 (jp l).2.1,i64 (qJ l)]):=qrN l
theorem pa20(l:PLog):FnV Tryz.prog 20 [l.d] (.tup [.bool (qjE l).1,i64 (qjE l).2]):=by
 unfold qjE
 rcases Classical.em (qJ l=0) with hc | hc
 ·rw[if_pos hc]
  have h18:=fun {σ}=>@qpE l σ;rw[hc]at h18;have h71:=fun {σ}=>@qqt l hc σ;show FnV Tryz.prog 20 [l.d] _;refine qG mixed ql Tryz.func20 rfl (ft:=qrT) 1 (by decide +kernel) (by rfl) fun {σ} Y st=>?_;conv=>whnf
  refine qj (ds:=[l.d]) h18 rfl rfl ?_;conv=>whnf
  refine qaz ?_;refine qj (ds:=[l.d,i64 0,qW []]) h71 rfl rfl ?_
  cases qcf l 0 []with
  | true=>
   conv=>whnf
   exact qc 0 rfl ⟨⟨rfl,rfl⟩,rfl⟩
  | false=>
   conv=>whnf
   exact qc 0 rfl ⟨⟨rfl,rfl⟩,rfl⟩
 ·rw[if_neg hc]
  have h18:=fun {σ}=>@qpE l σ;generalize qJ l=N at hc h18;show FnV Tryz.prog 20 [l.d] _;refine qG mixed ql Tryz.func20 rfl (ft:=qrT) 1 (by decide +kernel) (by rfl) fun {σ} Y st=>?_;conv=>whnf
  refine qj (ds:=[l.d]) h18 rfl rfl ?_;conv=>whnf
  refine qk (fun _=>?_) (fun h=>absurd h (by simp[hc]));conv=>whnf
  exact qc 0 rfl ⟨⟨rfl,rfl⟩,rfl⟩
set_option maxHeartbeats 4000000 in
theorem pa22(l:PLog)(book:Int):FnV Tryz.prog 22 [l.d,i64 book] (.tup [qak (qfP l book).1,i64 (qfP l book).2]):=by
 unfold qfP
 rcases Classical.em (qJ l=0) with hc | hc
 ·rw[if_pos hc]
  have h18:=fun {σ}=>@qpE l σ;rw[hc]at h18;have h71:=fun {σ}=>@qqt l hc σ;have hR:=zU hc;have hlen:=hR.books;have hent:∀ b∈l.books,b.ents.length<=8:=fun b hb=>(hR.book b hb).ents;have htab:=fun hf=>qri hc hf;show FnV Tryz.prog 22 [l.d,i64 book] _;refine qG mixed ql Tryz.func22 rfl (ft:=qrU) 2 (by decide +kernel) (by rfl) fun {σ} Y st=>?_;conv=>whnf
  refine qj (ds:=[l.d]) h18 rfl rfl ?_;conv=>whnf
  refine qm ((l.books.length:Int)-1) (by simp) (qb (by omega)) ?_;conv=>whnf
  refine qj (ds:=[i64 book,i64 0,i64 ((l.books.length:Int)-1)]) (qpq book 0 ((l.books.length:Int)-1)) rfl rfl ?_;unfold qcm
  cases h1:inB book 0 ((l.books.length:Int)-1) with
  | false=>
   conv=>whnf
   refine jv ?_;exact qc 0 rfl ⟨⟨rfl,rfl⟩,rfl⟩
  | true=>
   simp only[Bool.not_true,Bool.false_eq_true,if_false];have h1:=qjH.1 h1;obtain⟨i,rfl⟩:∃ i:Nat,book=i:=⟨book.toNat,by omega⟩;obtain⟨b,hb⟩:∃ b,l.books[i]?=some b:=⟨_,List.getElem?_eq_getElem (by omega)⟩;conv=>whnf
   refine qaz ?_;refine qj (ds:=[l.d,i64 0,qW []]) h71 rfl rfl ?_
   cases hf:qcf l 0 []with
   | false=>
    simp only[Bool.false_eq_true,if_false];conv=>whnf
    refine jv ?_;exact qc 0 rfl ⟨⟨rfl,rfl⟩,rfl⟩
   | true=>
    simp only[if_true];have htab:=htab hf;rw[offsL_eq hb];have hbe:=(hR.book b (List.mem_of_getElem? hb)).ents;have hsl:=qad b;have h51:=fun {σ}=>@qrO b (by omega) σ;generalize qnR l 0 []=T at htab;conv=>whnf
    refine zN (T:=tys) ql (by exact qi mixed ql (by decide +kernel)) (α:=Nat×List Span) (fun z=>⟨[(1,.d (i64 i)),(2,.ptr 2 0),(9,.d (.vs (T.map fun r=>[qW r]))),(11,.sl 71 2 0 z.2.length),(12,.d (i64 z.1))],[(2,.box (.dd l.cells)),(71,.arr 2 (.dd (z.2.map Span.cells)))],st⟩) (fun z=>z.1<=zi b.ents+1/\z.2=(List.range z.1).map fun(n:Nat)=>(⟨-(qnf l 0 [] ⟨i,n⟩ .right),qnf l 0 [] .right ⟨i,n⟩⟩:Span)) (fun z=>zi b.ents+1-z.1) (0,[]) ((Wk.born 11 71 2 rfl rfl rfl).trans (Wk.sub (by repeat' first|exact trivial|refine⟨?_,?_⟩|rfl|(simp only[List.length_map];rfl)|simp[PX.get]) (by repeat' first|exact trivial|refine⟨?_,?_⟩|rfl|(simp only[List.length_map];rfl)|simp[PX.get]))) ⟨Nat.zero_le _,rfl⟩ ?_;rintro ⟨p,q⟩ ⟨hp,hq⟩;simp only at hp hq;have hql:q.length=p:=by rw[hq];simp
    conv=>whnf
    refine qI b.cells ⟨by omega,by rw[Int.toNat_natCast,List.getElem?_map,hb];rfl⟩ ?_;conv=>whnf
    refine qj (ds:=[.agg b.cells]) h51 rfl rfl ?_;conv=>whnf
    refine qk (fun h=>?_) (fun h=>?_)
    ·have hpl:p<=zi b.ents:=by have:=of_decide_eq_true h;simp only at this;omega
     have h73:=fun {σ}=>@qrP l hlen.2 hent i p (by omega) (by omega) σ;have hN:=jD hb hpl;obtain⟨rN,x0,a1,a2,a3,a4⟩:=htab.at' (jg l i p) 0 _ _ hN (zz l);obtain⟨r0,xN,b1,b2,b3,b4⟩:=htab.at' 0 (jg l i p) _ _ (zz l) hN;generalize jg l i p=N at h73 a1 b2;conv=>whnf
     refine qj (ds:=[l.d,i64 i,i64 p]) h73 rfl rfl ?_;conv=>whnf
     refine qw a1 ?_;conv=>whnf
     refine qw a2 ?_;conv=>whnf
     refine qm (-x0) (by omega) (qb (by omega)) ?_;conv=>whnf
     refine qw b1 ?_;conv=>whnf
     refine qw b2 ?_;conv=>whnf
     refine qn rfl ?_;conv=>whnf
     refine qn (by simp[Els.len]) ?_;conv=>whnf
     refine zO (decide_eq_true (by
      show((q.map Span.cells).length+1)*16<=140737488355328;rw[List.length_map];omega)) ?_
     conv=>whnf
     refine qf (qb (by(try dsimp only);omega)) ?_;conv=>whnf
     refine⟨(p+1,q ++ [⟨-x0,xN⟩]),by simp only;omega,⟨by simp only;omega,by simp only;rw[List.range_succ,List.map_append,<- hq,a3,b3];rfl⟩,Wk.sub ⟨rfl,rfl,rfl,?_,rfl,trivial⟩ ⟨rfl,?_,trivial⟩⟩
     ·show some (V.sl 71 2 0 ((q.map Span.cells).length+1))=_
      simp
     ·show some (Obj.arr 2 (.dd (q.map Span.cells ++ [[i64 (-x0),i64 xN]])))=_
      simp[Span.cells]
    ·have hpl:p=zi b.ents+1:=by have:=of_decide_eq_false h;simp only at this;omega
     subst hpl;rw[<- hq];conv=>whnf
     exact qc 1 (qH (qbg (es':=q.map Span.cells) rfl rfl (by simp)) (qH rfl rfl)) ⟨⟨rfl,rfl⟩,rfl⟩
 ·rw[if_neg hc]
  have h18:=fun {σ}=>@qpE l σ;generalize qJ l=N at hc h18;show FnV Tryz.prog 22 [l.d,i64 book] _;refine qG mixed ql Tryz.func22 rfl (ft:=qrU) 2 (by decide +kernel) (by rfl) fun {σ} Y st=>?_;conv=>whnf
  refine qj (ds:=[l.d]) h18 rfl rfl ?_;conv=>whnf
  refine qk (fun h=>absurd h (by simp[hc])) (fun _=>?_);conv=>whnf
  refine qk (fun _=>?_) (fun h=>absurd h (by simp[hc]));conv=>whnf
  refine jv ?_;exact qc 0 rfl ⟨⟨rfl,rfl⟩,rfl⟩
theorem pa25(l:PLog)(x:PAt):FnV Tryz.prog 25 [l.d,x.d] (.tup [(qfQ l x).1.d,i64 (qfQ l x).2]):=by
 have h77:=fun {σ}=>@pa77 l [x] (by simp) σ;unfold qfQ qib
 rcases Classical.em (qaX l [x]=0) with he | he
 ·rw[he]at h77
  rw[if_pos he];obtain⟨hc,hx⟩:qJ l=0/\qlA l x=true:=by
   unfold qaX at he
   split at he
   ·rename_i hc
    split at he
    ·rename_i h;exact⟨hc,by simpa using h⟩
    ·cases he
   ·rename_i hc;exact absurd he hc
  obtain⟨i,k,b,e,rfl,hA⟩:=qcg.1 hx;have h71:=fun {σ}=>@qqt l hc σ;have hR:=zU hc;have hent:∀ b∈l.books,b.ents.length<=8:=fun b hb=>(hR.book b hb).ents;have hes:=((hR.book b (List.mem_of_getElem? hA.book)).ent e (List.mem_of_getElem? hA.ent)).1;have h78:=fun {σ}=>@pa78 l i k b e hR.books.2 hent hA σ;have h50:=fun {σ}=>@pa50 l i k b e hA σ;have htab:=fun hf=>qri hc hf;have hN:=jD hA.book (zL b k);have hI:=instS_eq l ⟨i,k⟩;rw[qdK hA,jr hA]at hI
  cases hf:qcf l 0 []with
  | false=>
   rw[hf]at h71;simp only[Bool.false_eq_true,if_false]at h71 ⊢;rw[if_neg (by decide)];show FnV Tryz.prog 25 [l.d,PAt.d ⟨i,k⟩] _;refine qG mixed ql Tryz.func25 rfl (ft:=qrG) 2 (by decide +kernel) (by rfl) fun {σ} Y st=>?_;conv=>whnf
   refine qt (ds:=[l.d,qfS [⟨i,k⟩]]) h77 rfl 1 rfl ?_;conv=>whnf
   refine qaz ?_;refine qj (ds:=[l.d,i64 0,qW []]) h71 rfl rfl ?_;conv=>whnf
   exact qc 0 rfl ⟨⟨rfl,rfl⟩,rfl⟩
  | true=>
   have htab:=htab hf;rw[hf]at h71;simp only[if_true]at h71 ⊢;rw[hI];generalize jg l i (qK b k)=N at h78 hN;obtain⟨r0,xN,b1,b2,b3,b4⟩:=htab.at' 0 N _ _ (zz l) hN;obtain⟨rN,x0,a1,a2,a3,a4⟩:=htab.at' N 0 _ _ hN (zz l);rw[<- a3,<- b3];generalize qnR l 0 []=T at h71 a1 b1;show FnV Tryz.prog 25 [l.d,PAt.d ⟨i,k⟩] _;refine qG mixed ql Tryz.func25 rfl (ft:=qrG) 2 (by decide +kernel) (by rfl) fun {σ} Y st=>?_;conv=>whnf
   refine qt (ds:=[l.d,qfS [⟨i,k⟩]]) h77 rfl 1 rfl ?_;conv=>whnf
   refine qaz ?_;refine qj (ds:=[l.d,i64 0,qW []]) h71 rfl rfl ?_;conv=>whnf
   refine qo (ds:=[l.d,PAt.d ⟨i,k⟩]) h78 rfl rfl ?_;conv=>whnf
   refine qo (ds:=[l.d,PAt.d ⟨i,k⟩]) h50 rfl rfl ?_;conv=>whnf
   refine qw b1 ?_;conv=>whnf
   refine qw b2 ?_;conv=>whnf
   refine qm (e.shown-xN) rfl (qb (by omega)) ?_;conv=>whnf
   refine qw a1 ?_;conv=>whnf
   refine qw a2 ?_;conv=>whnf
   refine qm (e.shown+x0) rfl (qb (by omega)) ?_;conv=>whnf
   exact qc 0 rfl ⟨⟨rfl,rfl⟩,rfl⟩
 ·rw[if_neg he,if_neg he]
  generalize qaX l [x]=N at he h77;show FnV Tryz.prog 25 [l.d,x.d] _;refine qG mixed ql Tryz.func25 rfl (ft:=qrG) 2 (by decide +kernel) (by rfl) fun {σ} Y st=>?_;conv=>whnf
  refine qt (ds:=[l.d,qfS [x]]) h77 rfl 1 rfl ?_;conv=>whnf
  refine qk (fun _=>?_) (fun h=>absurd h (by simp[he]));conv=>whnf
  exact qc 0 rfl ⟨⟨rfl,rfl⟩,rfl⟩
theorem offs_len(l:PLog)(book:Int):(qfP l book).1.length<=9:=by
 unfold qfP
 split
 ·rename_i hc
  split
  ·simp
  ·rename_i ho
   split
   ·have h1:=zM.1 (by simpa using ho)
    obtain⟨b,hb⟩:∃ b,l.books[book.toNat]?=some b:=⟨_,List.getElem?_eq_getElem (by omega)⟩;have hbk:qbi l book=b:=by unfold qbi;rw[hb];rfl
    have h2:=((zU hc).book b (List.mem_of_getElem? hb)).ents;have h3:=qad b;unfold qoH;simp only;rw[List.length_map,List.length_range,hbk];omega
   ·simp
 ·simp
set_option maxHeartbeats 4000000 in
theorem pa3(l:PLog)(book:Int)(x:PAt):FnV Tryz.prog 3 [l.d,i64 book,x.d] (.bool true):=by
 have h17:FnV Tryz.prog 17 [l.d] (.tup [i64 (jp l).1,i64 (jp l).2.1,i64 (jp l).2.2]):=qsh l;have h18:FnV Tryz.prog 18 [l.d] (.tup [i64 (jp l).1,i64 (jp l).2.1,i64 (jp l).2.2]):=qrN l;have h19:=fun {σ}=>@qrL l σ;have h20:=fun {σ}=>@pa20 l σ;have h21:=fun {σ}=>@qrp l book σ;have h22:=fun {σ}=>@pa22 l book σ;have h24:=fun {σ}=>@qro l x σ;have h25:=fun {σ}=>@pa25 l x σ;generalize jp l=P at h17 h18;generalize qjE l=Q at h19 h20;have hol:=offs_len l book;generalize qfP l book=R at h21 h22 hol;generalize qfQ l x=S at h24 h25;obtain⟨P1,P2,P3⟩:=P;obtain⟨Q1,Q2⟩:=Q;obtain⟨R1,R2⟩:=R;have c23:FnV Tryz.prog 23 [qak R1,qak R1] (.bool true):=FnV.cast (qsf R1 R1 (by simp only at hol;omega)) (by simp);obtain⟨⟨S1,S2⟩,S3⟩:=S;show FnV Tryz.prog 3 [l.d,i64 book,x.d] _;refine qG mixed ql Tryz.func3 rfl (ft:=ft3) 3 (by decide +kernel) (by rfl) fun {σ} Y st=>?_;conv=>whnf
 refine qj (ds:=[l.d]) h17 rfl rfl ?_;conv=>whnf
 refine qj (ds:=[l.d]) h18 rfl rfl ?_;conv=>whnf
 refine qk (fun h=>absurd h (by simp)) (fun _=>?_);conv=>whnf
 refine qk (fun h=>absurd h (by simp)) (fun _=>?_);conv=>whnf
 refine qk (fun h=>absurd h (by simp)) (fun _=>?_);conv=>whnf
 refine qj (ds:=[l.d]) h19 rfl rfl ?_;conv=>whnf
 refine qj (ds:=[l.d]) h20 rfl rfl ?_;conv=>whnf
 refine qk (fun h=>absurd h (by simp)) (fun _=>?_);conv=>whnf
 refine qk (fun h=>absurd h (by simp)) (fun _=>?_);conv=>whnf
 refine qj (ds:=[l.d,i64 book]) h21 rfl rfl ?_;conv=>whnf
 refine qj (ds:=[l.d,i64 book]) h22 rfl rfl ?_;conv=>whnf
 refine qj (ds:=[qak R1,qak R1]) c23 rfl rfl ?_;conv=>whnf
 refine qk (fun h=>absurd h (by simp)) (fun _=>?_);conv=>whnf
 refine qj (ds:=[l.d,x.d]) h24 rfl rfl ?_;conv=>whnf
 refine qj (ds:=[l.d,x.d]) h25 rfl rfl ?_;conv=>whnf
 refine qk (fun _=>?_) (fun h=>absurd h (by simp));conv=>whnf
 refine qk (fun _=>?_) (fun h=>absurd h (by simp));conv=>whnf
 refine qj (pa26) rfl rfl ?_;conv=>whnf
 exact qc 0 rfl ⟨⟨rfl,rfl⟩,rfl⟩
end Go.PX
