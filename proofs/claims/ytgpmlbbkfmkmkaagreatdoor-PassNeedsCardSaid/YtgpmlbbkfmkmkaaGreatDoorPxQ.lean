import Derived.Test.YtgpmlbbkfmkmkaaGreatDoorPxP
import Derived.Test.YtgpmlbbkfmkmkaaGreatDoorPxM
set_option linter.all false
set_option maxRecDepth 10000
namespace Go.PX
open Go.Proofs
def qxk(s:ByteArray):D:=.str s
abbrev WM:=List (Int×ByteArray)
def qqk(r:List PEnt):List PEnt:=r.filter fun y=>decide (y.kind=3)
def qxz(m0:Int)(r:List PEnt):Int:=r.foldl (fun m y=>max m y.number) m0
def jH(l:List Int):List (List D):=l.map fun n=>[i64 n]
theorem qcU{σ:Type}{l:List V}{h:Heap}{s:σ}{Q:V->Heap->σ->Prop}(n:Nat){ds:List D}(hv:zY (qcv h n) l=some ds){d:D}(hd:relax (qiR ds)=d)(hq:Q (.d d) [] s):RetA l h s Q:=by
 subst hd;refine⟨fun cx L F vals w hh hr=>?_⟩;have tr:=qaL hh;exact⟨_,[],L,qaB L F h w,hq,qlN hh,RepD.relax _ _ (qrt (qcw tr (qgG hh n) l vals ds hv hr)),tr,fun _ _=>⟨rfl,rfl⟩⟩
set_option maxHeartbeats 4000000 in
theorem qzl(l:PLog):FnV Tryz.prog 37 [l.d] (.tup [qF (qpV l).1,qF (qpV l).2.1,i64 (qpV l).2.2]):=by
 unfold qpV;refine qJ mixed qm Tryz.func37 rfl (ft:=qzF) 1 (by decide +kernel) (by rfl) fun {σ} Y st=>?_;conv=>whnf
 by_cases hc:qE l=0
 ·rw[if_pos hc]
  have hR:=zK hc;have hbl:=hR.books;have hlast:=qgo hc;refine qk (qev l 0 0 0 (qcb hc)) rfl rfl ?_;conv=>whnf
  generalize hT:qbo [] (qcN l)=T;generalize hL:qbp l=L at hlast;have hT:qbo [] (qqk (l.books.flatMap PBook.ents))=T:=hT;have hL2:qxz 0 (qqk (l.books.flatMap PBook.ents))=L:=hL;refine zd (T:=tys) qm (by exact qg mixed qm (by decide +kernel)) l.books (fun i (x:WM×Int)=>⟨[(1,.ptr 1 0),(2,.d .nils),(3,.d .nils),(5,.mp 27),(6,.d (i64 x.2)),(29,.d (qS l.books)),(30,.d (i64 l.books.length)),(31,.d (i64 i))],[(1,.box (.dd l.cells)),(27,.map (kvV qG qxk x.1))],st⟩) (fun i r x=>qbo x.1 (qqk (r.flatMap PBook.ents))=T/\qxz x.2 (qqk (r.flatMap PBook.ents))=L/\0<=x.2/\x.2<=99) ([],0) (Wk.sub (by repeat' first|constructor|(simp only[List.length_map];rfl)|simp[PX.get]) (by repeat' first|constructor|(simp only[List.length_map];rfl)|simp[PX.get])) ⟨hT,hL2,by simp,by simp⟩ ?_ ?_
  ·rintro i b r ⟨m,last⟩ hb hi hr ⟨he1,he2,hla⟩
   have hB:=hR.book b (List.mem_of_getElem? hb);have hbe:=hB.ents;simp only at he1 he2 hla;rw[List.flatMap_cons]at he1 he2;conv=>whnf
   refine qj (fun _=>?_) (fun h=>absurd hi (by simpa using h));conv=>whnf
   refine qt hb ?_;conv=>whnf
   refine zd (T:=tys) qm (by exact qg mixed qm (by decide +kernel)) b.ents (fun k (x:WM×Int)=>⟨[(1,.ptr 1 0),(2,.d .nils),(3,.d .nils),(5,.mp 27),(6,.d (i64 x.2)),(29,.d (qS l.books)),(30,.d (i64 l.books.length)),(31,.d (i64 i)),(36,.d (qeS b.ents)),(37,.d (i64 b.ents.length)),(38,.d (i64 k))],[(1,.box (.dd l.cells)),(27,.map (kvV qG qxk x.1))],st⟩) (fun k q x=>qbo x.1 (qqk (q++r.flatMap PBook.ents))=T/\qxz x.2 (qqk (q++r.flatMap PBook.ents))=L/\0<=x.2/\x.2<=99) (m,last) (Wk.sub (by repeat' first|constructor|(simp only[List.length_map];rfl)|simp[PX.get]) (by repeat' first|constructor|(simp only[List.length_map];rfl)|simp[PX.get])) ⟨he1,he2,hla⟩ ?_ ?_
   ·rintro k y q ⟨m,last⟩ hy hk hq ⟨he1,he2,hla⟩
    have hyR:=hB.ent y (List.mem_of_getElem? hy);simp only at he1 he2 hla;conv=>whnf
    refine qj (fun _=>?_) (fun h=>absurd hk (by simpa using h));conv=>whnf
    refine qt hy ?_;conv=>whnf
    refine qk (qsU y) rfl rfl ?_;by_cases h3:y.kind=3
    ·have ht:zk y = .ifc 156 (.agg [.str y.word,i64 y.number]):=by unfold zk;rw[if_neg (by omega),if_neg (by omega),if_pos h3]
     rw[ht];have h3k:qqk (y::q++r.flatMap PBook.ents)=y::qqk (q++r.flatMap PBook.ents):=by unfold qqk;rw[List.cons_append,List.filter_cons,if_pos (by simp[h3])]
     rw[h3k]at he1 he2;rw[qbo]at he1;have he2:qxz (max last y.number) (qqk (q++r.flatMap PBook.ents))=L:=he2;conv=>whnf
     cases hg:zr m y.number with
     | none=>
      rw[hg]at he1;simp only at he1;refine⟨none,qs (kd:=qG) qv hg 0,?_⟩;conv=>whnf
      refine⟨none,qs (kd:=qG) qv hg 0,?_⟩;conv=>whnf
      refine qe (qb (by(try dsimp only);omega)) ?_;conv=>whnf
      refine⟨(jJ m y.number y.word,max last y.number),⟨he1,he2,by simp only;omega⟩,Wk.sub ⟨rfl,rfl,rfl,rfl,rfl,rfl,rfl,rfl,rfl,rfl,rfl,trivial⟩ ⟨rfl,?_,trivial⟩⟩;exact congrArg (fun z=>some (Obj.map z)) (zg (kd:=qG) (vd:=qxk) y.word hg)
     | some w=>
      rw[hg]at he1;simp only at he1;obtain⟨ix,_,hx1,hx2,_⟩:=qD (kd:=qG) (vd:=qxk) qv hg 0;refine⟨_,hx1,?_⟩;conv=>whnf
      by_cases hw:w=y.word
      ·rw[if_pos hw]at he1
       rw[decide_eq_true hw];conv=>whnf
       refine⟨_,hx1,?_⟩;conv=>whnf
       refine qe (qb (by(try dsimp only);omega)) ?_;conv=>whnf
       refine⟨(jJ m y.number y.word,max last y.number),⟨he1,he2,by simp only;omega⟩,Wk.sub ⟨rfl,rfl,rfl,rfl,rfl,rfl,rfl,rfl,rfl,rfl,rfl,trivial⟩ ⟨rfl,?_,trivial⟩⟩;show some (Obj.map ((kvV qG qxk m).set (0+ix) (i64 y.number,.str y.word)))=_;rw[Nat.zero_add];exact congrArg (fun z=>some (Obj.map z)) (hx2 y.word)
      ·rw[if_neg hw]at he1
       subst he1;rw[decide_eq_false hw];simp only[if_true];conv=>whnf
       refine qcU 0 rfl (d:=.tup [qF [],qF [],i64 5]) rfl ⟨⟨rfl,rfl⟩,rfl⟩
    ·have h3k:qqk (y::q++r.flatMap PBook.ents)=qqk (q++r.flatMap PBook.ents):=by unfold qqk;rw[List.cons_append,List.filter_cons,if_neg (by simp[h3])]
     rw[h3k]at he1 he2;by_cases h2:y.kind=2
     ·have ht:zk y = .ifc 175 (.agg []):=by unfold zk;rw[if_neg (by omega),if_pos h2]
      rw[ht];conv=>whnf
      refine qe (qb (by(try dsimp only);omega)) ?_;conv=>whnf
      exact⟨(m,last),⟨he1,he2,hla⟩,(Wk.sub (by repeat' first|constructor|(simp only[List.length_map];rfl)|simp[PX.get]) (by repeat' first|constructor|(simp only[List.length_map];rfl)|simp[PX.get]))⟩
     ·have ht:zk y = .ifc 138 (.agg [.str y.word]):=by unfold zk;rw[if_pos (by omega)]
      rw[ht];conv=>whnf
      refine qe (qb (by(try dsimp only);omega)) ?_;conv=>whnf
      exact⟨(m,last),⟨he1,he2,hla⟩,(Wk.sub (by repeat' first|constructor|(simp only[List.length_map];rfl)|simp[PX.get]) (by repeat' first|constructor|(simp only[List.length_map];rfl)|simp[PX.get]))⟩
   ·rintro ⟨m,last⟩ ⟨he1,he2,hla⟩
    simp only at he1 he2 hla;rw[List.nil_append]at he1 he2;conv=>whnf
    refine qj (fun h=>absurd h (by simp)) (fun _=>?_);conv=>whnf
    refine qe (qb (by(try dsimp only);omega)) ?_;conv=>whnf
    exact⟨(m,last),⟨he1,he2,hla⟩,(Wk.sub (by repeat' first|constructor|(simp only[List.length_map];rfl)|simp[PX.get]) (by repeat' first|constructor|(simp only[List.length_map];rfl)|simp[PX.get]))⟩
  ·rintro ⟨m,last⟩ ⟨he1,he2,hla⟩
   have he1:false=T:=he1;have he2:last=L:=he2;subst he1;subst he2;simp only[Bool.false_eq_true,if_false];conv=>whnf
   refine qj (fun h=>absurd h (by simp)) (fun _=>?_);conv=>whnf
   refine qkw (qzk l hR Y st) [] rfl rfl rfl rfl ?_;rintro v h1 s' ⟨⟨rfl,m1,m2,hC,rfl⟩,rfl⟩;refine⟨rfl,?_⟩;conv=>whnf
   have hin:∀ n,qbC m1 n=(inN l n:Nat):=hC.in';have hmost:∀ n,qbC m2 n=(qtS l n:Nat):=hC.most;unfold qnC qrW;rw[hL];generalize hMS:((List.range' 1 last.toNat).map fun(n:Nat)=>(n:Int)).filter (fun n=>decide (inN l n=0))=MS;generalize hCP:((List.range' 1 last.toNat).map fun(n:Nat)=>(n:Int)).filter (fun n=>decide (inN l n≠0)&&decide (1<qtS l n))=CP;have hln:(last.toNat:Int)=last:=by omega
   refine zI (T:=tys) qm (by exact qg mixed qm (by decide +kernel)) (α:=Nat×(List Int×List Int)) (fun z=>⟨[(2,.sl 93 1 0 z.2.1.length),(3,.sl 102 1 0 z.2.2.length),(6,.d (i64 last)),(15,.d (.mv (kvV qG qG m1))),(16,.d (.mv (kvV qG qG m2))),(17,.d (i64 z.1))],[(93,.arr 1 (.dd (jH z.2.1))),(102,.arr 1 (.dd (jH z.2.2)))],s'⟩)
    (fun z=>1<=z.1/\z.1<=last.toNat+1/\z.2.1.length<=z.1/\z.2.2.length<=z.1/\z.2.1++((List.range' z.1 (last.toNat+1-z.1)).map fun(n:Nat)=>(n:Int)).filter (fun n=>decide (inN l n=0))=MS/\z.2.2++((List.range' z.1 (last.toNat+1-z.1)).map fun(n:Nat)=>(n:Int)).filter (fun n=>decide (inN l n≠0)&&decide (1<qtS l n))=CP) (fun z=>last.toNat+1-z.1) (1,([],[])) ?_ ⟨by simp,by simp,by simp,by simp,hMS,hCP⟩ ?_
   ·exact(Wk.born 2 93 1 rfl rfl rfl).trans ((Wk.born 3 102 1 rfl rfl rfl).trans (Wk.sub (by repeat' first|constructor|(simp only[List.length_map];rfl)|simp[PX.get]) (by repeat' first|constructor|(simp only[List.length_map];rfl)|simp[PX.get])))
   rintro ⟨n,a,c⟩ ⟨hn1,hn2,ha,hcl,hMS,hCP⟩;simp only at hn1 hn2 ha hcl hMS hCP;conv=>whnf
   refine qj (fun h1=>?_) (fun h1=>?_)
   ·have h1:n<last.toNat+1:=by have:=of_decide_eq_true h1;simp only at this;omega
    obtain⟨k,hk1⟩:∃ k,last.toNat+1-n=k+1:=⟨last.toNat-n,by omega⟩;have hk2:last.toNat+1-(n+1)=k:=by omega
    rw[hk1,List.range'_succ,List.map_cons,List.filter_cons]at hMS hCP;conv=>whnf
    have hi1:=hin n;have hi2:=hmost n
    cases hg1:zr m1 n with
    | none=>
     unfold qbC at hi1;rw[hg1]at hi1;simp only[Option.getD_none]at hi1;refine⟨none,qs (kd:=qG) qv hg1 0,?_⟩;rw[if_pos (by simp;omega)]at hMS;rw[if_neg (by simp;omega)]at hCP;conv=>whnf
     refine ql rfl ?_;conv=>whnf
     refine ql (by simp[Els.len,jH]) ?_;conv=>whnf
     refine zx (decide_eq_true (by
      show((jH a).length+1)*8<=140737488355328;simp[jH];omega)) ?_
     conv=>whnf
     refine qn (((n+1:Nat):Int)) (by(try dsimp only);omega) (qb (by(try dsimp only);omega)) ?_;conv=>whnf
     refine⟨(n+1,(a ++ [(n:Int)],c)),by simp only;omega,⟨by simp only;omega,by simp only;omega,by simp only[List.length_append,List.length_singleton];omega,by simp only;omega,by simp only;rw[hk2,List.append_assoc];exact hMS,by simp only;rw[hk2];exact hCP⟩,Wk.sub ⟨?_,rfl,rfl,rfl,rfl,rfl,trivial⟩ ⟨?_,rfl,trivial⟩⟩
     ·show some (V.sl 93 1 0 ((jH a).length+1))=_
      simp[jH]
     ·show some (Obj.arr 1 (.dd (jH a ++ [[i64 n]])))=_
      simp[jH]
    | some v1=>
     unfold qbC at hi1;rw[hg1]at hi1;simp only[Option.getD_some]at hi1;obtain⟨ix,_,hx1,_⟩:=qD (kd:=qG) (vd:=qG) qv hg1 0;refine⟨_,hx1,?_⟩;conv=>whnf
     refine qj (fun h2=>?_) (fun h2=>?_)
     ·have h2:v1=0:=of_decide_eq_true h2
      rw[if_pos (by simp;omega)]at hMS;rw[if_neg (by simp;omega)]at hCP;conv=>whnf
      refine ql rfl ?_;conv=>whnf
      refine ql (by simp[Els.len,jH]) ?_;conv=>whnf
      refine zx (decide_eq_true (by
       show((jH a).length+1)*8<=140737488355328;simp[jH];omega)) ?_
      conv=>whnf
      refine qn (((n+1:Nat):Int)) (by(try dsimp only);omega) (qb (by(try dsimp only);omega)) ?_;conv=>whnf
      refine⟨(n+1,(a ++ [(n:Int)],c)),by simp only;omega,⟨by simp only;omega,by simp only;omega,by simp only[List.length_append,List.length_singleton];omega,by simp only;omega,by simp only;rw[hk2,List.append_assoc];exact hMS,by simp only;rw[hk2];exact hCP⟩,Wk.sub ⟨?_,rfl,rfl,rfl,rfl,rfl,trivial⟩ ⟨?_,rfl,trivial⟩⟩
      ·show some (V.sl 93 1 0 ((jH a).length+1))=_
       simp[jH]
      ·show some (Obj.arr 1 (.dd (jH a ++ [[i64 n]])))=_
       simp[jH]
     ·have h2:¬ v1=0:=of_decide_eq_false h2
      conv=>whnf
      cases hg2:zr m2 n with
      | none=>
       unfold qbC at hi2;rw[hg2]at hi2;simp only[Option.getD_none]at hi2;refine⟨none,qs (kd:=qG) qv hg2 0,?_⟩;rw[if_neg (by simp;omega)]at hMS;rw[if_neg (by simp;omega)]at hCP;conv=>whnf
       refine qn (((n+1:Nat):Int)) (by(try dsimp only);omega) (qb (by(try dsimp only);omega)) ?_;conv=>whnf
       exact⟨(n+1,(a,c)),by simp only;omega,⟨by simp only;omega,by simp only;omega,by simp only;omega,by simp only;omega,by simp only;rw[hk2];exact hMS,by simp only;rw[hk2];exact hCP⟩,(Wk.sub (by repeat' first|constructor|(simp only[List.length_map];rfl)|simp[PX.get]) (by repeat' first|constructor|(simp only[List.length_map];rfl)|simp[PX.get]))⟩
      | some v2=>
       unfold qbC at hi2;rw[hg2]at hi2;simp only[Option.getD_some]at hi2;obtain⟨iy,_,hy1,_⟩:=qD (kd:=qG) (vd:=qG) qv hg2 0;refine⟨_,hy1,?_⟩;conv=>whnf
       refine qj (fun h3=>?_) (fun h3=>?_)
       ·have h3:1<v2:=of_decide_eq_true h3
        rw[if_neg (by simp;omega)]at hMS;rw[if_pos (by simp;omega)]at hCP;conv=>whnf
        refine ql rfl ?_;conv=>whnf
        refine ql (by simp[Els.len,jH]) ?_;conv=>whnf
        refine zx (decide_eq_true (by
         show((jH c).length+1)*8<=140737488355328;simp[jH];omega)) ?_
        conv=>whnf
        refine qn (((n+1:Nat):Int)) (by(try dsimp only);omega) (qb (by(try dsimp only);omega)) ?_;conv=>whnf
        refine⟨(n+1,(a,c ++ [(n:Int)])),by simp only;omega,⟨by simp only;omega,by simp only;omega,by simp only;omega,by simp only[List.length_append,List.length_singleton];omega,by simp only;rw[hk2];exact hMS,by simp only;rw[hk2,List.append_assoc];exact hCP⟩,Wk.sub ⟨rfl,?_,rfl,rfl,rfl,rfl,trivial⟩ ⟨rfl,?_,trivial⟩⟩
        ·show some (V.sl 102 1 0 ((jH c).length+1))=_
         simp[jH]
        ·show some (Obj.arr 1 (.dd (jH c ++ [[i64 n]])))=_
         simp[jH]
       ·have h3:¬ 1<v2:=of_decide_eq_false h3
        rw[if_neg (by simp;omega)]at hMS;rw[if_neg (by simp;omega)]at hCP;conv=>whnf
        refine qn (((n+1:Nat):Int)) (by(try dsimp only);omega) (qb (by(try dsimp only);omega)) ?_;conv=>whnf
        exact⟨(n+1,(a,c)),by simp only;omega,⟨by simp only;omega,by simp only;omega,by simp only;omega,by simp only;omega,by simp only;rw[hk2];exact hMS,by simp only;rw[hk2];exact hCP⟩,(Wk.sub (by repeat' first|constructor|(simp only[List.length_map];rfl)|simp[PX.get]) (by repeat' first|constructor|(simp only[List.length_map];rfl)|simp[PX.get]))⟩
   ·have h1:¬ n<last.toNat+1:=by have:=of_decide_eq_false h1;simp only at this;omega
    rw[show last.toNat+1-n=0 by omega]at hMS hCP;have hMS:a=MS:=by simpa using hMS
    have hCP:c=CP:=by simpa using hCP
    subst hMS;subst hCP;conv=>whnf
    refine qc 1 (ds:=[qF a,qF c,i64 0]) (qy (js rfl (by simp[jH])) (qy (js rfl (by simp[jH])) rfl)) ⟨⟨rfl,rfl⟩,rfl⟩
 ·rw[if_neg hc]
  refine qk (qev l _ _ _ (qcd l)) rfl rfl ?_;conv=>whnf
  generalize qE l=E at hc;refine qj (fun _=>?_) (fun h=>absurd hc (by simpa using h));conv=>whnf
  refine qcU 0 rfl (d:=.tup [qF [],qF [],i64 E]) rfl ⟨⟨rfl,rfl⟩,rfl⟩
def ji(l:List Int):List (List D):=l.map fun n=>[i64 n]
def qmA(p:List Int):List V×Heap:=([.sl 1000000 1 0 p.length],[(1000000,.arr 1 (.dd (ji p)))])
def qxl(of:List Int):List V:=[.ptr 1000000 0,.ptr 1000001 0,.d (.ref [qF of]),.ptr 1000002 0]
def qsz(of:List Int)(start left:Nat):List V:=[.d (i64 start),.d (i64 left),.ptr 1000000 0,.ptr 1000001 0,.d (.ref [qF of]),.ptr 1000002 0]
def lsH(of:List Int)(k n:Nat)(p:List Int):Heap:=
 [(1000000,.box (.vv [.yld])),(1000001,.box (.vv [.sl k 1 0 n])),(1000002,.box (.vv [.clo 116 (qxl of)])),(k,.arr 1 (.dd (ji p)))]
def qug(of:List Int)(left:Nat):Prop:=
 ∀ (start:Nat) (p:List Int),left<=of.length->p.length+left<=of.length->start<=of.length -> ∀ {σ:Type} (Y:Hd σ) (s0:σ) (rest:List (List V×Heap)) (Q:σ->Prop),
  iterate Y.np ((jR of left p start).map qmA++rest) s0 Q->FnC Tryz.prog Y 116 (qsz of start left) (lsH of 1000003 p.length p) s0 fun v h' s'=>
   ∃ q,h'=lsH of 2000000 q.length q/\((v = .d (.bool true)/\q=p/\iterate Y.np rest s' Q)\/(v = .d (.bool false)/\Q s'))
theorem qql{of:List Int}(hof:of.length<=1000):qug of 0:=by
 intro start p hl hp hst σ Y s0 rest Q hit;refine qaT mixed qm Tryz.func116 rfl (ft:=qtB) (args:=qsz of start 0) (show fnB qtB Tryz.f116 6=true from by decide +kernel) ?_;generalize Y.np=Y at hit ⊢;have hgl:jR of 0 p start = [p]:=rfl;rw[hgl]at hit;conv=>whnf
 refine qwN [1000003] (args0:=(qmA p).1) (h0:=(qmA p).2) hit rfl ⟨_,_,rfl,rfl,rfl⟩ rfl rfl ?_;rintro v h1 s' ⟨rfl,hv⟩;rcases hv with⟨rfl,hi⟩|⟨rfl,hq⟩
 ·refine⟨rfl,?_⟩
  conv=>whnf
  refine qA [1000003] [.d (.bool true)] (lsH of 2000000 p.length p) rfl ⟨rfl,rfl,rfl,rfl,trivial⟩ rfl ?_;exact⟨p,rfl,.inl ⟨rfl,rfl,hi⟩⟩
 ·refine⟨rfl,?_⟩
  conv=>whnf
  refine qA [1000003] [.d (.bool false)] (lsH of 2000000 p.length p) rfl ⟨rfl,rfl,rfl,rfl,trivial⟩ rfl ?_;exact⟨p,rfl,.inr ⟨rfl,hq⟩⟩
theorem qqm{of:List Int}(hof:of.length<=1000){left:Nat}(ihl:qug of left):qug of (left+1):=by
 intro start p hl hp hst σ Y s0 rest Q hit;refine qaT mixed qm Tryz.func116 rfl (ft:=qtB) (args:=qsz of start (left+1)) (show fnB qtB Tryz.f116 6=true from by decide +kernel) ?_;generalize Y.np=Y at hit ⊢;have hcl:(ji p).length=p.length:=by simp[ji]
 have hgl:jR of (left+1) p start=(List.range' start (of.length-left-start)).flatMap fun(i:Nat)=>jR of left (p ++ [(of[i]?).getD 0]) (i+1):=rfl;rw[hgl]at hit;conv=>whnf
 refine zI (T:=tys) qm (by exact qg mixed qm (by decide +kernel)) (α:=Nat×σ)
  (fun x=>⟨[(1,.d (i64 (left+1:Nat))),(2,.ptr 1000000 0),(3,.ptr 1000001 0),(4,.d (.ref [qF of])),(5,.ptr 1000002 0),(9,.d (i64 x.1))],lsH of 900000 p.length p,x.2⟩)
  (fun x=>x.1<=of.length/\iterate Y (((List.range' x.1 (of.length-left-x.1)).flatMap fun(i:Nat)=>jR of left (p ++ [(of[i]?).getD 0]) (i+1)).map qmA++rest) x.2 Q) (fun x=>of.length-x.1) (start,s0)
  ((Wk.move 1000003 900000 rfl rfl).trans (Wk.sub ⟨rfl,rfl,rfl,rfl,rfl,rfl,trivial⟩ ⟨rfl,rfl,rfl,rfl,trivial⟩)) ⟨hst,hit⟩ ?_
 clear hit hst s0;rintro ⟨i,s0⟩ ⟨hi,hit⟩;simp only at hi hit;conv=>whnf
 refine qn ((of.length:Int)-(left+1:Nat)) (by simp) (qb (by omega)) ?_;conv=>whnf
 refine qj (fun h1=>?_) (fun h1=>?_)
 ·have h1:i<=of.length-(left+1):=by have:=of_decide_eq_true h1;simp at this;omega
  have hil:i<of.length:=by omega
  obtain⟨m,hm1⟩:∃ m,of.length-left-i=m+1:=⟨of.length-left-i-1,by omega⟩;have hoi:(of[i]?).getD 0=of[i]:=by rw[List.getElem?_eq_getElem hil];rfl
  rw[hm1,List.range'_succ,List.flatMap_cons,List.map_append,List.append_assoc,hoi]at hit;conv=>whnf
  refine qK [i64 of[i]] ⟨by omega,by rw[Int.toNat_natCast,List.getElem?_map,List.getElem?_eq_getElem hil];rfl⟩ ?_;conv=>whnf
  refine ql rfl ?_;conv=>whnf
  refine ownK.mk (by simp[Els.len,hcl]) ?_;conv=>whnf
  refine zx (by simp[Els.len,Els.part,hcl];omega) ?_;conv=>whnf
  refine qn (((i+1:Nat):Int)) (by(try dsimp only);omega) (qb (by(try dsimp only);omega)) ?_;conv=>whnf
  refine qn (((left:Nat):Int)) (by(try dsimp only);omega) (qb (by(try dsimp only);omega)) ?_;conv=>whnf
  have ih:=ihl (i+1) (p ++ [of[i]]) (by omega) (by simp;omega) (by omega) Y s0 _ Q hit.np;refine qkw ih [1000000,1000001,1000002,30] rfl ⟨_,_,rfl,rfl,_,_,rfl,(by
    show some (Obj.box (Cells.vv [V.sl 30 1 0 ((((ji p).drop 0).take p.length).length+1)]))=some (Obj.box (Cells.vv [V.sl 30 1 0 (p ++ [of[i]]).length]));simp[ji]),_,_,rfl,rfl,_,_,rfl,(by
    show some (Obj.arr 1 (Els.dd ((((ji p).drop 0).take p.length) ++ [[i64 of[i]]])))=some (Obj.arr 1 (Els.dd (ji (p ++ [of[i]]))));simp[ji,List.take_of_length_le]),rfl⟩ rfl rfl ?_
  rintro v h1 s' ⟨q,rfl,hpost⟩;rw[qen]at hpost;rcases hpost with⟨rfl,rfl,hi2⟩|⟨rfl,hq⟩
  ·refine⟨rfl,?_⟩
   conv=>whnf
   refine qn (p.length:Int) (by simp) (qb (by omega)) ?_;conv=>whnf
   refine zx (by simp;omega) ?_;conv=>whnf
   refine qn (((i+1:Nat):Int)) (by(try dsimp only);omega) (qb (by(try dsimp only);omega)) ?_;conv=>whnf
   have hm2:of.length-left-(i+1)=m:=by omega
   refine⟨(i+1,s'),by simp only;omega,⟨by simp only;omega,by simp only;rw[hm2];exact hi2⟩,(Wk.move 102304 900000 rfl rfl).trans ((Wk.shrink 900000 p.length rfl).trans ?_)⟩;have hsh:(ji (p ++ [of[i]])).take p.length=ji p:=by simp[ji,List.take_left']
   refine Wk.sub ⟨rfl,rfl,rfl,rfl,rfl,rfl,trivial⟩ ⟨rfl,?_,?_,?_,trivial⟩
   ·rfl
   ·exact zT rfl ⟨⟨rfl,⟨rfl,rfl⟩,⟨rfl,rfl⟩,rfl,⟨rfl,rfl⟩,trivial⟩,trivial⟩
   ·show some (Obj.arr 1 (Els.dd ((ji (p ++ [of[i]])).take p.length)))=_
    rw[hsh]
  ·refine⟨rfl,?_⟩
   conv=>whnf
   refine qA [102304] [.d (.bool false)] (lsH of 2000000 q.length q) rfl ⟨rfl,zT rfl ⟨⟨rfl,rfl,rfl,rfl⟩,trivial⟩,zT rfl ⟨⟨rfl,⟨rfl,rfl⟩,⟨rfl,rfl⟩,rfl,⟨rfl,rfl⟩,trivial⟩,trivial⟩,rfl,trivial⟩ rfl ?_;exact⟨q,rfl,.inr ⟨rfl,hq⟩⟩
 ·have h1:¬ (i:Int)<=(of.length:Int)-((left+1:Nat):Int):=of_decide_eq_false h1
  rw[show of.length-left-i=0 by omega]at hit;conv=>whnf
  refine qA [900000] [.d (.bool true)] (lsH of 2000000 p.length p) rfl ⟨rfl,zT rfl ⟨⟨rfl,rfl,rfl,rfl⟩,trivial⟩,zT rfl ⟨⟨rfl,⟨rfl,rfl⟩,⟨rfl,rfl⟩,rfl,⟨rfl,rfl⟩,trivial⟩,trivial⟩,rfl,trivial⟩ rfl ?_;exact⟨p,rfl,.inl ⟨rfl,rfl,hit⟩⟩
theorem lfill{of:List Int}(hof:of.length<=1000)(left:Nat):qug of left:=by
 induction left with
 | zero=>exact qql hof
 | succ n ih=>exact qqm hof ih
theorem qAK(of:List Int):FnV Tryz.prog 87 [qF of] (.clo 115 [.ref [qF of]]):=by
 refine qJ mixed qm Tryz.func87 rfl (ft:=qAl) 1 (by decide +kernel) (by rfl) fun {σ} Y st=>?_;conv=>whnf
 exact qc 1 rfl ⟨⟨rfl,rfl⟩,rfl⟩
theorem qsA(of:List Int)(hof:of.length<=1000):Yields Tryz.prog 115 [.ref [qF of]] ((qir of).map qmA):=by
 intro γ Y g0 Q hit;refine qaT mixed qm Tryz.func115 rfl (ft:=qwG) (args:=[.yld,.d (.ref [qF of])]) (show fnB qwG Tryz.f115 2=true from by decide +kernel) ?_;replace hit:=hit.np;generalize Y.np=Y at hit ⊢;conv=>whnf
 refine qn ((of.length+1:Nat):Int) (by simp) (qb (by omega)) ?_;conv=>whnf
 refine zI (T:=tys) qm (by exact qg mixed qm (by decide +kernel)) (α:=Nat×γ)
  (fun x=>⟨[(1,.d (.ref [qF of])),(2,.ptr 2 0),(3,.ptr 3 0),(4,.ptr 4 0),(9,.d (i64 (of.length+1:Nat))),(10,.d (i64 x.1))],[(2,.box (.vv [.yld])),(3,.box (.vv [.sl 900000 1 0 0])),(4,.box (.vv [.clo 116 [.ptr 2 0,.ptr 3 0,.d (.ref [qF of]),.ptr 4 0]])),(900000,.arr 1 (.dd []))],x.2⟩)
  (fun x=>x.1<=of.length+1/\iterate Y (((List.range' x.1 (of.length+1-x.1)).flatMap fun(n:Nat)=>jR of n [] 0).map qmA) x.2 Q) (fun x=>of.length+1-x.1) (0,g0)
  ((Wk.bornBox 3 900000 1 rfl rfl rfl rfl).trans (Wk.sub ⟨rfl,rfl,rfl,rfl,rfl,rfl,trivial⟩ ⟨rfl,rfl,rfl,rfl,trivial⟩)) ⟨Nat.zero_le _,hit⟩ ?_
 clear hit g0;rintro ⟨n,g0⟩ ⟨hn,hit⟩;simp only at hn hit;conv=>whnf
 refine qj (fun h1=>?_) (fun h1=>?_)
 ·have h1:n<of.length+1:=by have:=of_decide_eq_true h1;simp only at this;omega
  obtain⟨m,hm1⟩:∃ m,of.length+1-n=m+1:=⟨of.length-n,by omega⟩;rw[hm1,List.range'_succ,List.flatMap_cons,List.map_append]at hit;conv=>whnf
  refine qkw (lfill hof n 0 [] (by omega) (by simp;omega) (by omega) Y g0 _ Q hit.np) [2,3,4,900000] rfl ⟨_,_,rfl,rfl,_,_,rfl,rfl,_,_,rfl,rfl,_,_,rfl,rfl,rfl⟩ rfl rfl ?_;rintro v h1 s' ⟨q,rfl,hpost⟩;rw[qen]at hpost;rcases hpost with⟨rfl,rfl,hi2⟩|⟨rfl,hq⟩
  ·refine⟨rfl,?_⟩
   conv=>whnf
   refine qn (((n+1:Nat):Int)) (by(try dsimp only);omega) (qb (by(try dsimp only);omega)) ?_;conv=>whnf
   have hm2:of.length+1-(n+1)=m:=by omega
   exact⟨(n+1,s'),by simp only;omega,⟨by simp only;omega,by simp only;rw[hm2];exact hi2⟩,(Wk.move 100960 900000 rfl rfl).trans (Wk.sub ⟨rfl,rfl,rfl,rfl,rfl,rfl,trivial⟩ ⟨rfl,rfl,rfl,rfl,trivial⟩)⟩
  ·refine⟨rfl,?_⟩
   conv=>whnf
   exact qc 0 rfl ⟨rfl,hq⟩
 ·have h1:¬ n<of.length+1:=by have:=of_decide_eq_false h1;simp only at this;omega
  rw[show of.length+1-n=0 by omega]at hit;conv=>whnf
  exact qc 0 rfl ⟨rfl,hit⟩
theorem quh{g:Nat->Option DO}{i o:Nat}{d:D}(hv:jU g (.ptr i o)=some d):repl g (.ptr i o) = .d d:=by
 simp[repl,hv]
set_option maxHeartbeats 4000000 in
theorem qyJ(l:PLog)(hR:LogR l)(wider:Int)(hw:0<=wider/\wider<=1048576)(conf:List Int)(hc:conf.length<1000000):FnU Tryz.prog 68 [.d l.d,.d (i64 wider),.sl 1000000 1 0 conf.length] [(1000000,.arr 1 (.dd (ji conf)))] fun v h'=>v = .d (qak l (qX l wider conf))/\h' = [(1000000,.arr 1 (.dd (ji conf)))]:=by
 intro σ Y st;refine qaT mixed qm Tryz.func68 rfl (ft:=qxW) (args:=[.d l.d,.d (i64 wider),.sl 1000000 1 0 conf.length]) (show fnB qxW Tryz.f68 3=true from by decide +kernel) ?_;conv=>whnf
 have hbl:=hR.books;unfold qX;generalize hRES:qeU l wider conf 0 l.books ⟨[],0,[],[]⟩=RES;have hL0:LInv l wider conf 0 ⟨[],0,[],[]⟩:=⟨⟨rfl,fun j c _ hj=>absurd hj (Nat.not_lt_zero j)⟩,fun num r hr=>(by cases hr),fun j m c y num _ _ _ hj=>absurd hj (Nat.not_lt_zero j),fun e he=>(by cases he),fun j c _ hj=>absurd hj (Nat.not_lt_zero j),fun j c n _ _ hj=>absurd hj (Nat.not_lt_zero j),fun j m c x z _ _ hj=>absurd hj (Nat.not_lt_zero j)⟩;refine zd (T:=tys) qm (by exact qg mixed qm (by decide +kernel)) l.books (fun i (x:LkS)=>⟨[(2,.sl 1000000 1 0 conf.length),(3,.ptr 3 0),(4,.ptr 4 0),(7,.ptr 7 0),(8,.mp 26),(9,.clo 112 [.ptr 7 0,.ptr 4 0]),(29,.d (qS l.books)),(30,.d (i64 l.books.length)),(31,.d (i64 i))],[(3,.box (.dd l.cells)),(4,.box (.dd [i64 wider])),(7,.box (.vv [.ptr 25 0])),(25,.box (.vv [.d (i64 l.near),.d (qS l.books),.sl 900000 5 0 x.steps.length,.sl 900001 1 0 x.pers.length,.d (i64 x.many)])),(900000,.arr 5 (.dd (qu x.steps))),(900001,.arr 1 (.dd (zP x.pers))),(26,.map (kvV qG PAt.d x.first)),(1000000,.arr 1 (.dd (ji conf)))],st⟩)
  (fun i r x=>qeU l wider conf i r x=RES/\LInv l wider conf i x/\x.steps.length<=26*i/\(0<=x.many/\x.many<=9*i)) ⟨[],0,[],[]⟩ ?wk ⟨hRES,hL0,by simp,by simp⟩ ?_ ?_
 case wk=>
  refine(Wk.bornAtD 25 900000 5 [i64 l.near,qS l.books] [.nils,i64 0] rfl rfl rfl rfl rfl).trans ((Wk.bornAt 25 900001 1 [.d (i64 l.near),.d (qS l.books),.sl 900000 5 0 0] [.d (i64 0)] rfl rfl rfl rfl).trans (Wk.sub (by repeat' first|constructor|(simp only[List.length_map];rfl)|simp[PX.get]) (by repeat' first|constructor|(simp only[List.length_map];rfl)|simp[PX.get])))
 ·rintro i b r x hx hi hr2 ⟨hlk,hI,hst,hmn⟩
  rw[qeU]at hlk;have hB:=hR.book b (List.mem_of_getElem? hx);have hI2:=qkE hx hI;generalize hy:qik l wider conf i b x=y at hlk hI2;unfold qik at hy;conv=>whnf
  refine qj (fun _=>?_) (fun h=>absurd hi (by simpa using h));conv=>whnf
  refine qt hx ?_;conv=>whnf
  refine qT (qqa l wider hw x.steps (by omega) x.pers x.many (by omega) ⟨i,0⟩ b.off hB.off) [7,4,25,900000,900001] rfl ?lent rfl ?_;case lent=>exact⟨_,_,rfl,zT rfl ⟨⟨rfl,rfl⟩,trivial⟩,_,_,rfl,rfl,_,_,rfl,zT rfl ⟨rfl,rfl,⟨rfl,rfl,rfl,rfl⟩,⟨rfl,rfl,rfl,rfl⟩,rfl,trivial⟩,_,_,rfl,rfl,_,_,rfl,rfl,rfl⟩
  conv=>whnf
  have hE0:=qmq hx hI;generalize hER:qeT l wider conf i b x.pers 0 b.ents ⟨x.steps++jh wider ⟨i,0⟩ b.off,x.many+1,x.first,⟨i,0⟩,[],[]⟩=ER at hy;simp only at hy;refine zd (T:=tys) qm (by exact qg mixed qm (by decide +kernel)) b.ents (fun k (e:LkE)=>⟨[(2,.sl 1000000 1 0 conf.length),(3,.ptr 3 0),(4,.ptr 4 0),(7,.ptr 7 0),(8,.mp 26),(9,.clo 112 [.ptr 7 0,.ptr 4 0]),(29,.d (qS l.books)),(30,.d (i64 l.books.length)),(31,.d (i64 i)),(10,.d (i64 i)),(11,.ptr 11 0),(12,.ptr 12 0),(13,.sl 55 2 0 e.of.length),(14,.mp 43),(45,.d (qeS b.ents)),(46,.d (i64 b.ents.length)),(47,.d (i64 k))],[(3,.box (.dd l.cells)),(4,.box (.dd [i64 wider])),(7,.box (.vv [.ptr 25 0])),(25,.box (.vv [.d (i64 l.near),.d (qS l.books),.sl 900000 5 0 e.steps.length,.sl 900001 1 0 x.pers.length,.d (i64 e.many)])),(900000,.arr 5 (.dd (qu e.steps))),(900001,.arr 1 (.dd (zP x.pers))),(26,.map (kvV qG PAt.d e.first)),(11,.box (.dd b.cells)),(12,.box (.dd e.now.cells)),(43,.map (kvV qG qG e.mine)),(55,.arr 2 (.dd (zR e.of))),(1000000,.arr 1 (.dd (ji conf)))],st⟩)
   (fun k r e=>EInv l wider conf i k b x.pers e/\qeT l wider conf i b x.pers k r e=ER/\e.steps.length<=26*i+2+3*k/\(0<=e.many/\e.many<=9*i+1+k) /\ ∀ num,(zr e.mine num).getD 0<=k) ⟨x.steps++jh wider ⟨i,0⟩ b.off,x.many+1,x.first,⟨i,0⟩,[],[]⟩ ?wk2 ⟨hE0,hER,by simp[jh];omega,by simp only;omega,fun num=>by show(0:Int)<=_;omega⟩ ?_ ?_
  case wk2=>
   refine(Wk.born 13 55 2 rfl rfl rfl).trans ((Wk.move 102688 900000 rfl rfl).trans (Wk.sub (by repeat' first|constructor|(simp only[List.length_map];rfl)|simp[PX.get]) (by repeat' first|constructor|(simp only[List.length_map];rfl)|simp[PX.get])))
  ·rintro k y r e hyk hk hr3 ⟨hE,hes,hsl,hem,hmi⟩
   rw[qeT]at hes;have hE2:=qnw hI.pers.2 hx hyk hE;generalize hnx:qqC l wider conf i b x.pers k y e=e2 at hes hE2;unfold qqC at hnx;simp only at hnx;have hK2:=qvD hx hyk hE;generalize hST:(if k=0 then e.steps else e.steps ++ [(⟨((e.of ++ [e.now])[k-1]?).getD .right,e.now,y.shown-((b.ents[k-1]?).getD ⟨0,0,.empty,0⟩).shown⟩:zu)])=ST at hnx hK2;conv=>whnf
   refine qj (fun _=>?_) (fun h=>absurd hk (by simpa using h));conv=>whnf
   refine qt hyk ?_;conv=>whnf
   refine ql rfl ?_;conv=>whnf
   have hofl:e.of.length=k:=by rw[hE.of];simp
   have hk8:k<8:=by have:=hB.ents;omega
   have hy0:=hB.ent y (List.mem_of_getElem? hyk);refine ql (by simp[Els.len,zR]) ?_;conv=>whnf
   refine zx (decide_eq_true (by
    show((zR e.of).length+1)*16<=140737488355328;have:=hB.ents;simp[zR];omega)) ?_
   conv=>whnf
   refine qj (fun h1=>?_) (fun h1=>?_)
   ·have h1:0<k:=by have:=of_decide_eq_true h1;omega
    conv=>whnf
    refine qn ((k-1:Nat):Int) (by omega) (qb (by omega)) ?_;conv=>whnf
    obtain⟨z,hz⟩:∃ z,b.ents[k-1]?=some z:=⟨_,List.getElem?_eq_getElem (by omega)⟩;have hz0:=hB.ent z (List.mem_of_getElem? hz);have hofk:(e.of ++ [e.now])[k-1]?=some ⟨i,qL b (k-1)⟩:=by
     rw[List.getElem?_append_left (by omega),hE.of,List.getElem?_map,List.getElem?_range (by omega)];rfl
    refine qj (fun _=>?_) (fun h=>absurd h (by
     show ¬ ((decide (0<=((k-1:Nat):Int))&&decide (((k-1:Nat):Int)<(((zR e.of).length+1:Nat):Int)))=false);simp[zR,hofl];omega))
    conv=>whnf
    refine jd (Per.cells ⟨i,qL b (k-1)⟩) (by
     show(zR e.of ++ [e.now.cells])[0+((k-1:Nat):Int).toNat]?=_;have:zR e.of ++ [e.now.cells]=zR (e.of ++ [e.now]):=by simp[zR]
     rw[this,Int.toNat_natCast,Nat.zero_add];unfold zR;rw[List.getElem?_map,hofk];rfl) ?_
    conv=>whnf
    refine qn ((k-1:Nat):Int) (by omega) (qb (by omega)) ?_;conv=>whnf
    refine qK z.cells ⟨by omega,by rw[Int.toNat_natCast,List.getElem?_map,hz];rfl⟩ ?_;conv=>whnf
    refine qe (qb (by(try dsimp only);omega)) ?_;conv=>whnf
    refine ql rfl ?_;conv=>whnf
    refine ql (by simp[Els.len,qu]) ?_;conv=>whnf
    refine zx (decide_eq_true (by
     show((qu e.steps).length+1)*40<=140737488355328;simp[qu];omega)) ?_
    conv=>whnf
    rw[if_neg (by omega),hofk,hz]at hST;simp only[Option.getD_some]at hST;refine CallA.wkK ?_;refine qk (qsU y) rfl rfl ?_;refine⟨⟨[(2,.sl 1000000 1 0 conf.length),(3,.ptr 3 0),(4,.ptr 4 0),(7,.ptr 7 0),(8,.mp 26),(9,.clo 112 [.ptr 7 0,.ptr 4 0]),(29,.d (qS l.books)),(30,.d (i64 l.books.length)),(31,.d (i64 i)),(10,.d (i64 i)),(11,.ptr 11 0),(12,.ptr 12 0),(13,.sl 55 2 0 (e.of ++ [e.now]).length),(14,.mp 43),(15,.d (i64 k)),(16,.ptr 16 0),(45,.d (qeS b.ents)),(46,.d (i64 b.ents.length)),(47,.d (i64 k)),(85,.d (zk y))],[(3,.box (.dd l.cells)),(4,.box (.dd [i64 wider])),(7,.box (.vv [.ptr 25 0])),(25,.box (.vv [.d (i64 l.near),.d (qS l.books),.sl 900000 5 0 ST.length,.sl 900001 1 0 x.pers.length,.d (i64 e.many)])),(900000,.arr 5 (.dd (qu ST))),(900001,.arr 1 (.dd (zP x.pers))),(26,.map (kvV qG PAt.d e.first)),(11,.box (.dd b.cells)),(12,.box (.dd e.now.cells)),(16,.box (.dd y.cells)),(43,.map (kvV qG qG e.mine)),(55,.arr 2 (.dd (zR (e.of ++ [e.now])))),(1000000,.arr 1 (.dd (ji conf)))],st⟩,(Wk.move 81 900000 rfl rfl).trans (Wk.sub ⟨rfl,rfl,rfl,rfl,rfl,rfl,rfl,rfl,rfl,rfl,rfl,rfl,?_,rfl,rfl,rfl,rfl,rfl,rfl,rfl,trivial⟩ ⟨rfl,rfl,rfl,?_,?_,rfl,rfl,rfl,rfl,rfl,rfl,?_,rfl,trivial⟩),?_⟩
    ·show some (V.sl 55 2 0 ((zR e.of).length+1))=_
     simp[zR]
    ·show some (Obj.box (Cells.vv [.d (i64 l.near),.d (qS l.books),.sl 900000 5 0 ((qu e.steps).length+1),.sl 900001 1 0 x.pers.length,.d (i64 e.many)]))=_
     rw[<- hST];simp[qu]
    ·rw[<- hST]
     show some (Obj.arr 5 (Els.dd (qu e.steps ++ [[i64 i,i64 (qL b (k-1):Nat),i64 e.now.book,i64 e.now.n,i64 (y.shown-z.shown)]])))=_;unfold qu;rw[List.map_append];rfl
    ·show some (Obj.arr 2 (Els.dd (zR e.of ++ [e.now.cells])))=_
     simp[zR]
    have hstl:ST.length<=e.steps.length+1:=by rw[<- hST];simp
    by_cases h2:y.kind=2
    ·rw[if_pos h2]at hnx
     have ht:zk y = .ifc 175 (.agg []):=by unfold zk;rw[if_neg (by omega),if_pos h2]
     rw[ht];have hpo:=jf b k;have hse:=qbe b;have hen:=hB.ents;have hnn:e.now.n=(qL b k:Nat):=by rw[hE.now]
     conv=>whnf
     refine qe (qb (by(try dsimp only);omega)) ?_;conv=>whnf
     refine qT (qqa l wider hw ST (by omega) x.pers e.many (by omega) ⟨e.now.book,e.now.n+1⟩ b.set hB.set) [7,4,25,900000,900001] rfl ?lent rfl ?_;case lent=>exact⟨_,_,rfl,zT rfl ⟨⟨rfl,rfl⟩,trivial⟩,_,_,rfl,rfl,_,_,rfl,zT rfl ⟨rfl,rfl,⟨rfl,rfl,rfl,rfl⟩,⟨rfl,rfl,rfl,rfl⟩,rfl,trivial⟩,_,_,rfl,rfl,_,_,rfl,rfl,rfl⟩
     conv=>whnf
     refine qe (qb (by(try dsimp only);omega)) ?_;conv=>whnf
     subst hnx;refine⟨_,⟨hE2,hes,?_,?_,fun num=>by have:=hmi num;simp only;omega⟩,?_⟩
     ·simp[jh];omega
     ·simp only;omega
     ·exact(Wk.move 106208 900000 rfl rfl).trans (Wk.sub ⟨rfl,rfl,rfl,rfl,rfl,rfl,rfl,rfl,rfl,rfl,rfl,rfl,rfl,rfl,rfl,rfl,rfl,trivial⟩ ⟨rfl,rfl,rfl,rfl,rfl,rfl,rfl,rfl,rfl,rfl,rfl,rfl,trivial⟩)
    ·rw[if_neg h2]at hnx
     by_cases h3:y.kind=3
     ·rw[if_pos h3]at hnx
      have ht:zk y = .ifc 156 (.agg [.str y.word,i64 y.number]):=by unfold zk;rw[if_neg (by omega),if_neg h2,if_pos h3]
      rw[ht];have hmn:=hmi y.number;have hm0:=(hE.mine y.number).1;generalize hN:(zr e.mine y.number).getD 0=N at hnx hmn hm0;have hmi2:∀ num,(zr (jJ e.mine y.number (N+1)) num).getD 0<=((k+1:Nat):Int):=fun num=>by
       rw[zA];split
       ·simp only[Option.getD_some];omega
       ·have:=hmi num;omega
      conv=>whnf
      cases hgm:zr e.mine y.number with
      | none=>
       have hN0:N=0:=by rw[<- hN,hgm];rfl
       have hput:=zg (kd:=qG) (vd:=qG) (N+1) hgm;refine⟨none,qs (kd:=qG) qv hgm 0,?_⟩;conv=>whnf
       refine qn (N+1) (by omega) (qb (by omega)) ?_;conv=>whnf
       refine⟨none,qs (kd:=qG) qv hgm 0,?_⟩;conv=>whnf
       have hput2:kvV qG qG e.mine ++ [(i64 y.number,i64 (N+1))]=kvV qG qG (jJ e.mine y.number (N+1)):=hput;rw[hput2];obtain⟨iz,_,hz1,_⟩:=qD (kd:=qG) (vd:=qG) qv (show zr (jJ e.mine y.number (N+1)) y.number=some (N+1) by rw[zA,if_pos rfl]) 0;refine⟨_,hz1,?_⟩;conv=>whnf
       refine qj (fun h5=>?_) (fun h5=>?_)
       ·have h5:1<N+1:=of_decide_eq_true h5
        rw[if_pos (.inl (by omega))]at hnx;conv=>whnf
        refine qe (qb (by(try dsimp only);omega)) ?_;conv=>whnf
        subst hnx;exact⟨_,⟨hE2,hes,by simp only;omega,by simp only;omega,hmi2⟩,(Wk.sub ⟨rfl,rfl,rfl,rfl,rfl,rfl,rfl,rfl,rfl,rfl,rfl,rfl,rfl,rfl,rfl,rfl,rfl,trivial⟩ ⟨rfl,rfl,rfl,rfl,rfl,rfl,rfl,rfl,rfl,rfl,rfl,rfl,trivial⟩)⟩
       ·have h5:¬ 1<N+1:=of_decide_eq_false h5
        conv=>whnf
        refine qw (ds:=[qF conf,i64 y.number]) (quQ conf y.number (by omega)) rfl 1 (qy (js rfl (by simp[ji])) rfl) ?_;conv=>whnf
        refine qj (fun h6=>?_) (fun h6=>?_)
        ·have h6:y.number∈conf:=of_decide_eq_true h6
         rw[if_pos (.inr h6)]at hnx;conv=>whnf
         refine qe (qb (by(try dsimp only);omega)) ?_;conv=>whnf
         subst hnx;exact⟨_,⟨hE2,hes,by simp only;omega,by simp only;omega,hmi2⟩,(Wk.sub ⟨rfl,rfl,rfl,rfl,rfl,rfl,rfl,rfl,rfl,rfl,rfl,rfl,rfl,rfl,rfl,rfl,rfl,trivial⟩ ⟨rfl,rfl,rfl,rfl,rfl,rfl,rfl,rfl,rfl,rfl,rfl,rfl,trivial⟩)⟩
        ·have h6:¬ y.number∈conf:=of_decide_eq_false h6
         rw[if_neg (fun h=>h.elim (fun h=>h5 (by omega)) h6)]at hnx;conv=>whnf
         cases hgf:zr e.first y.number with
         | none=>
          rw[hgf]at hnx;simp only at hnx;have hpf:=zg (kd:=qG) (vd:=PAt.d) (⟨i,k⟩:PAt) hgf;refine⟨none,qs (kd:=qG) qv hgf 0,?_⟩;conv=>whnf
          refine⟨none,qs (kd:=qG) qv hgf 0,?_⟩;conv=>whnf
          have hpf2:kvV qG PAt.d e.first ++ [(i64 y.number,PAt.d ⟨i,k⟩)]=kvV qG PAt.d (jJ e.first y.number ⟨i,k⟩):=hpf
          refine qe (qb (by(try dsimp only);omega)) ?_;conv=>whnf
          subst hnx;refine⟨_,⟨hE2,hes,by simp only;omega,by simp only;omega,hmi2⟩,?_⟩;simp only;rw[<- hpf2];exact(Wk.sub ⟨rfl,rfl,rfl,rfl,rfl,rfl,rfl,rfl,rfl,rfl,rfl,rfl,rfl,rfl,rfl,rfl,rfl,trivial⟩ ⟨rfl,rfl,rfl,rfl,rfl,rfl,rfl,rfl,rfl,rfl,rfl,rfl,trivial⟩)
         | some r0=>
          rw[hgf]at hnx;simp only at hnx;obtain⟨j0,m0,c0,x0,hr0,hx0,hf0,-,hah⟩:=hE.fst _ _ hgf;obtain⟨iy,_,hy1,_⟩:=qD (kd:=qG) (vd:=PAt.d) qv hgf 0;refine⟨_,hy1,?_⟩;conv=>whnf
          subst hr0;have hml:=(List.getElem?_eq_some_iff.1 hx0.ent).1;have hjl:=(List.getElem?_eq_some_iff.1 hx0.book).1;refine qK c0.cells ⟨by show(0:Int)<=((j0:Nat):Int);omega,by show(l.books.map PBook.cells)[((j0:Nat):Int).toNat]?=_;rw[Int.toNat_natCast,List.getElem?_map,hx0.book];rfl⟩ ?_;conv=>whnf
          refine qK x0.cells ⟨by show(0:Int)<=((m0:Nat):Int);omega,by show(c0.ents.map PEnt.cells)[((m0:Nat):Int).toNat]?=_;rw[Int.toNat_natCast,List.getElem?_map,hx0.ent];rfl⟩ ?_;conv=>whnf
          have hxs:=(hR.book c0 (List.mem_of_getElem? hx0.book)).ent x0 (List.mem_of_getElem? hx0.ent);have hj0:j0<i:=by
           rcases hah with hah|⟨hji,hah⟩
           ·exact hah
           ·have hb0:=hx0.book
            rw[hji]at hb0;have hcb:c0=b:=Option.some.inj (hb0.symm.trans hx);have h7:=(hE.mine y.number).2.2 ⟨m0,hah,hcb▸hf0⟩;rw[hN]at h7;omega
          have hpj:=hI.pers.2 j0 c0 hx0.book hj0;refine qn (y.shown-x0.shown) rfl (qb (by omega)) ?_;conv=>whnf
          refine qj (fun _=>?_) (fun h=>absurd h (by
           show ¬ ((decide (0<=((j0:Nat):Int))&&decide (((j0:Nat):Int)<((x.pers.length:Nat):Int)))=false);have:=hI.pers.1;simp;omega))
          conv=>whnf
          refine jd [.vs ((jP j0 c0).map Per.cells)] (by
           show(zP x.pers)[0+((j0:Nat):Int).toNat]?=_;unfold zP;rw[Int.toNat_natCast,Nat.zero_add,List.getElem?_map,hpj];rfl) ?_
          conv=>whnf
          refine qK (Per.cells ⟨j0,(qL c0 m0:Nat)⟩) ⟨by show(0:Int)<=((m0:Nat):Int);omega,by show((jP j0 c0).map Per.cells)[((m0:Nat):Int).toNat]?=_;rw[Int.toNat_natCast,List.getElem?_map,jK hml];rfl⟩ ?_;conv=>whnf
          refine qn (-(y.shown-x0.shown)) (by omega) (qb (by omega)) ?_;conv=>whnf
          refine ql rfl ?_;conv=>whnf
          refine ql (by simp[Els.len,qu]) ?_;conv=>whnf
          refine zx (decide_eq_true (by
           show((qu ST).length+2)*40<=140737488355328;simp[qu];omega)) ?_
          conv=>whnf
          refine qe (qb (by(try dsimp only);omega)) ?_;conv=>whnf
          rw[qaP hx0 hpj,jE hx0]at hnx;subst hnx;refine⟨_,⟨hE2,hes,by simp only[List.length_append,List.length_cons,List.length_nil];omega,by simp only;omega,hmi2⟩,?_⟩;have hsc:∀ p q:zu,qu (ST ++ [p,q])=qu ST++qu [p,q]:=fun p q=>by unfold qu;rw[List.map_append]
          simp only[hsc];refine(Wk.move 174 900000 rfl rfl).trans (Wk.sub ⟨rfl,rfl,rfl,rfl,rfl,rfl,rfl,rfl,rfl,rfl,rfl,rfl,rfl,rfl,rfl,rfl,rfl,trivial⟩ ⟨rfl,rfl,rfl,?_,rfl,rfl,rfl,rfl,rfl,rfl,rfl,rfl,trivial⟩);show some (Obj.box (Cells.vv [.d (i64 l.near),.d (qS l.books),.sl 900000 5 0 ((qu ST).length+2),.sl 900001 1 0 x.pers.length,.d (i64 e.many)]))=_;simp[qu]
      | some n0=>
       have hN0:N=n0:=by rw[<- hN,hgm];rfl
       obtain⟨ix,_,hx1,hx2,_⟩:=qD (kd:=qG) (vd:=qG) qv hgm 0;refine⟨_,hx1,?_⟩;conv=>whnf
       refine qn (N+1) (by rw[hN0]) (qb (by omega)) ?_;conv=>whnf
       refine⟨_,hx1,?_⟩;conv=>whnf
       have hput2:(kvV qG qG e.mine).set (0+ix,qG n0).fst (i64 y.number,i64 (N+1))=kvV qG qG (jJ e.mine y.number (N+1)):=by
        show(kvV qG qG e.mine).set (0+ix) _=_;rw[Nat.zero_add];exact hx2 (N+1)
       rw[hput2];obtain⟨iz,_,hz1,_⟩:=qD (kd:=qG) (vd:=qG) qv (show zr (jJ e.mine y.number (N+1)) y.number=some (N+1) by rw[zA,if_pos rfl]) 0;refine⟨_,hz1,?_⟩;conv=>whnf
       refine qj (fun h5=>?_) (fun h5=>?_)
       ·have h5:1<N+1:=of_decide_eq_true h5
        rw[if_pos (.inl (by omega))]at hnx;conv=>whnf
        refine qe (qb (by(try dsimp only);omega)) ?_;conv=>whnf
        subst hnx;exact⟨_,⟨hE2,hes,by simp only;omega,by simp only;omega,hmi2⟩,(Wk.sub ⟨rfl,rfl,rfl,rfl,rfl,rfl,rfl,rfl,rfl,rfl,rfl,rfl,rfl,rfl,rfl,rfl,rfl,trivial⟩ ⟨rfl,rfl,rfl,rfl,rfl,rfl,rfl,rfl,rfl,rfl,rfl,rfl,trivial⟩)⟩
       ·have h5:¬ 1<N+1:=of_decide_eq_false h5
        conv=>whnf
        refine qw (ds:=[qF conf,i64 y.number]) (quQ conf y.number (by omega)) rfl 1 (qy (js rfl (by simp[ji])) rfl) ?_;conv=>whnf
        refine qj (fun h6=>?_) (fun h6=>?_)
        ·have h6:y.number∈conf:=of_decide_eq_true h6
         rw[if_pos (.inr h6)]at hnx;conv=>whnf
         refine qe (qb (by(try dsimp only);omega)) ?_;conv=>whnf
         subst hnx;exact⟨_,⟨hE2,hes,by simp only;omega,by simp only;omega,hmi2⟩,(Wk.sub ⟨rfl,rfl,rfl,rfl,rfl,rfl,rfl,rfl,rfl,rfl,rfl,rfl,rfl,rfl,rfl,rfl,rfl,trivial⟩ ⟨rfl,rfl,rfl,rfl,rfl,rfl,rfl,rfl,rfl,rfl,rfl,rfl,trivial⟩)⟩
        ·have h6:¬ y.number∈conf:=of_decide_eq_false h6
         rw[if_neg (fun h=>h.elim (fun h=>h5 (by omega)) h6)]at hnx;conv=>whnf
         cases hgf:zr e.first y.number with
         | none=>
          rw[hgf]at hnx;simp only at hnx;have hpf:=zg (kd:=qG) (vd:=PAt.d) (⟨i,k⟩:PAt) hgf;refine⟨none,qs (kd:=qG) qv hgf 0,?_⟩;conv=>whnf
          refine⟨none,qs (kd:=qG) qv hgf 0,?_⟩;conv=>whnf
          have hpf2:kvV qG PAt.d e.first ++ [(i64 y.number,PAt.d ⟨i,k⟩)]=kvV qG PAt.d (jJ e.first y.number ⟨i,k⟩):=hpf
          refine qe (qb (by(try dsimp only);omega)) ?_;conv=>whnf
          subst hnx;refine⟨_,⟨hE2,hes,by simp only;omega,by simp only;omega,hmi2⟩,?_⟩;simp only;rw[<- hpf2];exact(Wk.sub ⟨rfl,rfl,rfl,rfl,rfl,rfl,rfl,rfl,rfl,rfl,rfl,rfl,rfl,rfl,rfl,rfl,rfl,trivial⟩ ⟨rfl,rfl,rfl,rfl,rfl,rfl,rfl,rfl,rfl,rfl,rfl,rfl,trivial⟩)
         | some r0=>
          rw[hgf]at hnx;simp only at hnx;obtain⟨j0,m0,c0,x0,hr0,hx0,hf0,-,hah⟩:=hE.fst _ _ hgf;obtain⟨iy,_,hy1,_⟩:=qD (kd:=qG) (vd:=PAt.d) qv hgf 0;refine⟨_,hy1,?_⟩;conv=>whnf
          subst hr0;have hml:=(List.getElem?_eq_some_iff.1 hx0.ent).1;have hjl:=(List.getElem?_eq_some_iff.1 hx0.book).1;refine qK c0.cells ⟨by show(0:Int)<=((j0:Nat):Int);omega,by show(l.books.map PBook.cells)[((j0:Nat):Int).toNat]?=_;rw[Int.toNat_natCast,List.getElem?_map,hx0.book];rfl⟩ ?_;conv=>whnf
          refine qK x0.cells ⟨by show(0:Int)<=((m0:Nat):Int);omega,by show(c0.ents.map PEnt.cells)[((m0:Nat):Int).toNat]?=_;rw[Int.toNat_natCast,List.getElem?_map,hx0.ent];rfl⟩ ?_;conv=>whnf
          have hxs:=(hR.book c0 (List.mem_of_getElem? hx0.book)).ent x0 (List.mem_of_getElem? hx0.ent);have hj0:j0<i:=by
           rcases hah with hah|⟨hji,hah⟩
           ·exact hah
           ·have hb0:=hx0.book
            rw[hji]at hb0;have hcb:c0=b:=Option.some.inj (hb0.symm.trans hx);have h7:=(hE.mine y.number).2.2 ⟨m0,hah,hcb▸hf0⟩;rw[hN]at h7;omega
          have hpj:=hI.pers.2 j0 c0 hx0.book hj0;refine qn (y.shown-x0.shown) rfl (qb (by omega)) ?_;conv=>whnf
          refine qj (fun _=>?_) (fun h=>absurd h (by
           show ¬ ((decide (0<=((j0:Nat):Int))&&decide (((j0:Nat):Int)<((x.pers.length:Nat):Int)))=false);have:=hI.pers.1;simp;omega))
          conv=>whnf
          refine jd [.vs ((jP j0 c0).map Per.cells)] (by
           show(zP x.pers)[0+((j0:Nat):Int).toNat]?=_;unfold zP;rw[Int.toNat_natCast,Nat.zero_add,List.getElem?_map,hpj];rfl) ?_
          conv=>whnf
          refine qK (Per.cells ⟨j0,(qL c0 m0:Nat)⟩) ⟨by show(0:Int)<=((m0:Nat):Int);omega,by show((jP j0 c0).map Per.cells)[((m0:Nat):Int).toNat]?=_;rw[Int.toNat_natCast,List.getElem?_map,jK hml];rfl⟩ ?_;conv=>whnf
          refine qn (-(y.shown-x0.shown)) (by omega) (qb (by omega)) ?_;conv=>whnf
          refine ql rfl ?_;conv=>whnf
          refine ql (by simp[Els.len,qu]) ?_;conv=>whnf
          refine zx (decide_eq_true (by
           show((qu ST).length+2)*40<=140737488355328;simp[qu];omega)) ?_
          conv=>whnf
          refine qe (qb (by(try dsimp only);omega)) ?_;conv=>whnf
          rw[qaP hx0 hpj,jE hx0]at hnx;subst hnx;refine⟨_,⟨hE2,hes,by simp only[List.length_append,List.length_cons,List.length_nil];omega,by simp only;omega,hmi2⟩,?_⟩;have hsc:∀ p q:zu,qu (ST ++ [p,q])=qu ST++qu [p,q]:=fun p q=>by unfold qu;rw[List.map_append]
          simp only[hsc];refine(Wk.move 174 900000 rfl rfl).trans (Wk.sub ⟨rfl,rfl,rfl,rfl,rfl,rfl,rfl,rfl,rfl,rfl,rfl,rfl,rfl,rfl,rfl,rfl,rfl,trivial⟩ ⟨rfl,rfl,rfl,?_,rfl,rfl,rfl,rfl,rfl,rfl,rfl,rfl,trivial⟩);show some (Obj.box (Cells.vv [.d (i64 l.near),.d (qS l.books),.sl 900000 5 0 ((qu ST).length+2),.sl 900001 1 0 x.pers.length,.d (i64 e.many)]))=_;simp[qu]
     ·rw[if_neg h3]at hnx
      have h1k:y.kind=1:=by omega
      have ht:zk y = .ifc 138 (.agg [.str y.word]):=by unfold zk;rw[if_pos h1k]
      rw[ht];conv=>whnf
      refine qe (qb (by(try dsimp only);omega)) ?_;conv=>whnf
      subst hnx;exact⟨_,⟨hE2,hes,by simp only;omega,by simp only;omega,fun num=>by have:=hmi num;simp only;omega⟩,(Wk.sub ⟨rfl,rfl,rfl,rfl,rfl,rfl,rfl,rfl,rfl,rfl,rfl,rfl,rfl,rfl,rfl,rfl,rfl,trivial⟩ ⟨rfl,rfl,rfl,rfl,rfl,rfl,rfl,rfl,rfl,rfl,rfl,rfl,trivial⟩)⟩
   ·have h1:k=0:=by have:=of_decide_eq_false h1;omega
    rw[if_pos h1]at hST;conv=>whnf
    refine CallA.wkK ?_;refine qk (qsU y) rfl rfl ?_;refine⟨⟨[(2,.sl 1000000 1 0 conf.length),(3,.ptr 3 0),(4,.ptr 4 0),(7,.ptr 7 0),(8,.mp 26),(9,.clo 112 [.ptr 7 0,.ptr 4 0]),(29,.d (qS l.books)),(30,.d (i64 l.books.length)),(31,.d (i64 i)),(10,.d (i64 i)),(11,.ptr 11 0),(12,.ptr 12 0),(13,.sl 55 2 0 (e.of ++ [e.now]).length),(14,.mp 43),(15,.d (i64 k)),(16,.ptr 16 0),(45,.d (qeS b.ents)),(46,.d (i64 b.ents.length)),(47,.d (i64 k)),(85,.d (zk y))],[(3,.box (.dd l.cells)),(4,.box (.dd [i64 wider])),(7,.box (.vv [.ptr 25 0])),(25,.box (.vv [.d (i64 l.near),.d (qS l.books),.sl 900000 5 0 ST.length,.sl 900001 1 0 x.pers.length,.d (i64 e.many)])),(900000,.arr 5 (.dd (qu ST))),(900001,.arr 1 (.dd (zP x.pers))),(26,.map (kvV qG PAt.d e.first)),(11,.box (.dd b.cells)),(12,.box (.dd e.now.cells)),(16,.box (.dd y.cells)),(43,.map (kvV qG qG e.mine)),(55,.arr 2 (.dd (zR (e.of ++ [e.now])))),(1000000,.arr 1 (.dd (ji conf)))],st⟩,Wk.sub ⟨rfl,rfl,rfl,rfl,rfl,rfl,rfl,rfl,rfl,rfl,rfl,rfl,?_,rfl,rfl,rfl,rfl,rfl,rfl,rfl,trivial⟩ ⟨rfl,rfl,rfl,?_,?_,rfl,rfl,rfl,rfl,rfl,rfl,?_,rfl,trivial⟩,?_⟩
    ·show some (V.sl 55 2 0 ((zR e.of).length+1))=_
     simp[zR]
    ·rw[<- hST];rfl
    ·rw[<- hST];rfl
    ·show some (Obj.arr 2 (Els.dd (zR e.of ++ [e.now.cells])))=_
     simp[zR]
    have hstl:ST.length<=e.steps.length+1:=by rw[<- hST];simp
    by_cases h2:y.kind=2
    ·rw[if_pos h2]at hnx
     have ht:zk y = .ifc 175 (.agg []):=by unfold zk;rw[if_neg (by omega),if_pos h2]
     rw[ht];have hpo:=jf b k;have hse:=qbe b;have hen:=hB.ents;have hnn:e.now.n=(qL b k:Nat):=by rw[hE.now]
     conv=>whnf
     refine qe (qb (by(try dsimp only);omega)) ?_;conv=>whnf
     refine qT (qqa l wider hw ST (by omega) x.pers e.many (by omega) ⟨e.now.book,e.now.n+1⟩ b.set hB.set) [7,4,25,900000,900001] rfl ?lent rfl ?_;case lent=>exact⟨_,_,rfl,zT rfl ⟨⟨rfl,rfl⟩,trivial⟩,_,_,rfl,rfl,_,_,rfl,zT rfl ⟨rfl,rfl,⟨rfl,rfl,rfl,rfl⟩,⟨rfl,rfl,rfl,rfl⟩,rfl,trivial⟩,_,_,rfl,rfl,_,_,rfl,rfl,rfl⟩
     conv=>whnf
     refine qe (qb (by(try dsimp only);omega)) ?_;conv=>whnf
     subst hnx;refine⟨_,⟨hE2,hes,?_,?_,fun num=>by have:=hmi num;simp only;omega⟩,?_⟩
     ·simp[jh];omega
     ·simp only;omega
     ·exact(Wk.move 106208 900000 rfl rfl).trans (Wk.sub ⟨rfl,rfl,rfl,rfl,rfl,rfl,rfl,rfl,rfl,rfl,rfl,rfl,rfl,rfl,rfl,rfl,rfl,trivial⟩ ⟨rfl,rfl,rfl,rfl,rfl,rfl,rfl,rfl,rfl,rfl,rfl,rfl,trivial⟩)
    ·rw[if_neg h2]at hnx
     by_cases h3:y.kind=3
     ·rw[if_pos h3]at hnx
      have ht:zk y = .ifc 156 (.agg [.str y.word,i64 y.number]):=by unfold zk;rw[if_neg (by omega),if_neg h2,if_pos h3]
      rw[ht];have hmn:=hmi y.number;have hm0:=(hE.mine y.number).1;generalize hN:(zr e.mine y.number).getD 0=N at hnx hmn hm0;have hmi2:∀ num,(zr (jJ e.mine y.number (N+1)) num).getD 0<=((k+1:Nat):Int):=fun num=>by
       rw[zA];split
       ·simp only[Option.getD_some];omega
       ·have:=hmi num;omega
      conv=>whnf
      cases hgm:zr e.mine y.number with
      | none=>
       have hN0:N=0:=by rw[<- hN,hgm];rfl
       have hput:=zg (kd:=qG) (vd:=qG) (N+1) hgm;refine⟨none,qs (kd:=qG) qv hgm 0,?_⟩;conv=>whnf
       refine qn (N+1) (by omega) (qb (by omega)) ?_;conv=>whnf
       refine⟨none,qs (kd:=qG) qv hgm 0,?_⟩;conv=>whnf
       have hput2:kvV qG qG e.mine ++ [(i64 y.number,i64 (N+1))]=kvV qG qG (jJ e.mine y.number (N+1)):=hput;rw[hput2];obtain⟨iz,_,hz1,_⟩:=qD (kd:=qG) (vd:=qG) qv (show zr (jJ e.mine y.number (N+1)) y.number=some (N+1) by rw[zA,if_pos rfl]) 0;refine⟨_,hz1,?_⟩;conv=>whnf
       refine qj (fun h5=>?_) (fun h5=>?_)
       ·have h5:1<N+1:=of_decide_eq_true h5
        rw[if_pos (.inl (by omega))]at hnx;conv=>whnf
        refine qe (qb (by(try dsimp only);omega)) ?_;conv=>whnf
        subst hnx;exact⟨_,⟨hE2,hes,by simp only;omega,by simp only;omega,hmi2⟩,(Wk.sub ⟨rfl,rfl,rfl,rfl,rfl,rfl,rfl,rfl,rfl,rfl,rfl,rfl,rfl,rfl,rfl,rfl,rfl,trivial⟩ ⟨rfl,rfl,rfl,rfl,rfl,rfl,rfl,rfl,rfl,rfl,rfl,rfl,trivial⟩)⟩
       ·have h5:¬ 1<N+1:=of_decide_eq_false h5
        conv=>whnf
        refine qw (ds:=[qF conf,i64 y.number]) (quQ conf y.number (by omega)) rfl 1 (qy (js rfl (by simp[ji])) rfl) ?_;conv=>whnf
        refine qj (fun h6=>?_) (fun h6=>?_)
        ·have h6:y.number∈conf:=of_decide_eq_true h6
         rw[if_pos (.inr h6)]at hnx;conv=>whnf
         refine qe (qb (by(try dsimp only);omega)) ?_;conv=>whnf
         subst hnx;exact⟨_,⟨hE2,hes,by simp only;omega,by simp only;omega,hmi2⟩,(Wk.sub ⟨rfl,rfl,rfl,rfl,rfl,rfl,rfl,rfl,rfl,rfl,rfl,rfl,rfl,rfl,rfl,rfl,rfl,trivial⟩ ⟨rfl,rfl,rfl,rfl,rfl,rfl,rfl,rfl,rfl,rfl,rfl,rfl,trivial⟩)⟩
        ·have h6:¬ y.number∈conf:=of_decide_eq_false h6
         rw[if_neg (fun h=>h.elim (fun h=>h5 (by omega)) h6)]at hnx;conv=>whnf
         cases hgf:zr e.first y.number with
         | none=>
          rw[hgf]at hnx;simp only at hnx;have hpf:=zg (kd:=qG) (vd:=PAt.d) (⟨i,k⟩:PAt) hgf;refine⟨none,qs (kd:=qG) qv hgf 0,?_⟩;conv=>whnf
          refine⟨none,qs (kd:=qG) qv hgf 0,?_⟩;conv=>whnf
          have hpf2:kvV qG PAt.d e.first ++ [(i64 y.number,PAt.d ⟨i,k⟩)]=kvV qG PAt.d (jJ e.first y.number ⟨i,k⟩):=hpf
          refine qe (qb (by(try dsimp only);omega)) ?_;conv=>whnf
          subst hnx;refine⟨_,⟨hE2,hes,by simp only;omega,by simp only;omega,hmi2⟩,?_⟩;simp only;rw[<- hpf2];exact(Wk.sub ⟨rfl,rfl,rfl,rfl,rfl,rfl,rfl,rfl,rfl,rfl,rfl,rfl,rfl,rfl,rfl,rfl,rfl,trivial⟩ ⟨rfl,rfl,rfl,rfl,rfl,rfl,rfl,rfl,rfl,rfl,rfl,rfl,trivial⟩)
         | some r0=>
          rw[hgf]at hnx;simp only at hnx;obtain⟨j0,m0,c0,x0,hr0,hx0,hf0,-,hah⟩:=hE.fst _ _ hgf;obtain⟨iy,_,hy1,_⟩:=qD (kd:=qG) (vd:=PAt.d) qv hgf 0;refine⟨_,hy1,?_⟩;conv=>whnf
          subst hr0;have hml:=(List.getElem?_eq_some_iff.1 hx0.ent).1;have hjl:=(List.getElem?_eq_some_iff.1 hx0.book).1;refine qK c0.cells ⟨by show(0:Int)<=((j0:Nat):Int);omega,by show(l.books.map PBook.cells)[((j0:Nat):Int).toNat]?=_;rw[Int.toNat_natCast,List.getElem?_map,hx0.book];rfl⟩ ?_;conv=>whnf
          refine qK x0.cells ⟨by show(0:Int)<=((m0:Nat):Int);omega,by show(c0.ents.map PEnt.cells)[((m0:Nat):Int).toNat]?=_;rw[Int.toNat_natCast,List.getElem?_map,hx0.ent];rfl⟩ ?_;conv=>whnf
          have hxs:=(hR.book c0 (List.mem_of_getElem? hx0.book)).ent x0 (List.mem_of_getElem? hx0.ent);have hj0:j0<i:=by
           rcases hah with hah|⟨hji,hah⟩
           ·exact hah
           ·have hb0:=hx0.book
            rw[hji]at hb0;have hcb:c0=b:=Option.some.inj (hb0.symm.trans hx);have h7:=(hE.mine y.number).2.2 ⟨m0,hah,hcb▸hf0⟩;rw[hN]at h7;omega
          have hpj:=hI.pers.2 j0 c0 hx0.book hj0;refine qn (y.shown-x0.shown) rfl (qb (by omega)) ?_;conv=>whnf
          refine qj (fun _=>?_) (fun h=>absurd h (by
           show ¬ ((decide (0<=((j0:Nat):Int))&&decide (((j0:Nat):Int)<((x.pers.length:Nat):Int)))=false);have:=hI.pers.1;simp;omega))
          conv=>whnf
          refine jd [.vs ((jP j0 c0).map Per.cells)] (by
           show(zP x.pers)[0+((j0:Nat):Int).toNat]?=_;unfold zP;rw[Int.toNat_natCast,Nat.zero_add,List.getElem?_map,hpj];rfl) ?_
          conv=>whnf
          refine qK (Per.cells ⟨j0,(qL c0 m0:Nat)⟩) ⟨by show(0:Int)<=((m0:Nat):Int);omega,by show((jP j0 c0).map Per.cells)[((m0:Nat):Int).toNat]?=_;rw[Int.toNat_natCast,List.getElem?_map,jK hml];rfl⟩ ?_;conv=>whnf
          refine qn (-(y.shown-x0.shown)) (by omega) (qb (by omega)) ?_;conv=>whnf
          refine ql rfl ?_;conv=>whnf
          refine ql (by simp[Els.len,qu]) ?_;conv=>whnf
          refine zx (decide_eq_true (by
           show((qu ST).length+2)*40<=140737488355328;simp[qu];omega)) ?_
          conv=>whnf
          refine qe (qb (by(try dsimp only);omega)) ?_;conv=>whnf
          rw[qaP hx0 hpj,jE hx0]at hnx;subst hnx;refine⟨_,⟨hE2,hes,by simp only[List.length_append,List.length_cons,List.length_nil];omega,by simp only;omega,hmi2⟩,?_⟩;have hsc:∀ p q:zu,qu (ST ++ [p,q])=qu ST++qu [p,q]:=fun p q=>by unfold qu;rw[List.map_append]
          simp only[hsc];refine(Wk.move 174 900000 rfl rfl).trans (Wk.sub ⟨rfl,rfl,rfl,rfl,rfl,rfl,rfl,rfl,rfl,rfl,rfl,rfl,rfl,rfl,rfl,rfl,rfl,trivial⟩ ⟨rfl,rfl,rfl,?_,rfl,rfl,rfl,rfl,rfl,rfl,rfl,rfl,trivial⟩);show some (Obj.box (Cells.vv [.d (i64 l.near),.d (qS l.books),.sl 900000 5 0 ((qu ST).length+2),.sl 900001 1 0 x.pers.length,.d (i64 e.many)]))=_;simp[qu]
      | some n0=>
       have hN0:N=n0:=by rw[<- hN,hgm];rfl
       obtain⟨ix,_,hx1,hx2,_⟩:=qD (kd:=qG) (vd:=qG) qv hgm 0;refine⟨_,hx1,?_⟩;conv=>whnf
       refine qn (N+1) (by rw[hN0]) (qb (by omega)) ?_;conv=>whnf
       refine⟨_,hx1,?_⟩;conv=>whnf
       have hput2:(kvV qG qG e.mine).set (0+ix,qG n0).fst (i64 y.number,i64 (N+1))=kvV qG qG (jJ e.mine y.number (N+1)):=by
        show(kvV qG qG e.mine).set (0+ix) _=_;rw[Nat.zero_add];exact hx2 (N+1)
       rw[hput2];obtain⟨iz,_,hz1,_⟩:=qD (kd:=qG) (vd:=qG) qv (show zr (jJ e.mine y.number (N+1)) y.number=some (N+1) by rw[zA,if_pos rfl]) 0;refine⟨_,hz1,?_⟩;conv=>whnf
       refine qj (fun h5=>?_) (fun h5=>?_)
       ·have h5:1<N+1:=of_decide_eq_true h5
        rw[if_pos (.inl (by omega))]at hnx;conv=>whnf
        refine qe (qb (by(try dsimp only);omega)) ?_;conv=>whnf
        subst hnx;exact⟨_,⟨hE2,hes,by simp only;omega,by simp only;omega,hmi2⟩,(Wk.sub ⟨rfl,rfl,rfl,rfl,rfl,rfl,rfl,rfl,rfl,rfl,rfl,rfl,rfl,rfl,rfl,rfl,rfl,trivial⟩ ⟨rfl,rfl,rfl,rfl,rfl,rfl,rfl,rfl,rfl,rfl,rfl,rfl,trivial⟩)⟩
       ·have h5:¬ 1<N+1:=of_decide_eq_false h5
        conv=>whnf
        refine qw (ds:=[qF conf,i64 y.number]) (quQ conf y.number (by omega)) rfl 1 (qy (js rfl (by simp[ji])) rfl) ?_;conv=>whnf
        refine qj (fun h6=>?_) (fun h6=>?_)
        ·have h6:y.number∈conf:=of_decide_eq_true h6
         rw[if_pos (.inr h6)]at hnx;conv=>whnf
         refine qe (qb (by(try dsimp only);omega)) ?_;conv=>whnf
         subst hnx;exact⟨_,⟨hE2,hes,by simp only;omega,by simp only;omega,hmi2⟩,(Wk.sub ⟨rfl,rfl,rfl,rfl,rfl,rfl,rfl,rfl,rfl,rfl,rfl,rfl,rfl,rfl,rfl,rfl,rfl,trivial⟩ ⟨rfl,rfl,rfl,rfl,rfl,rfl,rfl,rfl,rfl,rfl,rfl,rfl,trivial⟩)⟩
        ·have h6:¬ y.number∈conf:=of_decide_eq_false h6
         rw[if_neg (fun h=>h.elim (fun h=>h5 (by omega)) h6)]at hnx;conv=>whnf
         cases hgf:zr e.first y.number with
         | none=>
          rw[hgf]at hnx;simp only at hnx;have hpf:=zg (kd:=qG) (vd:=PAt.d) (⟨i,k⟩:PAt) hgf;refine⟨none,qs (kd:=qG) qv hgf 0,?_⟩;conv=>whnf
          refine⟨none,qs (kd:=qG) qv hgf 0,?_⟩;conv=>whnf
          have hpf2:kvV qG PAt.d e.first ++ [(i64 y.number,PAt.d ⟨i,k⟩)]=kvV qG PAt.d (jJ e.first y.number ⟨i,k⟩):=hpf
          refine qe (qb (by(try dsimp only);omega)) ?_;conv=>whnf
          subst hnx;refine⟨_,⟨hE2,hes,by simp only;omega,by simp only;omega,hmi2⟩,?_⟩;simp only;rw[<- hpf2];exact(Wk.sub ⟨rfl,rfl,rfl,rfl,rfl,rfl,rfl,rfl,rfl,rfl,rfl,rfl,rfl,rfl,rfl,rfl,rfl,trivial⟩ ⟨rfl,rfl,rfl,rfl,rfl,rfl,rfl,rfl,rfl,rfl,rfl,rfl,trivial⟩)
         | some r0=>
          rw[hgf]at hnx;simp only at hnx;obtain⟨j0,m0,c0,x0,hr0,hx0,hf0,-,hah⟩:=hE.fst _ _ hgf;obtain⟨iy,_,hy1,_⟩:=qD (kd:=qG) (vd:=PAt.d) qv hgf 0;refine⟨_,hy1,?_⟩;conv=>whnf
          subst hr0;have hml:=(List.getElem?_eq_some_iff.1 hx0.ent).1;have hjl:=(List.getElem?_eq_some_iff.1 hx0.book).1;refine qK c0.cells ⟨by show(0:Int)<=((j0:Nat):Int);omega,by show(l.books.map PBook.cells)[((j0:Nat):Int).toNat]?=_;rw[Int.toNat_natCast,List.getElem?_map,hx0.book];rfl⟩ ?_;conv=>whnf
          refine qK x0.cells ⟨by show(0:Int)<=((m0:Nat):Int);omega,by show(c0.ents.map PEnt.cells)[((m0:Nat):Int).toNat]?=_;rw[Int.toNat_natCast,List.getElem?_map,hx0.ent];rfl⟩ ?_;conv=>whnf
          have hxs:=(hR.book c0 (List.mem_of_getElem? hx0.book)).ent x0 (List.mem_of_getElem? hx0.ent);have hj0:j0<i:=by
           rcases hah with hah|⟨hji,hah⟩
           ·exact hah
           ·have hb0:=hx0.book
            rw[hji]at hb0;have hcb:c0=b:=Option.some.inj (hb0.symm.trans hx);have h7:=(hE.mine y.number).2.2 ⟨m0,hah,hcb▸hf0⟩;rw[hN]at h7;omega
          have hpj:=hI.pers.2 j0 c0 hx0.book hj0;refine qn (y.shown-x0.shown) rfl (qb (by omega)) ?_;conv=>whnf
          refine qj (fun _=>?_) (fun h=>absurd h (by
           show ¬ ((decide (0<=((j0:Nat):Int))&&decide (((j0:Nat):Int)<((x.pers.length:Nat):Int)))=false);have:=hI.pers.1;simp;omega))
          conv=>whnf
          refine jd [.vs ((jP j0 c0).map Per.cells)] (by
           show(zP x.pers)[0+((j0:Nat):Int).toNat]?=_;unfold zP;rw[Int.toNat_natCast,Nat.zero_add,List.getElem?_map,hpj];rfl) ?_
          conv=>whnf
          refine qK (Per.cells ⟨j0,(qL c0 m0:Nat)⟩) ⟨by show(0:Int)<=((m0:Nat):Int);omega,by show((jP j0 c0).map Per.cells)[((m0:Nat):Int).toNat]?=_;rw[Int.toNat_natCast,List.getElem?_map,jK hml];rfl⟩ ?_;conv=>whnf
          refine qn (-(y.shown-x0.shown)) (by omega) (qb (by omega)) ?_;conv=>whnf
          refine ql rfl ?_;conv=>whnf
          refine ql (by simp[Els.len,qu]) ?_;conv=>whnf
          refine zx (decide_eq_true (by
           show((qu ST).length+2)*40<=140737488355328;simp[qu];omega)) ?_
          conv=>whnf
          refine qe (qb (by(try dsimp only);omega)) ?_;conv=>whnf
          rw[qaP hx0 hpj,jE hx0]at hnx;subst hnx;refine⟨_,⟨hE2,hes,by simp only[List.length_append,List.length_cons,List.length_nil];omega,by simp only;omega,hmi2⟩,?_⟩;have hsc:∀ p q:zu,qu (ST ++ [p,q])=qu ST++qu [p,q]:=fun p q=>by unfold qu;rw[List.map_append]
          simp only[hsc];refine(Wk.move 174 900000 rfl rfl).trans (Wk.sub ⟨rfl,rfl,rfl,rfl,rfl,rfl,rfl,rfl,rfl,rfl,rfl,rfl,rfl,rfl,rfl,rfl,rfl,trivial⟩ ⟨rfl,rfl,rfl,?_,rfl,rfl,rfl,rfl,rfl,rfl,rfl,rfl,trivial⟩);show some (Obj.box (Cells.vv [.d (i64 l.near),.d (qS l.books),.sl 900000 5 0 ((qu ST).length+2),.sl 900001 1 0 x.pers.length,.d (i64 e.many)]))=_;simp[qu]
     ·rw[if_neg h3]at hnx
      have h1k:y.kind=1:=by omega
      have ht:zk y = .ifc 138 (.agg [.str y.word]):=by unfold zk;rw[if_pos h1k]
      rw[ht];conv=>whnf
      refine qe (qb (by(try dsimp only);omega)) ?_;conv=>whnf
      subst hnx;exact⟨_,⟨hE2,hes,by simp only;omega,by simp only;omega,fun num=>by have:=hmi num;simp only;omega⟩,(Wk.sub ⟨rfl,rfl,rfl,rfl,rfl,rfl,rfl,rfl,rfl,rfl,rfl,rfl,rfl,rfl,rfl,rfl,rfl,trivial⟩ ⟨rfl,rfl,rfl,rfl,rfl,rfl,rfl,rfl,rfl,rfl,rfl,rfl,trivial⟩)⟩
  ·rintro e ⟨hE,hes,hsl,hem,hmi⟩
   conv=>whnf
   refine qj (fun h=>absurd h (by simp)) (fun _=>?_);conv=>whnf
   refine ql rfl ?_;conv=>whnf
   refine ql (by simp[Els.len,zP]) ?_;conv=>whnf
   have hfree:(true && !qam 185 ((ze (zP x.pers) ++ [[V.sl 55 2 0 e.of.length]]).flatten))=true:=by
    rw[qds];rfl
   refine zx hfree ?_;conv=>whnf
   refine zx (decide_eq_true (by
    show((zP x.pers).length+1)*24<=140737488355328;have:=hI.pers.1;simp[zP];omega)) ?_
   conv=>whnf
   refine qcK [55,185] (by
    show zh ((ze (zP x.pers) ++ [[V.sl 55 2 0 e.of.length]]).flatten)++([185] ++ [])=_;rw[jD];rfl) ?_
   conv=>whnf
   refine qn ((i+1:Nat):Int) (by omega) (qb (by omega)) ?_;conv=>whnf
   have hes:e=ER:=hes;subst hes;have hofl:e.of.length=b.ents.length:=by rw[hE.of];simp
   refine⟨⟨e.steps,e.many,e.first,x.pers ++ [e.of]⟩,⟨by rw[<- hy]at hlk;exact hlk,by rw[<- hy]at hI2;exact hI2,by simp only;have:=hB.ents;omega,by simp only;have:=hB.ents;omega⟩,?_⟩;refine(Wk.frzArr 1 [55] 185 (sz:=1) (vs:=ze (zP x.pers) ++ [[.sl 55 2 0 e.of.length]]) (ds:=zP x.pers ++ [[.vs (zR e.of)]]) ?_ (qcJ (qeo (qy (js rfl (by simp[zR])) rfl)) _)).trans ((Wk.move 185 900001 rfl rfl).trans (Wk.sub ⟨rfl,rfl,rfl,rfl,rfl,rfl,rfl,rfl,rfl,trivial⟩ ⟨rfl,rfl,rfl,?_,rfl,?_,rfl,rfl,trivial⟩))
   ·rfl
   ·show some (Obj.box (Cells.vv [.d (i64 l.near),.d (qS l.books),.sl 900000 5 0 e.steps.length,.sl 900001 1 0 ((zP x.pers).length+1),.d (i64 e.many)]))=_
    simp[zP]
   ·show some (Obj.arr 1 (Els.dd (zP x.pers ++ [[.vs (zR e.of)]])))=_
    unfold zP zR;rw[List.map_append];rfl
 ·rintro x ⟨hlk,hI,hst,hmn⟩
  have hlk:x=RES:=hlk;subst hlk;conv=>whnf
  refine qj (fun h=>absurd h (by simp)) (fun _=>?_);conv=>whnf
  have hv:jU (qcv [(25,.box (.vv [.d (i64 l.near),.d (qS l.books),.sl 900000 5 0 x.steps.length,.sl 900001 1 0 x.pers.length,.d (i64 x.many)])),(900000,.arr 5 (.dd (qu x.steps))),(900001,.arr 1 (.dd (zP x.pers)))] 2) (.ptr 25 0)=some (qak l x):=
   qlT rfl (qcI (a:=[i64 l.near,qS l.books]) (qy (je (es':=qu x.steps) rfl rfl (by simp[qu])) (qy (je (es':=zP x.pers) rfl rfl (by simp[zP])) rfl)))
  refine qkz ((Wk.frz 2 [25,900000,900001]).trans (Wk.sub (e':=jn 0 [.d (qak l x)]) (h':=[(1000000,.arr 1 (.dd (ji conf)))]) ⟨congrArg some (quh hv),trivial⟩ ⟨rfl,trivial⟩)) rfl rfl ?_;exact qA [] [.d (qak l x)] [(1000000,.arr 1 (.dd (ji conf)))] rfl ⟨rfl,trivial⟩ rfl ⟨⟨rfl,rfl⟩,rfl⟩
theorem qyK(p:List Int)(hp:p.length<=1000):FnU Tryz.prog 88 [.sl 1000000 1 0 p.length] [(1000000,.arr 1 (.dd (ji p)))] fun v h'=>v = .d (qF p)/\h' = [(1000000,.arr 1 (.dd (ji p)))]:=by
 intro σ Y s;refine qaT mixed qm Tryz.func88 rfl (ft:=qyW) (args:=[.sl 1000000 1 0 p.length]) (show fnB qyW Tryz.f88 1=true from by decide +kernel) ?_;conv=>whnf
 refine⟨fun b hb=>?_⟩
 cases b with
 | true=>
  have hp0:p = []:=by
   cases p with
   | nil=>rfl
   | cons a r=>exact absurd (hb (by simp)) (by simp)
  subst hp0;conv=>whnf
  refine jG ?_;exact qA [] [.d (.vs [])] [(1000000,.arr 1 (.dd (ji [])))] rfl ⟨rfl,trivial⟩ rfl ⟨⟨rfl,rfl⟩,rfl⟩
 | false=>
  have hcl:(ji p).length=p.length:=by simp[ji]
  conv=>whnf
  refine ql (by simp[Els.len,ji]) ?_;conv=>whnf
  refine ql rfl ?_;conv=>whnf
  refine zx (by
   show(qcr 1 (p.map fun n=>[i64 n])&&true)=true;rw[qdq (fun x=>⟨rfl,rfl⟩)];rfl) ?_
  conv=>whnf
  refine zx (decide_eq_true (by
   show(0+(ji p).length)*8<=140737488355328;omega)) ?_
  conv=>whnf
  refine qkz ((Wk.frz 1 [7]).trans (Wk.sub (e':=jn 0 [.d (qF p)]) (h':=[(1000000,.arr 1 (.dd (ji p)))]) ⟨congrArg some (qvv (je (es':=ji p) rfl rfl (by simp[Els.len,hcl]))),trivial⟩ ⟨rfl,trivial⟩)) rfl rfl ?_;exact qA [] [.d (qF p)] [(1000000,.arr 1 (.dd (ji p)))] rfl ⟨rfl,trivial⟩ rfl ⟨⟨rfl,rfl⟩,rfl⟩
theorem qui(x:List Int):okL (qmA x).1 (qmA x).2=true:=by
 have h:qjm (.arr 1 (.dd (ji x)))=true:=by
  simp only[qjm,Els.toV];rw[zW];exact qjt _
 show(qqA (qN 1000000 64) [1000000]&&qqA (qN 1000000 64) [1000000]&&(qcH [.sl 1000000 1 0 x.length]&&(qjm (.arr 1 (.dd (ji x)))&&true)))=true;rw[h];rfl
theorem qqn(l:PLog):(jk l).length<=100:=by
 unfold jk;refine Nat.le_trans (List.length_filter_le _ _) ?_;simp
theorem qsB{of:List Int}{q:List Int}(h:q∈qir of):q.length<=of.length:=by
 unfold qir at h;obtain⟨n,hn,h⟩:=List.mem_flatMap.1 h;have:=qiD h;rw[List.mem_range'_1]at hn;omega
set_option maxHeartbeats 4000000 in
theorem qzm(l:PLog):FnV Tryz.prog 34 [l.d] (.tup [qF (qeb l).1,i64 (qeb l).2]):=by
 unfold qeb;refine qJ mixed qm Tryz.func34 rfl (ft:=qzD) 1 (by decide +kernel) (by rfl) fun {σ} Y st=>?_;conv=>whnf
 by_cases hc:qE l=0
 ·rw[if_pos hc]
  have hR:=zK hc;have hbl:=hR.books;refine qk (qev l 0 0 0 (qcb hc)) rfl rfl ?_;conv=>whnf
  refine qkw (qzk l hR Y st) [] rfl rfl rfl rfl ?_;rintro v h1 s' ⟨⟨rfl,m1,m2,hC,rfl⟩,rfl⟩;refine⟨rfl,?_⟩;conv=>whnf
  generalize hS:jk l=S;refine zI (T:=tys) qm (by exact qg mixed qm (by decide +kernel)) (α:=Nat×List Int) (fun z=>⟨[(1,.ptr 1 0),(2,.ptr 2 0),(3,.ptr 3 0),(7,.d (.mv (kvV qG qG m1))),(9,.sl 38 1 0 z.2.length),(28,.d (i64 z.1))],[(1,.box (.dd l.cells)),(2,.box (.dd [.nils])),(3,.box (.dd [i64 0])),(38,.arr 1 (.dd (ji z.2)))],s'⟩) (fun z=>z.1<=100/\z.2.length<=z.1/\z.2++(((List.range' z.1 (100-z.1)).map fun(n:Nat)=>(n:Int)).filter fun n=>decide (1<inN l n))=S) (fun z=>100-z.1) (0,[]) ?_ ⟨by simp,by simp,hS⟩ ?_
  ·exact(Wk.born 9 38 1 rfl rfl rfl).trans (Wk.sub (by repeat' first|constructor|(simp only[List.length_map];rfl)|simp[PX.get]) (by repeat' first|constructor|(simp only[List.length_map];rfl)|simp[PX.get]))
  rintro ⟨n,acc⟩ ⟨hn,hal,hacc⟩;simp only at hn hal hacc;conv=>whnf
  refine qj (fun h1=>?_) (fun h1=>?_)
  ·have h1:n<100:=by have:=of_decide_eq_true h1;simp only at this;omega
   obtain⟨m,hm1⟩:∃ m,100-n=m+1:=⟨99-n,by omega⟩;have hm2:100-(n+1)=m:=by omega
   rw[hm1,List.range'_succ,List.map_cons,List.filter_cons]at hacc;have hin:qbC m1 n=(inN l n:Nat):=hC.in' n;have hno:¬ 1<inN l n->acc++((List.range' (n+1) m).map fun(n:Nat)=>(n:Int)).filter (fun n=>decide (1<inN l n))=S:=fun h=>by rw[if_neg (by simpa using h)]at hacc;exact hacc
   conv=>whnf
   cases hg:zr m1 n with
   | none=>
    have h0:inN l n=0:=by unfold qbC at hin;rw[hg]at hin;simp only[Option.getD_none]at hin;omega
    refine⟨none,qs (kd:=qG) qv hg 0,?_⟩;conv=>whnf
    refine qn (((n+1:Nat):Int)) (by(try dsimp only);omega) (qb (by(try dsimp only);omega)) ?_;conv=>whnf
    exact⟨(n+1,acc),by simp only;omega,⟨by simp only;omega,by simp only;omega,by simp only;rw[hm2];exact hno (by omega)⟩,(Wk.sub (by repeat' first|constructor|(simp only[List.length_map];rfl)|simp[PX.get]) (by repeat' first|constructor|(simp only[List.length_map];rfl)|simp[PX.get]))⟩
   | some v=>
    have h0:(inN l n:Int)=v:=by unfold qbC at hin;rw[hg]at hin;simp only[Option.getD_some]at hin;omega
    obtain⟨ix,_,hx1,_⟩:=qD (kd:=qG) (vd:=qG) qv hg 0;refine⟨_,hx1,?_⟩;conv=>whnf
    refine qj (fun h2=>?_) (fun h2=>?_)
    ·have h2:1<v:=of_decide_eq_true h2
     rw[if_pos (by simp;omega)]at hacc;conv=>whnf
     refine ql rfl ?_;conv=>whnf
     refine ql (by simp[Els.len,ji]) ?_;conv=>whnf
     refine zx (decide_eq_true (by
      show((ji acc).length+1)*8<=140737488355328;simp[ji];omega)) ?_
     conv=>whnf
     refine qn (((n+1:Nat):Int)) (by(try dsimp only);omega) (qb (by(try dsimp only);omega)) ?_;conv=>whnf
     refine⟨(n+1,acc ++ [(n:Int)]),by simp only;omega,⟨by simp only;omega,by simp only[List.length_append,List.length_singleton];omega,by simp only;rw[hm2,List.append_assoc];exact hacc⟩,Wk.sub ⟨rfl,rfl,rfl,rfl,?_,rfl,trivial⟩ ⟨rfl,rfl,rfl,?_,trivial⟩⟩
     ·show some (V.sl 38 1 0 ((ji acc).length+1))=_
      simp[ji]
     ·show some (Obj.arr 1 (.dd (ji acc ++ [[i64 n]])))=_
      simp[ji]
    ·have h2:¬ 1<v:=of_decide_eq_false h2
     conv=>whnf
     refine qn (((n+1:Nat):Int)) (by(try dsimp only);omega) (qb (by(try dsimp only);omega)) ?_;conv=>whnf
     exact⟨(n+1,acc),by simp only;omega,⟨by simp only;omega,by simp only;omega,by simp only;rw[hm2];exact hno (by omega)⟩,(Wk.sub (by repeat' first|constructor|(simp only[List.length_map];rfl)|simp[PX.get]) (by repeat' first|constructor|(simp only[List.length_map];rfl)|simp[PX.get]))⟩
  ·have h1:¬ n<100:=by have:=of_decide_eq_false h1;simp only at this;omega
   rw[show 100-n=0 by omega]at hacc;have hacc:acc=S:=by simpa using hacc
   subst hacc;have hSl:acc.length<=100:=by rw[<- hS];exact qqn l
   conv=>whnf
   refine qdr (ds:=[qF acc]) (qAK acc) 1 [38] (qy (js rfl (by simp[ji])) rfl) rfl ?_;conv=>whnf
   refine RangeA.wk (st':=⟨[(1,.ptr 1 0),(2,.ptr 2 0),(3,.ptr 3 0),(41,.d (.clo 115 [.ref [qF acc]]))],[(1,.box (.dd l.cells)),(2,.box (.dd [.nils])),(3,.box (.dd [i64 0]))],s'⟩) (Wk.sub ⟨rfl,rfl,rfl,rfl,trivial⟩ ⟨rfl,rfl,rfl,trivial⟩) ?_;refine qnp qm (by exact qg mixed qm (by decide +kernel)) (by exact qg mixed qm (by decide +kernel)) rfl 1500000 1600000 [1,2,3] (by exact qsA acc (by omega))
    (fun(_:Unit)=>([(1500000,.box (.dd l.cells)),(1500001,.box (.dd [.nils])),(1500002,.box (.dd [i64 0]))],s'))
    (fun rest _=>(∀ p∈rest,p.length<=100)/\(qir acc).find? (jW l 0)=rest.find? (jW l 0)) () rfl rfl rfl ⟨fun p hp=>by have:=qsB hp;omega,rfl⟩ ?_ ?_
   ·rintro p rest _ ⟨hpl,he⟩ Q hQ1 hQ
    refine⟨⟨rfl,qui _⟩,?_⟩;have hp:=hpl p (by simp);rw[List.find?_cons]at he;conv=>whnf
    refine qT (qyJ l hR 0 (by omega) p (by omega)) [1600000] rfl ⟨_,_,rfl,rfl,rfl⟩ rfl ?_;conv=>whnf
    refine qk (qtP) rfl rfl ?_;conv=>whnf
    obtain⟨m,hm⟩:=qtX l hR 0 (by omega) p;refine qk (ds:=[qak l (qX l 0 p),Per.right.d]) hm rfl rfl ?_
    cases hf:jW l 0 p with
    | true=>
     rw[hf]at he;simp only at he;conv=>whnf
     refine qT (qyK p (by omega)) [1600000] rfl ⟨_,_,rfl,rfl,rfl⟩ rfl ?_;conv=>whnf
     refine⟨[(1500000,.box (.dd l.cells)),(1500001,.box (.dd [qF p])),(1500002,.box (.dd [i64 0]))],s',(Wk.sub trivial (by repeat' first|constructor|(simp only[List.length_map];rfl)|simp[PX.get])),rfl,hQ _ _ _ ?_⟩;rw[he];conv=>whnf
     exact qc 0 rfl ⟨⟨rfl,rfl⟩,rfl⟩
    | false=>
     rw[hf]at he;simp only at he;conv=>whnf
     exact⟨(),(Wk.sub trivial (by repeat' first|constructor|(simp only[List.length_map];rfl)|simp[PX.get])),rfl,hQ1 () ⟨fun q hq=>hpl q (by simp[hq]),he⟩⟩
   ·rintro _ ⟨_,he⟩
    rw[List.find?_nil]at he;rw[he];conv=>whnf
    refine jG ?_;exact qc 0 rfl ⟨⟨rfl,rfl⟩,rfl⟩
 ·rw[if_neg hc]
  refine qk (qev l _ _ _ (qcd l)) rfl rfl ?_;conv=>whnf
  generalize qE l=E at hc;refine qj (fun _=>?_) (fun h=>absurd hc (by simpa using h));conv=>whnf
  refine jG ?_;exact qc 0 rfl ⟨⟨rfl,rfl⟩,rfl⟩
end Go.PX
