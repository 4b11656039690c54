import Derived.Test.YtgpmlbbkfmkmkaaGreatDoorPxP
import Derived.Test.YtgpmlbbkfmkmkaaGreatDoorPxM
set_option linter.all false
set_option maxRecDepth 10000
namespace Go.PX
open Go.Proofs
def qpa(s:ByteArray):D:=.str s
abbrev WM:=List (Int×ByteArray)
def qlW(r:List PEnt):List PEnt:=r.filter fun y=>decide (y.kind=3)
def qph(m0:Int)(r:List PEnt):Int:=r.foldl (fun m y=>max m y.number) m0
def jd(l:List Int):List (List D):=l.map fun n=>[i64 n]
theorem qhZ{σ:Type}{l:List V}{h:Heap}{s:σ}{Q:V->Heap->σ->Prop}(n:Nat){ds:List D}(hv:zJ (qbG h n) l=some ds){d:D}(hd:relax (qgZ ds)=d)(hq:Q (.d d) [] s):RetA l h s Q:=by
 subst hd;refine⟨fun cx L F vals w hh hr=>?_⟩;have tr:=qad hh;exact⟨_,[],L,jW L F h w,hq,qjr hh,RepD.relax _ _ (qmA (qbH tr (qff hh n) l vals ds hv hr)),tr,fun _ _=>⟨rfl,rfl⟩⟩
set_option maxHeartbeats 4000000 in
theorem qpb(l:PLog):FnV Tryz.prog 37 [l.d] (.tup [qG (qng l).1,qG (qng l).2.1,i64 (qng l).2.2]):=by
 unfold qng;refine qC mixed qi Tryz.func37 rfl (ft:=ft37) 1 (by decide +kernel) (by rfl) fun {σ} Y st=>?_;conv=>whnf
 by_cases hc:qz l=0
 ·rw[if_pos hc]
  have hR:=jC hc;have hbl:=hR.books;have hlast:=qdM hc;refine qe (qdl l 0 0 0 (qbq hc)) rfl rfl ?_;conv=>whnf
  generalize hT:qaH [] (qeo l)=T;generalize hL:jQ l=L at hlast;have hT:qaH [] (qlW (l.books.flatMap PBook.ents))=T:=hT;have hL2:qph 0 (qlW (l.books.flatMap PBook.ents))=L:=hL;refine zc (T:=tys) qi (by exact qd mixed qi (by decide +kernel)) l.books (fun i (x:WM×Int)=>⟨[(1,.ptr 1 0),(2,.d .nils),(3,.d .nils),(5,.mp 27),(6,.d (i64 x.2)),(29,.d (qF l.books)),(30,.d (i64 l.books.length)),(31,.d (i64 i))],[(1,.box (.dd l.cells)),(27,.map (kvV qw qpa x.1))],st⟩) (fun i r x=>qaH x.1 (qlW (r.flatMap PBook.ents))=T/\qph x.2 (qlW (r.flatMap PBook.ents))=L/\0<=x.2/\x.2<=99) ([],0) (Wk.sub (by repeat' first|exact trivial|refine⟨?_,?_⟩|rfl|(simp only[List.length_map];rfl)|simp[PX.get]) (by repeat' first|exact trivial|refine⟨?_,?_⟩|rfl|(simp only[List.length_map];rfl)|simp[PX.get])) ⟨hT,hL2,by simp,by simp⟩ ?_ ?_
  ·rintro i b r ⟨m,last⟩ hb hi hr ⟨he1,he2,hla⟩
   have hB:=hR.book b (List.mem_of_getElem? hb);have hbe:=hB.ents;simp only at he1 he2 hla;rw[List.flatMap_cons]at he1 he2;conv=>whnf
   refine qg (fun _=>?_) (fun h=>absurd hi (by simpa using h));conv=>whnf
   refine qr hb ?_;conv=>whnf
   refine zc (T:=tys) qi (by exact qd mixed qi (by decide +kernel)) b.ents (fun k (x:WM×Int)=>⟨[(1,.ptr 1 0),(2,.d .nils),(3,.d .nils),(5,.mp 27),(6,.d (i64 x.2)),(29,.d (qF l.books)),(30,.d (i64 l.books.length)),(31,.d (i64 i)),(36,.d (qdF b.ents)),(37,.d (i64 b.ents.length)),(38,.d (i64 k))],[(1,.box (.dd l.cells)),(27,.map (kvV qw qpa x.1))],st⟩) (fun k q x=>qaH x.1 (qlW (q++r.flatMap PBook.ents))=T/\qph x.2 (qlW (q++r.flatMap PBook.ents))=L/\0<=x.2/\x.2<=99) (m,last) (Wk.sub (by repeat' first|exact trivial|refine⟨?_,?_⟩|rfl|(simp only[List.length_map];rfl)|simp[PX.get]) (by repeat' first|exact trivial|refine⟨?_,?_⟩|rfl|(simp only[List.length_map];rfl)|simp[PX.get])) ⟨he1,he2,hla⟩ ?_ ?_
   ·rintro k y q ⟨m,last⟩ hy hk hq ⟨he1,he2,hla⟩
    have hyR:=hB.ent y (List.mem_of_getElem? hy);simp only at he1 he2 hla;conv=>whnf
    refine qg (fun _=>?_) (fun h=>absurd hk (by simpa using h));conv=>whnf
    refine qr hy ?_;conv=>whnf
    refine qe (qnf y) rfl rfl ?_
    by_cases h3:y.kind=3
    ·have ht:qX y = .ifc 156 (.agg [.str y.word,i64 y.number]):=by unfold qX;rw[if_neg (by omega),if_neg (by omega),if_pos h3]
     rw[ht];have h3k:qlW (y::q++r.flatMap PBook.ents)=y::qlW (q++r.flatMap PBook.ents):=by unfold qlW;rw[List.cons_append,List.filter_cons,if_pos (by simp[h3])]
     rw[h3k]at he1 he2;rw[qaH]at he1;have he2:qph (max last y.number) (qlW (q++r.flatMap PBook.ents))=L:=he2;conv=>whnf
     cases hg:zg m y.number with
     | none=>
      rw[hg]at he1;simp only at he1;refine⟨none,ql (kd:=qw) qn hg 0,?_⟩;conv=>whnf
      refine⟨none,ql (kd:=qw) qn hg 0,?_⟩;conv=>whnf
      refine qc (qa (by(try dsimp only);omega)) ?_;conv=>whnf
      refine⟨(jf m y.number y.word,max last y.number),⟨he1,he2,by simp only;omega⟩,Wk.sub ⟨rfl,rfl,rfl,rfl,rfl,rfl,rfl,rfl,rfl,rfl,rfl,trivial⟩ ⟨rfl,?_,trivial⟩⟩;exact congrArg (fun z=>some (Obj.map z)) (qR (kd:=qw) (vd:=qpa) y.word hg)
     | some w=>
      rw[hg]at he1;simp only at he1;obtain⟨ix,_,hx1,hx2,_⟩:=qt (kd:=qw) (vd:=qpa) qn hg 0;refine⟨_,hx1,?_⟩;conv=>whnf
      by_cases hw:w=y.word
      ·rw[if_pos hw]at he1
       rw[decide_eq_true hw];conv=>whnf
       refine⟨_,hx1,?_⟩;conv=>whnf
       refine qc (qa (by(try dsimp only);omega)) ?_;conv=>whnf
       refine⟨(jf m y.number y.word,max last y.number),⟨he1,he2,by simp only;omega⟩,Wk.sub ⟨rfl,rfl,rfl,rfl,rfl,rfl,rfl,rfl,rfl,rfl,rfl,trivial⟩ ⟨rfl,?_,trivial⟩⟩;show some (Obj.map ((kvV qw qpa m).set (0+ix) (i64 y.number,.str y.word)))=_;rw[Nat.zero_add];exact congrArg (fun z=>some (Obj.map z)) (hx2 y.word)
      ·rw[if_neg hw]at he1
       subst he1;rw[decide_eq_false hw];simp only[if_true];conv=>whnf
       refine qhZ 0 rfl (d:=.tup [qG [],qG [],i64 5]) rfl ⟨⟨rfl,rfl⟩,rfl⟩
    ·have h3k:qlW (y::q++r.flatMap PBook.ents)=qlW (q++r.flatMap PBook.ents):=by unfold qlW;rw[List.cons_append,List.filter_cons,if_neg (by simp[h3])]
     rw[h3k]at he1 he2
     by_cases h2:y.kind=2
     ·have ht:qX y = .ifc 175 (.agg []):=by unfold qX;rw[if_neg (by omega),if_pos h2]
      rw[ht];conv=>whnf
      refine qc (qa (by(try dsimp only);omega)) ?_;conv=>whnf
      exact⟨(m,last),⟨he1,he2,hla⟩,(Wk.sub (by repeat' first|exact trivial|refine⟨?_,?_⟩|rfl|(simp only[List.length_map];rfl)|simp[PX.get]) (by repeat' first|exact trivial|refine⟨?_,?_⟩|rfl|(simp only[List.length_map];rfl)|simp[PX.get]))⟩
     ·have ht:qX y = .ifc 138 (.agg [.str y.word]):=by unfold qX;rw[if_pos (by omega)]
      rw[ht];conv=>whnf
      refine qc (qa (by(try dsimp only);omega)) ?_;conv=>whnf
      exact⟨(m,last),⟨he1,he2,hla⟩,(Wk.sub (by repeat' first|exact trivial|refine⟨?_,?_⟩|rfl|(simp only[List.length_map];rfl)|simp[PX.get]) (by repeat' first|exact trivial|refine⟨?_,?_⟩|rfl|(simp only[List.length_map];rfl)|simp[PX.get]))⟩
   ·rintro ⟨m,last⟩ ⟨he1,he2,hla⟩
    simp only at he1 he2 hla;rw[List.nil_append]at he1 he2;conv=>whnf
    refine qg (fun h=>absurd h (by simp)) (fun _=>?_);conv=>whnf
    refine qc (qa (by(try dsimp only);omega)) ?_;conv=>whnf
    exact⟨(m,last),⟨he1,he2,hla⟩,(Wk.sub (by repeat' first|exact trivial|refine⟨?_,?_⟩|rfl|(simp only[List.length_map];rfl)|simp[PX.get]) (by repeat' first|exact trivial|refine⟨?_,?_⟩|rfl|(simp only[List.length_map];rfl)|simp[PX.get]))⟩
  ·rintro ⟨m,last⟩ ⟨he1,he2,hla⟩
   have he1:false=T:=he1;have he2:last=L:=he2;subst he1;subst he2;simp only[Bool.false_eq_true,if_false];conv=>whnf
   refine qg (fun h=>absurd h (by simp)) (fun _=>?_);conv=>whnf
   refine qiv (qqb l hR Y st) [] rfl rfl rfl rfl ?_;rintro v h1 s' ⟨⟨rfl,m1,m2,hC,rfl⟩,rfl⟩;refine⟨rfl,?_⟩;conv=>whnf
   have hin:∀ n,qaS m1 n=(inN l n:Nat):=hC.in';have hmost:∀ n,qaS m2 n=(qnt l n:Nat):=hC.most;unfold qep qgJ;rw[hL];generalize hMS:((List.range' 1 last.toNat).map fun(n:Nat)=>(n:Int)).filter (fun n=>decide (inN l n=0))=MS;generalize hCP:((List.range' 1 last.toNat).map fun(n:Nat)=>(n:Int)).filter (fun n=>decide (inN l n≠0)&&decide (1<qnt l n))=CP;have hln:(last.toNat:Int)=last:=by omega
   refine zt (T:=tys) qi (by exact qd mixed qi (by decide +kernel)) (α:=Nat×(List Int×List Int)) (fun z=>⟨[(2,.sl 93 1 0 z.2.1.length),(3,.sl 102 1 0 z.2.2.length),(6,.d (i64 last)),(15,.d (.mv (kvV qw qw m1))),(16,.d (.mv (kvV qw qw m2))),(17,.d (i64 z.1))],[(93,.arr 1 (.dd (jd z.2.1))),(102,.arr 1 (.dd (jd z.2.2)))],s'⟩)
    (fun z=>1<=z.1/\z.1<=last.toNat+1/\z.2.1.length<=z.1/\z.2.2.length<=z.1/\z.2.1++((List.range' z.1 (last.toNat+1-z.1)).map fun(n:Nat)=>(n:Int)).filter (fun n=>decide (inN l n=0))=MS/\z.2.2++((List.range' z.1 (last.toNat+1-z.1)).map fun(n:Nat)=>(n:Int)).filter (fun n=>decide (inN l n≠0)&&decide (1<qnt l n))=CP) (fun z=>last.toNat+1-z.1) (1,([],[])) ?_ ⟨by simp,by simp,by simp,by simp,hMS,hCP⟩ ?_
   ·exact(Wk.born 2 93 1 rfl rfl rfl).trans ((Wk.born 3 102 1 rfl rfl rfl).trans (Wk.sub (by repeat' first|exact trivial|refine⟨?_,?_⟩|rfl|(simp only[List.length_map];rfl)|simp[PX.get]) (by repeat' first|exact trivial|refine⟨?_,?_⟩|rfl|(simp only[List.length_map];rfl)|simp[PX.get])))
   rintro ⟨n,a,c⟩ ⟨hn1,hn2,ha,hcl,hMS,hCP⟩;simp only at hn1 hn2 ha hcl hMS hCP;conv=>whnf
   refine qg (fun h1=>?_) (fun h1=>?_)
   ·have h1:n<last.toNat+1:=by have:=of_decide_eq_true h1;simp only at this;omega
    obtain⟨k,hk1⟩:∃ k,last.toNat+1-n=k+1:=⟨last.toNat-n,by omega⟩;have hk2:last.toNat+1-(n+1)=k:=by omega
    rw[hk1,List.range'_succ,List.map_cons,List.filter_cons]at hMS hCP;conv=>whnf
    have hi1:=hin n;have hi2:=hmost n
    cases hg1:zg m1 n with
    | none=>
     unfold qaS at hi1;rw[hg1]at hi1;simp only[Option.getD_none]at hi1;refine⟨none,ql (kd:=qw) qn hg1 0,?_⟩;rw[if_pos (by simp;omega)]at hMS;rw[if_neg (by simp;omega)]at hCP;conv=>whnf
     refine qf rfl ?_;conv=>whnf
     refine qf (by simp[Els.len,jd]) ?_;conv=>whnf
     refine zo (decide_eq_true (by
      show((jd a).length+1)*8<=140737488355328;simp[jd];omega)) ?_
     conv=>whnf
     refine qh (((n+1:Nat):Int)) (by(try dsimp only);omega) (qa (by(try dsimp only);omega)) ?_;conv=>whnf
     refine⟨(n+1,(a ++ [(n:Int)],c)),by simp only;omega,⟨by simp only;omega,by simp only;omega,by simp only[List.length_append,List.length_singleton];omega,by simp only;omega,by simp only;rw[hk2,List.append_assoc];exact hMS,by simp only;rw[hk2];exact hCP⟩,Wk.sub ⟨?_,rfl,rfl,rfl,rfl,rfl,trivial⟩ ⟨?_,rfl,trivial⟩⟩
     ·show some (V.sl 93 1 0 ((jd a).length+1))=_
      simp[jd]
     ·show some (Obj.arr 1 (.dd (jd a ++ [[i64 n]])))=_
      simp[jd]
    | some v1=>
     unfold qaS at hi1;rw[hg1]at hi1;simp only[Option.getD_some]at hi1;obtain⟨ix,_,hx1,_⟩:=qt (kd:=qw) (vd:=qw) qn hg1 0;refine⟨_,hx1,?_⟩;conv=>whnf
     refine qg (fun h2=>?_) (fun h2=>?_)
     ·have h2:v1=0:=of_decide_eq_true h2
      rw[if_pos (by simp;omega)]at hMS;rw[if_neg (by simp;omega)]at hCP;conv=>whnf
      refine qf rfl ?_;conv=>whnf
      refine qf (by simp[Els.len,jd]) ?_;conv=>whnf
      refine zo (decide_eq_true (by
       show((jd a).length+1)*8<=140737488355328;simp[jd];omega)) ?_
      conv=>whnf
      refine qh (((n+1:Nat):Int)) (by(try dsimp only);omega) (qa (by(try dsimp only);omega)) ?_;conv=>whnf
      refine⟨(n+1,(a ++ [(n:Int)],c)),by simp only;omega,⟨by simp only;omega,by simp only;omega,by simp only[List.length_append,List.length_singleton];omega,by simp only;omega,by simp only;rw[hk2,List.append_assoc];exact hMS,by simp only;rw[hk2];exact hCP⟩,Wk.sub ⟨?_,rfl,rfl,rfl,rfl,rfl,trivial⟩ ⟨?_,rfl,trivial⟩⟩
      ·show some (V.sl 93 1 0 ((jd a).length+1))=_
       simp[jd]
      ·show some (Obj.arr 1 (.dd (jd a ++ [[i64 n]])))=_
       simp[jd]
     ·have h2:¬ v1=0:=of_decide_eq_false h2
      conv=>whnf
      cases hg2:zg m2 n with
      | none=>
       unfold qaS at hi2;rw[hg2]at hi2;simp only[Option.getD_none]at hi2;refine⟨none,ql (kd:=qw) qn hg2 0,?_⟩;rw[if_neg (by simp;omega)]at hMS;rw[if_neg (by simp;omega)]at hCP;conv=>whnf
       refine qh (((n+1:Nat):Int)) (by(try dsimp only);omega) (qa (by(try dsimp only);omega)) ?_;conv=>whnf
       exact⟨(n+1,(a,c)),by simp only;omega,⟨by simp only;omega,by simp only;omega,by simp only;omega,by simp only;omega,by simp only;rw[hk2];exact hMS,by simp only;rw[hk2];exact hCP⟩,(Wk.sub (by repeat' first|exact trivial|refine⟨?_,?_⟩|rfl|(simp only[List.length_map];rfl)|simp[PX.get]) (by repeat' first|exact trivial|refine⟨?_,?_⟩|rfl|(simp only[List.length_map];rfl)|simp[PX.get]))⟩
      | some v2=>
       unfold qaS at hi2;rw[hg2]at hi2;simp only[Option.getD_some]at hi2;obtain⟨iy,_,hy1,_⟩:=qt (kd:=qw) (vd:=qw) qn hg2 0;refine⟨_,hy1,?_⟩;conv=>whnf
       refine qg (fun h3=>?_) (fun h3=>?_)
       ·have h3:1<v2:=of_decide_eq_true h3
        rw[if_neg (by simp;omega)]at hMS;rw[if_pos (by simp;omega)]at hCP;conv=>whnf
        refine qf rfl ?_;conv=>whnf
        refine qf (by simp[Els.len,jd]) ?_;conv=>whnf
        refine zo (decide_eq_true (by
         show((jd c).length+1)*8<=140737488355328;simp[jd];omega)) ?_
        conv=>whnf
        refine qh (((n+1:Nat):Int)) (by(try dsimp only);omega) (qa (by(try dsimp only);omega)) ?_;conv=>whnf
        refine⟨(n+1,(a,c ++ [(n:Int)])),by simp only;omega,⟨by simp only;omega,by simp only;omega,by simp only;omega,by simp only[List.length_append,List.length_singleton];omega,by simp only;rw[hk2];exact hMS,by simp only;rw[hk2,List.append_assoc];exact hCP⟩,Wk.sub ⟨rfl,?_,rfl,rfl,rfl,rfl,trivial⟩ ⟨rfl,?_,trivial⟩⟩
        ·show some (V.sl 102 1 0 ((jd c).length+1))=_
         simp[jd]
        ·show some (Obj.arr 1 (.dd (jd c ++ [[i64 n]])))=_
         simp[jd]
       ·have h3:¬ 1<v2:=of_decide_eq_false h3
        rw[if_neg (by simp;omega)]at hMS;rw[if_neg (by simp;omega)]at hCP;conv=>whnf
        refine qh (((n+1:Nat):Int)) (by(try dsimp only);omega) (qa (by(try dsimp only);omega)) ?_;conv=>whnf
        exact⟨(n+1,(a,c)),by simp only;omega,⟨by simp only;omega,by simp only;omega,by simp only;omega,by simp only;omega,by simp only;rw[hk2];exact hMS,by simp only;rw[hk2];exact hCP⟩,(Wk.sub (by repeat' first|exact trivial|refine⟨?_,?_⟩|rfl|(simp only[List.length_map];rfl)|simp[PX.get]) (by repeat' first|exact trivial|refine⟨?_,?_⟩|rfl|(simp only[List.length_map];rfl)|simp[PX.get]))⟩
   ·have h1:¬ n<last.toNat+1:=by have:=of_decide_eq_false h1;simp only at this;omega
    rw[show last.toNat+1-n=0 by omega]at hMS hCP;have hMS:a=MS:=by simpa using hMS
    have hCP:c=CP:=by simpa using hCP
    subst hMS;subst hCP;conv=>whnf
    refine qb 1 (ds:=[qG a,qG c,i64 0]) (qx (zQ rfl (by simp[jd])) (qx (zQ rfl (by simp[jd])) rfl)) ⟨⟨rfl,rfl⟩,rfl⟩
 ·rw[if_neg hc]
  refine qe (qdl l _ _ _ (qbs l)) rfl rfl ?_;conv=>whnf
  generalize qz l=E at hc;refine qg (fun _=>?_) (fun h=>absurd hc (by simpa using h));conv=>whnf
  refine qhZ 0 rfl (d:=.tup [qG [],qG [],i64 E]) rfl ⟨⟨rfl,rfl⟩,rfl⟩
end Go.PX
namespace Go.PX
open Go.Proofs
def zG(l:List Int):List (List D):=l.map fun n=>[i64 n]
def qjW(p:List Int):List V×Heap:=([.sl 1000000 1 0 p.length],[(1000000,.arr 1 (.dd (zG p)))])
def lsCaps(of:List Int):List V:=[.ptr 1000000 0,.ptr 1000001 0,.d (.ref [qG of]),.ptr 1000002 0]
def qnd(of:List Int)(start left:Nat):List V:=[.d (i64 start),.d (i64 left),.ptr 1000000 0,.ptr 1000001 0,.d (.ref [qG of]),.ptr 1000002 0]
def lsH(of:List Int)(k n:Nat)(p:List Int):Heap:=
 [(1000000,.box (.vv [.yld])),(1000001,.box (.vv [.sl k 1 0 n])),(1000002,.box (.vv [.clo 116 (lsCaps of)])),(k,.arr 1 (.dd (zG p)))]
def qny(of:List Int)(left:Nat):Prop:=
 ∀ (start:Nat) (p:List Int),left<=of.length->p.length+left<=of.length->start<=of.length -> ∀ {σ:Type} (Y:Hd σ) (s0:σ) (rest:List (List V×Heap)) (Q:σ->Prop),
  iterate Y.np ((qcv of left p start).map qjW++rest) s0 Q->FnC Tryz.prog Y 116 (qnd of start left) (lsH of 1000003 p.length p) s0 fun v h' s'=>
   ∃ q,h'=lsH of 2000000 q.length q/\((v = .d (.bool true)/\q=p/\iterate Y.np rest s' Q)\/(v = .d (.bool false)/\Q s'))
theorem lfill_zero{of:List Int}(hof:of.length<=1000):qny of 0:=by
 intro start p hl hp hst σ Y s0 rest Q hit;refine qan mixed qi Tryz.func116 rfl (ft:=qnm) (args:=qnd of start 0) (show fnB qnm Tryz.f116 6=true from by decide +kernel) ?_;generalize Y.np=Y at hit ⊢;have hgl:qcv of 0 p start = [p]:=rfl;rw[hgl]at hit;conv=>whnf
 refine YldA_y [1000003] (args0:=(qjW p).1) (h0:=(qjW p).2) hit rfl ⟨_,_,rfl,rfl,rfl⟩ rfl rfl ?_;rintro v h1 s' ⟨rfl,hv⟩
 rcases hv with⟨rfl,hi⟩ | ⟨rfl,hq⟩
 ·refine⟨rfl,?_⟩
  conv=>whnf
  refine qq [1000003] [.d (.bool true)] (lsH of 2000000 p.length p) rfl ⟨rfl,rfl,rfl,rfl,trivial⟩ rfl ?_;exact⟨p,rfl,.inl ⟨rfl,rfl,hi⟩⟩
 ·refine⟨rfl,?_⟩
  conv=>whnf
  refine qq [1000003] [.d (.bool false)] (lsH of 2000000 p.length p) rfl ⟨rfl,rfl,rfl,rfl,trivial⟩ rfl ?_;exact⟨p,rfl,.inr ⟨rfl,hq⟩⟩
theorem lfill_succ{of:List Int}(hof:of.length<=1000){left:Nat}(ihl:qny of left):qny of (left+1):=by
 intro start p hl hp hst σ Y s0 rest Q hit;refine qan mixed qi Tryz.func116 rfl (ft:=qnm) (args:=qnd of start (left+1)) (show fnB qnm Tryz.f116 6=true from by decide +kernel) ?_;generalize Y.np=Y at hit ⊢;have hcl:(zG p).length=p.length:=by simp[zG]
 have hgl:qcv of (left+1) p start=(List.range' start (of.length-left-start)).flatMap fun(i:Nat)=>qcv of left (p ++ [(of[i]?).getD 0]) (i+1):=rfl;rw[hgl]at hit;conv=>whnf
 refine zt (T:=tys) qi (by exact qd mixed qi (by decide +kernel)) (α:=Nat×σ)
  (fun x=>⟨[(1,.d (i64 (left+1:Nat))),(2,.ptr 1000000 0),(3,.ptr 1000001 0),(4,.d (.ref [qG of])),(5,.ptr 1000002 0),(9,.d (i64 x.1))],lsH of 900000 p.length p,x.2⟩)
  (fun x=>x.1<=of.length/\iterate Y (((List.range' x.1 (of.length-left-x.1)).flatMap fun(i:Nat)=>qcv of left (p ++ [(of[i]?).getD 0]) (i+1)).map qjW++rest) x.2 Q) (fun x=>of.length-x.1) (start,s0)
  ((Wk.move 1000003 900000 rfl rfl).trans (Wk.sub ⟨rfl,rfl,rfl,rfl,rfl,rfl,trivial⟩ ⟨rfl,rfl,rfl,rfl,trivial⟩)) ⟨hst,hit⟩ ?_
 clear hit hst s0;rintro ⟨i,s0⟩ ⟨hi,hit⟩;simp only at hi hit;conv=>whnf
 refine qh ((of.length:Int)-(left+1:Nat)) (by simp) (qa (by omega)) ?_;conv=>whnf
 refine qg (fun h1=>?_) (fun h1=>?_)
 ·have h1:i<=of.length-(left+1):=by have:=of_decide_eq_true h1;simp at this;omega
  have hil:i<of.length:=by omega
  obtain⟨m,hm1⟩:∃ m,of.length-left-i=m+1:=⟨of.length-left-i-1,by omega⟩;have hoi:(of[i]?).getD 0=of[i]:=by rw[List.getElem?_eq_getElem hil];rfl
  rw[hm1,List.range'_succ,List.flatMap_cons,List.map_append,List.append_assoc,hoi]at hit;conv=>whnf
  refine qA [i64 of[i]] ⟨by omega,by rw[Int.toNat_natCast,List.getElem?_map,List.getElem?_eq_getElem hil];rfl⟩ ?_;conv=>whnf
  refine qf rfl ?_;conv=>whnf
  refine ownK.mk (by simp[Els.len,hcl]) ?_;conv=>whnf
  refine zo (by simp[Els.len,Els.part,hcl];omega) ?_;conv=>whnf
  refine qh (((i+1:Nat):Int)) (by(try dsimp only);omega) (qa (by(try dsimp only);omega)) ?_;conv=>whnf
  refine qh (((left:Nat):Int)) (by(try dsimp only);omega) (qa (by(try dsimp only);omega)) ?_;conv=>whnf
  have ih:=ihl (i+1) (p ++ [of[i]]) (by omega) (by simp;omega) (by omega) Y s0 _ Q hit.np;refine qiv ih [1000000,1000001,1000002,30] rfl ⟨_,_,rfl,rfl,_,_,rfl,(by
    show some (Obj.box (Cells.vv [V.sl 30 1 0 ((((zG p).drop 0).take p.length).length+1)]))=some (Obj.box (Cells.vv [V.sl 30 1 0 (p ++ [of[i]]).length]));simp[zG]),_,_,rfl,rfl,_,_,rfl,(by
    show some (Obj.arr 1 (Els.dd ((((zG p).drop 0).take p.length) ++ [[i64 of[i]]])))=some (Obj.arr 1 (Els.dd (zG (p ++ [of[i]]))));simp[zG,List.take_of_length_le]),rfl⟩ rfl rfl ?_
  rintro v h1 s' ⟨q,rfl,hpost⟩;rw[qdf]at hpost
  rcases hpost with⟨rfl,rfl,hi2⟩ | ⟨rfl,hq⟩
  ·refine⟨rfl,?_⟩
   conv=>whnf
   refine qh (p.length:Int) (by simp) (qa (by omega)) ?_;conv=>whnf
   refine zo (by simp;omega) ?_;conv=>whnf
   refine qh (((i+1:Nat):Int)) (by(try dsimp only);omega) (qa (by(try dsimp only);omega)) ?_;conv=>whnf
   have hm2:of.length-left-(i+1)=m:=by omega
   refine⟨(i+1,s'),by simp only;omega,⟨by simp only;omega,by simp only;rw[hm2];exact hi2⟩,(Wk.move 102304 900000 rfl rfl).trans ((Wk.shrink 900000 p.length rfl).trans ?_)⟩;have hsh:(zG (p ++ [of[i]])).take p.length=zG p:=by simp[zG,List.take_left']
   refine Wk.sub ⟨rfl,rfl,rfl,rfl,rfl,rfl,trivial⟩ ⟨rfl,?_,?_,?_,trivial⟩
   ·rfl
   ·exact zw rfl ⟨⟨rfl,⟨rfl,rfl⟩,⟨rfl,rfl⟩,rfl,⟨rfl,rfl⟩,trivial⟩,trivial⟩
   ·show some (Obj.arr 1 (Els.dd ((zG (p ++ [of[i]])).take p.length)))=_
    rw[hsh]
  ·refine⟨rfl,?_⟩
   conv=>whnf
   refine qq [102304] [.d (.bool false)] (lsH of 2000000 q.length q) rfl ⟨rfl,zw rfl ⟨⟨rfl,rfl,rfl,rfl⟩,trivial⟩,zw rfl ⟨⟨rfl,⟨rfl,rfl⟩,⟨rfl,rfl⟩,rfl,⟨rfl,rfl⟩,trivial⟩,trivial⟩,rfl,trivial⟩ rfl ?_;exact⟨q,rfl,.inr ⟨rfl,hq⟩⟩
 ·have h1:¬ (i:Int)<=(of.length:Int)-((left+1:Nat):Int):=of_decide_eq_false h1
  rw[show of.length-left-i=0 by omega]at hit;conv=>whnf
  refine qq [900000] [.d (.bool true)] (lsH of 2000000 p.length p) rfl ⟨rfl,zw rfl ⟨⟨rfl,rfl,rfl,rfl⟩,trivial⟩,zw rfl ⟨⟨rfl,⟨rfl,rfl⟩,⟨rfl,rfl⟩,rfl,⟨rfl,rfl⟩,trivial⟩,trivial⟩,rfl,trivial⟩ rfl ?_;exact⟨p,rfl,.inl ⟨rfl,rfl,hit⟩⟩
theorem lfill{of:List Int}(hof:of.length<=1000)(left:Nat):qny of left:=by
 induction left with
 | zero=>exact lfill_zero hof
 | succ n ih=>exact lfill_succ hof ih
theorem pa87(of:List Int):FnV Tryz.prog 87 [qG of] (.clo 115 [.ref [qG of]]):=by
 refine qC mixed qi Tryz.func87 rfl (ft:=ft87) 1 (by decide +kernel) (by rfl) fun {σ} Y st=>?_;conv=>whnf
 exact qb 1 rfl ⟨⟨rfl,rfl⟩,rfl⟩
theorem yields115(of:List Int)(hof:of.length<=1000):Yields Tryz.prog 115 [.ref [qG of]] ((qjJ of).map qjW):=by
 intro γ Y g0 Q hit;refine qan mixed qi Tryz.func115 rfl (ft:=qoF) (args:=[.yld,.d (.ref [qG of])]) (show fnB qoF Tryz.f115 2=true from by decide +kernel) ?_;replace hit:=hit.np;generalize Y.np=Y at hit ⊢;conv=>whnf
 refine qh ((of.length+1:Nat):Int) (by simp) (qa (by omega)) ?_;conv=>whnf
 refine zt (T:=tys) qi (by exact qd mixed qi (by decide +kernel)) (α:=Nat×γ)
  (fun x=>⟨[(1,.d (.ref [qG of])),(2,.ptr 2 0),(3,.ptr 3 0),(4,.ptr 4 0),(9,.d (i64 (of.length+1:Nat))),(10,.d (i64 x.1))],[(2,.box (.vv [.yld])),(3,.box (.vv [.sl 900000 1 0 0])),(4,.box (.vv [.clo 116 [.ptr 2 0,.ptr 3 0,.d (.ref [qG of]),.ptr 4 0]])),(900000,.arr 1 (.dd []))],x.2⟩)
  (fun x=>x.1<=of.length+1/\iterate Y (((List.range' x.1 (of.length+1-x.1)).flatMap fun(n:Nat)=>qcv of n [] 0).map qjW) x.2 Q) (fun x=>of.length+1-x.1) (0,g0)
  ((Wk.bornBox 3 900000 1 rfl rfl rfl rfl).trans (Wk.sub ⟨rfl,rfl,rfl,rfl,rfl,rfl,trivial⟩ ⟨rfl,rfl,rfl,rfl,trivial⟩)) ⟨Nat.zero_le _,hit⟩ ?_
 clear hit g0;rintro ⟨n,g0⟩ ⟨hn,hit⟩;simp only at hn hit;conv=>whnf
 refine qg (fun h1=>?_) (fun h1=>?_)
 ·have h1:n<of.length+1:=by have:=of_decide_eq_true h1;simp only at this;omega
  obtain⟨m,hm1⟩:∃ m,of.length+1-n=m+1:=⟨of.length-n,by omega⟩;rw[hm1,List.range'_succ,List.flatMap_cons,List.map_append]at hit;conv=>whnf
  refine qiv (lfill hof n 0 [] (by omega) (by simp;omega) (by omega) Y g0 _ Q hit.np) [2,3,4,900000] rfl ⟨_,_,rfl,rfl,_,_,rfl,rfl,_,_,rfl,rfl,_,_,rfl,rfl,rfl⟩ rfl rfl ?_;rintro v h1 s' ⟨q,rfl,hpost⟩;rw[qdf]at hpost
  rcases hpost with⟨rfl,rfl,hi2⟩ | ⟨rfl,hq⟩
  ·refine⟨rfl,?_⟩
   conv=>whnf
   refine qh (((n+1:Nat):Int)) (by(try dsimp only);omega) (qa (by(try dsimp only);omega)) ?_;conv=>whnf
   have hm2:of.length+1-(n+1)=m:=by omega
   exact⟨(n+1,s'),by simp only;omega,⟨by simp only;omega,by simp only;rw[hm2];exact hi2⟩,(Wk.move 100960 900000 rfl rfl).trans (Wk.sub ⟨rfl,rfl,rfl,rfl,rfl,rfl,trivial⟩ ⟨rfl,rfl,rfl,rfl,trivial⟩)⟩
  ·refine⟨rfl,?_⟩
   conv=>whnf
   exact qb 0 rfl ⟨rfl,hq⟩
 ·have h1:¬ n<of.length+1:=by have:=of_decide_eq_false h1;simp only at this;omega
  rw[show of.length+1-n=0 by omega]at hit;conv=>whnf
  exact qb 0 rfl ⟨rfl,hit⟩
end Go.PX
namespace Go.PX
open Go.Proofs
theorem repl_ptr{g:Nat->Option DO}{i o:Nat}{d:D}(hv:ji g (.ptr i o)=some d):repl g (.ptr i o) = .d d:=by
 simp[repl,hv]
set_option maxHeartbeats 4000000 in
theorem pa68o(l:PLog)(hR:LogR l)(wider:Int)(hw:0<=wider/\wider<=1048576)(conf:List Int)(hc:conf.length<1000000):FnU Tryz.prog 68 [.d l.d,.d (i64 wider),.sl 1000000 1 0 conf.length] [(1000000,.arr 1 (.dd (zG conf)))] fun v h'=>v = .d (jB l (zf l wider conf))/\h' = [(1000000,.arr 1 (.dd (zG conf)))]:=by
 intro σ Y st;refine qan mixed qi Tryz.func68 rfl (ft:=qpy) (args:=[.d l.d,.d (i64 wider),.sl 1000000 1 0 conf.length]) (show fnB qpy Tryz.f68 3=true from by decide +kernel) ?_;conv=>whnf
 have hbl:=hR.books;unfold zf;generalize hRES:qdH l wider conf 0 l.books ⟨[],0,[],[]⟩=RES;have hL0:LInv l wider conf 0 ⟨[],0,[],[]⟩:=⟨⟨rfl,fun j c _ hj=>absurd hj (Nat.not_lt_zero j)⟩,fun num r hr=>(by cases hr),fun j m c y num _ _ _ hj=>absurd hj (Nat.not_lt_zero j),fun e he=>(by cases he),fun j c _ hj=>absurd hj (Nat.not_lt_zero j),fun j c n _ _ hj=>absurd hj (Nat.not_lt_zero j),fun j m c x z _ _ hj=>absurd hj (Nat.not_lt_zero j)⟩;refine zc (T:=tys) qi (by exact qd mixed qi (by decide +kernel)) l.books (fun i (x:LkS)=>⟨[(2,.sl 1000000 1 0 conf.length),(3,.ptr 3 0),(4,.ptr 4 0),(7,.ptr 7 0),(8,.mp 26),(9,.clo 112 [.ptr 7 0,.ptr 4 0]),(29,.d (qF l.books)),(30,.d (i64 l.books.length)),(31,.d (i64 i))],[(3,.box (.dd l.cells)),(4,.box (.dd [i64 wider])),(7,.box (.vv [.ptr 25 0])),(25,.box (.vv [.d (i64 l.near),.d (qF l.books),.sl 900000 5 0 x.steps.length,.sl 900001 1 0 x.pers.length,.d (i64 x.many)])),(900000,.arr 5 (.dd (qm x.steps))),(900001,.arr 1 (.dd (zr x.pers))),(26,.map (kvV qw PAt.d x.first)),(1000000,.arr 1 (.dd (zG conf)))],st⟩)
  (fun i r x=>qdH l wider conf i r x=RES/\LInv l wider conf i x/\x.steps.length<=26*i/\(0<=x.many/\x.many<=9*i)) ⟨[],0,[],[]⟩ ?wk ⟨hRES,hL0,by simp,by simp⟩ ?_ ?_
 case wk=>
  refine(Wk.bornAtD 25 900000 5 [i64 l.near,qF l.books] [.nils,i64 0] rfl rfl rfl rfl rfl).trans ((Wk.bornAt 25 900001 1 [.d (i64 l.near),.d (qF l.books),.sl 900000 5 0 0] [.d (i64 0)] rfl rfl rfl rfl).trans (Wk.sub (by repeat' first|exact trivial|refine⟨?_,?_⟩|rfl|(simp only[List.length_map];rfl)|simp[PX.get]) (by repeat' first|exact trivial|refine⟨?_,?_⟩|rfl|(simp only[List.length_map];rfl)|simp[PX.get])))
 ·rintro i b r x hx hi hr2 ⟨hlk,hI,hst,hmn⟩
  rw[qdH]at hlk;have hB:=hR.book b (List.mem_of_getElem? hx);have hI2:=qiz hx hI;generalize hy:qgC l wider conf i b x=y at hlk hI2;unfold qgC at hy;conv=>whnf
  refine qg (fun _=>?_) (fun h=>absurd hi (by simpa using h));conv=>whnf
  refine qr hx ?_;conv=>whnf
  refine qJ (qlT l wider hw x.steps (by omega) x.pers x.many (by omega) ⟨i,0⟩ b.off hB.off) [7,4,25,900000,900001] rfl ?lent rfl ?_
  case lent=>exact⟨_,_,rfl,zw rfl ⟨⟨rfl,rfl⟩,trivial⟩,_,_,rfl,rfl,_,_,rfl,zw rfl ⟨rfl,rfl,⟨rfl,rfl,rfl,rfl⟩,⟨rfl,rfl,rfl,rfl⟩,rfl,trivial⟩,_,_,rfl,rfl,_,_,rfl,rfl,rfl⟩
  conv=>whnf
  have hE0:=qjO hx hI;generalize hER:qdG l wider conf i b x.pers 0 b.ents ⟨x.steps++jp wider ⟨i,0⟩ b.off,x.many+1,x.first,⟨i,0⟩,[],[]⟩=ER at hy;simp only at hy;refine zc (T:=tys) qi (by exact qd mixed qi (by decide +kernel)) b.ents (fun k (e:LkE)=>⟨[(2,.sl 1000000 1 0 conf.length),(3,.ptr 3 0),(4,.ptr 4 0),(7,.ptr 7 0),(8,.mp 26),(9,.clo 112 [.ptr 7 0,.ptr 4 0]),(29,.d (qF l.books)),(30,.d (i64 l.books.length)),(31,.d (i64 i)),(10,.d (i64 i)),(11,.ptr 11 0),(12,.ptr 12 0),(13,.sl 55 2 0 e.of.length),(14,.mp 43),(45,.d (qdF b.ents)),(46,.d (i64 b.ents.length)),(47,.d (i64 k))],[(3,.box (.dd l.cells)),(4,.box (.dd [i64 wider])),(7,.box (.vv [.ptr 25 0])),(25,.box (.vv [.d (i64 l.near),.d (qF l.books),.sl 900000 5 0 e.steps.length,.sl 900001 1 0 x.pers.length,.d (i64 e.many)])),(900000,.arr 5 (.dd (qm e.steps))),(900001,.arr 1 (.dd (zr x.pers))),(26,.map (kvV qw PAt.d e.first)),(11,.box (.dd b.cells)),(12,.box (.dd e.now.cells)),(43,.map (kvV qw qw e.mine)),(55,.arr 2 (.dd (zu e.of))),(1000000,.arr 1 (.dd (zG conf)))],st⟩)
   (fun k r e=>EInv l wider conf i k b x.pers e/\qdG l wider conf i b x.pers k r e=ER/\e.steps.length<=26*i+2+3*k/\(0<=e.many/\e.many<=9*i+1+k) /\ ∀ num,(zg e.mine num).getD 0<=k) ⟨x.steps++jp wider ⟨i,0⟩ b.off,x.many+1,x.first,⟨i,0⟩,[],[]⟩ ?wk2 ⟨hE0,hER,by simp[jp];omega,by simp only;omega,fun num=>by show(0:Int)<=_;omega⟩ ?_ ?_
  case wk2=>
   refine(Wk.born 13 55 2 rfl rfl rfl).trans ((Wk.move 102688 900000 rfl rfl).trans (Wk.sub (by repeat' first|exact trivial|refine⟨?_,?_⟩|rfl|(simp only[List.length_map];rfl)|simp[PX.get]) (by repeat' first|exact trivial|refine⟨?_,?_⟩|rfl|(simp only[List.length_map];rfl)|simp[PX.get])))
  ·rintro k y r e hyk hk hr3 ⟨hE,hes,hsl,hem,hmi⟩
   rw[qdG]at hes;have hE2:=qks hI.pers.2 hx hyk hE;generalize hnx:qmb l wider conf i b x.pers k y e=e2 at hes hE2;unfold qmb at hnx;simp only at hnx;have hK2:=qoc hx hyk hE;generalize hST:(if k=0 then e.steps else e.steps ++ [(⟨((e.of ++ [e.now])[k-1]?).getD .right,e.now,y.shown-((b.ents[k-1]?).getD ⟨0,0,.empty,0⟩).shown⟩:zm)])=ST at hnx hK2;conv=>whnf
   refine qg (fun _=>?_) (fun h=>absurd hk (by simpa using h));conv=>whnf
   refine qr hyk ?_;conv=>whnf
   refine qf rfl ?_;conv=>whnf
   have hofl:e.of.length=k:=by rw[hE.of];simp
   have hk8:k<8:=by have:=hB.ents;omega
   have hy0:=hB.ent y (List.mem_of_getElem? hyk);refine qf (by simp[Els.len,zu]) ?_;conv=>whnf
   refine zo (decide_eq_true (by
    show((zu e.of).length+1)*16<=140737488355328;have:=hB.ents;simp[zu];omega)) ?_
   conv=>whnf
   refine qg (fun h1=>?_) (fun h1=>?_)
   ·have h1:0<k:=by have:=of_decide_eq_true h1;omega
    conv=>whnf
    refine qh ((k-1:Nat):Int) (by omega) (qa (by omega)) ?_;conv=>whnf
    obtain⟨z,hz⟩:∃ z,b.ents[k-1]?=some z:=⟨_,List.getElem?_eq_getElem (by omega)⟩;have hz0:=hB.ent z (List.mem_of_getElem? hz);have hofk:(e.of ++ [e.now])[k-1]?=some ⟨i,qV b (k-1)⟩:=by
     rw[List.getElem?_append_left (by omega),hE.of,List.getElem?_map,List.getElem?_range (by omega)];rfl
    refine qg (fun _=>?_) (fun h=>absurd h (by
     show ¬ ((decide (0<=((k-1:Nat):Int))&&decide (((k-1:Nat):Int)<(((zu e.of).length+1:Nat):Int)))=false);simp[zu,hofl];omega))
    conv=>whnf
    refine zK (Per.cells ⟨i,qV b (k-1)⟩) (by
     show(zu e.of ++ [e.now.cells])[0+((k-1:Nat):Int).toNat]?=_;have:zu e.of ++ [e.now.cells]=zu (e.of ++ [e.now]):=by simp[zu]
     rw[this,Int.toNat_natCast,Nat.zero_add];unfold zu;rw[List.getElem?_map,hofk];rfl) ?_
    conv=>whnf
    refine qh ((k-1:Nat):Int) (by omega) (qa (by omega)) ?_;conv=>whnf
    refine qA z.cells ⟨by omega,by rw[Int.toNat_natCast,List.getElem?_map,hz];rfl⟩ ?_;conv=>whnf
    refine qc (qa (by(try dsimp only);omega)) ?_;conv=>whnf
    refine qf rfl ?_;conv=>whnf
    refine qf (by simp[Els.len,qm]) ?_;conv=>whnf
    refine zo (decide_eq_true (by
     show((qm e.steps).length+1)*40<=140737488355328;simp[qm];omega)) ?_
    conv=>whnf
    rw[if_neg (by omega),hofk,hz]at hST;simp only[Option.getD_some]at hST;refine CallA.wkK ?_;refine qe (qnf y) rfl rfl ?_;refine⟨⟨[(2,.sl 1000000 1 0 conf.length),(3,.ptr 3 0),(4,.ptr 4 0),(7,.ptr 7 0),(8,.mp 26),(9,.clo 112 [.ptr 7 0,.ptr 4 0]),(29,.d (qF l.books)),(30,.d (i64 l.books.length)),(31,.d (i64 i)),(10,.d (i64 i)),(11,.ptr 11 0),(12,.ptr 12 0),(13,.sl 55 2 0 (e.of ++ [e.now]).length),(14,.mp 43),(15,.d (i64 k)),(16,.ptr 16 0),(45,.d (qdF b.ents)),(46,.d (i64 b.ents.length)),(47,.d (i64 k)),(85,.d (qX y))],[(3,.box (.dd l.cells)),(4,.box (.dd [i64 wider])),(7,.box (.vv [.ptr 25 0])),(25,.box (.vv [.d (i64 l.near),.d (qF l.books),.sl 900000 5 0 ST.length,.sl 900001 1 0 x.pers.length,.d (i64 e.many)])),(900000,.arr 5 (.dd (qm ST))),(900001,.arr 1 (.dd (zr x.pers))),(26,.map (kvV qw PAt.d e.first)),(11,.box (.dd b.cells)),(12,.box (.dd e.now.cells)),(16,.box (.dd y.cells)),(43,.map (kvV qw qw e.mine)),(55,.arr 2 (.dd (zu (e.of ++ [e.now])))),(1000000,.arr 1 (.dd (zG conf)))],st⟩,(Wk.move 81 900000 rfl rfl).trans (Wk.sub ⟨rfl,rfl,rfl,rfl,rfl,rfl,rfl,rfl,rfl,rfl,rfl,rfl,?_,rfl,rfl,rfl,rfl,rfl,rfl,rfl,trivial⟩ ⟨rfl,rfl,rfl,?_,?_,rfl,rfl,rfl,rfl,rfl,rfl,?_,rfl,trivial⟩),?_⟩
    ·show some (V.sl 55 2 0 ((zu e.of).length+1))=_
     simp[zu]
    ·show some (Obj.box (Cells.vv [.d (i64 l.near),.d (qF l.books),.sl 900000 5 0 ((qm e.steps).length+1),.sl 900001 1 0 x.pers.length,.d (i64 e.many)]))=_
     rw[<- hST];simp[qm]
    ·rw[<- hST]
     show some (Obj.arr 5 (Els.dd (qm e.steps ++ [[i64 i,i64 (qV b (k-1):Nat),i64 e.now.book,i64 e.now.n,i64 (y.shown-z.shown)]])))=_;unfold qm;rw[List.map_append];rfl
    ·show some (Obj.arr 2 (Els.dd (zu e.of ++ [e.now.cells])))=_
     simp[zu]
    have hstl:ST.length<=e.steps.length+1:=by rw[<- hST];simp
    by_cases h2:y.kind=2
    ·rw[if_pos h2]at hnx
     have ht:qX y = .ifc 175 (.agg []):=by unfold qX;rw[if_neg (by omega),if_pos h2]
     rw[ht];have hpo:=qdg b k;have hse:=qdh b;have hen:=hB.ents;have hnn:e.now.n=(qV b k:Nat):=by rw[hE.now]
     conv=>whnf
     refine qc (qa (by(try dsimp only);omega)) ?_;conv=>whnf
     refine qJ (qlT l wider hw ST (by omega) x.pers e.many (by omega) ⟨e.now.book,e.now.n+1⟩ b.set hB.set) [7,4,25,900000,900001] rfl ?lent rfl ?_
     case lent=>exact⟨_,_,rfl,zw rfl ⟨⟨rfl,rfl⟩,trivial⟩,_,_,rfl,rfl,_,_,rfl,zw rfl ⟨rfl,rfl,⟨rfl,rfl,rfl,rfl⟩,⟨rfl,rfl,rfl,rfl⟩,rfl,trivial⟩,_,_,rfl,rfl,_,_,rfl,rfl,rfl⟩
     conv=>whnf
     refine qc (qa (by(try dsimp only);omega)) ?_;conv=>whnf
     subst hnx;refine⟨_,⟨hE2,hes,?_,?_,fun num=>by have:=hmi num;simp only;omega⟩,?_⟩
     ·simp[jp];omega
     ·simp only;omega
     ·exact(Wk.move 106208 900000 rfl rfl).trans (Wk.sub ⟨rfl,rfl,rfl,rfl,rfl,rfl,rfl,rfl,rfl,rfl,rfl,rfl,rfl,rfl,rfl,rfl,rfl,trivial⟩ ⟨rfl,rfl,rfl,rfl,rfl,rfl,rfl,rfl,rfl,rfl,rfl,rfl,trivial⟩)
    ·rw[if_neg h2]at hnx
     by_cases h3:y.kind=3
     ·rw[if_pos h3]at hnx
      have ht:qX y = .ifc 156 (.agg [.str y.word,i64 y.number]):=by unfold qX;rw[if_neg (by omega),if_neg h2,if_pos h3]
      rw[ht];have hmn:=hmi y.number;have hm0:=(hE.mine y.number).1;generalize hN:(zg e.mine y.number).getD 0=N at hnx hmn hm0;have hmi2:∀ num,(zg (jf e.mine y.number (N+1)) num).getD 0<=((k+1:Nat):Int):=fun num=>by
       rw[zj]
       split
       ·simp only[Option.getD_some];omega
       ·have:=hmi num;omega
      conv=>whnf
      cases hgm:zg e.mine y.number with
      | none=>
       have hN0:N=0:=by rw[<- hN,hgm];rfl
       have hput:=qR (kd:=qw) (vd:=qw) (N+1) hgm;refine⟨none,ql (kd:=qw) qn hgm 0,?_⟩;conv=>whnf
       refine qh (N+1) (by omega) (qa (by omega)) ?_;conv=>whnf
       refine⟨none,ql (kd:=qw) qn hgm 0,?_⟩;conv=>whnf
       have hput2:kvV qw qw e.mine ++ [(i64 y.number,i64 (N+1))]=kvV qw qw (jf e.mine y.number (N+1)):=hput;rw[hput2];obtain⟨iz,_,hz1,_⟩:=qt (kd:=qw) (vd:=qw) qn (show zg (jf e.mine y.number (N+1)) y.number=some (N+1) by rw[zj,if_pos rfl]) 0;refine⟨_,hz1,?_⟩;conv=>whnf
       refine qg (fun h5=>?_) (fun h5=>?_)
       ·have h5:1<N+1:=of_decide_eq_true h5
        rw[if_pos (.inl (by omega))]at hnx;conv=>whnf
        refine qc (qa (by(try dsimp only);omega)) ?_;conv=>whnf
        subst hnx;exact⟨_,⟨hE2,hes,by simp only;omega,by simp only;omega,hmi2⟩,(Wk.sub ⟨rfl,rfl,rfl,rfl,rfl,rfl,rfl,rfl,rfl,rfl,rfl,rfl,rfl,rfl,rfl,rfl,rfl,trivial⟩ ⟨rfl,rfl,rfl,rfl,rfl,rfl,rfl,rfl,rfl,rfl,rfl,rfl,trivial⟩)⟩
       ·have h5:¬ 1<N+1:=of_decide_eq_false h5
        conv=>whnf
        refine qo (ds:=[qG conf,i64 y.number]) (qnJ conf y.number (by omega)) rfl 1 (qx (zQ rfl (by simp[zG])) rfl) ?_;conv=>whnf
        refine qg (fun h6=>?_) (fun h6=>?_)
        ·have h6:y.number∈conf:=of_decide_eq_true h6
         rw[if_pos (.inr h6)]at hnx;conv=>whnf
         refine qc (qa (by(try dsimp only);omega)) ?_;conv=>whnf
         subst hnx;exact⟨_,⟨hE2,hes,by simp only;omega,by simp only;omega,hmi2⟩,(Wk.sub ⟨rfl,rfl,rfl,rfl,rfl,rfl,rfl,rfl,rfl,rfl,rfl,rfl,rfl,rfl,rfl,rfl,rfl,trivial⟩ ⟨rfl,rfl,rfl,rfl,rfl,rfl,rfl,rfl,rfl,rfl,rfl,rfl,trivial⟩)⟩
        ·have h6:¬ y.number∈conf:=of_decide_eq_false h6
         rw[if_neg (fun h=>h.elim (fun h=>h5 (by omega)) h6)]at hnx;conv=>whnf
         cases hgf:zg e.first y.number with
         | none=>
          rw[hgf]at hnx;simp only at hnx;have hpf:=qR (kd:=qw) (vd:=PAt.d) (⟨i,k⟩:PAt) hgf;refine⟨none,ql (kd:=qw) qn hgf 0,?_⟩;conv=>whnf
          refine⟨none,ql (kd:=qw) qn hgf 0,?_⟩;conv=>whnf
          have hpf2:kvV qw PAt.d e.first ++ [(i64 y.number,PAt.d ⟨i,k⟩)]=kvV qw PAt.d (jf e.first y.number ⟨i,k⟩):=hpf
          refine qc (qa (by(try dsimp only);omega)) ?_;conv=>whnf
          subst hnx;refine⟨_,⟨hE2,hes,by simp only;omega,by simp only;omega,hmi2⟩,?_⟩;simp only;rw[<- hpf2];exact(Wk.sub ⟨rfl,rfl,rfl,rfl,rfl,rfl,rfl,rfl,rfl,rfl,rfl,rfl,rfl,rfl,rfl,rfl,rfl,trivial⟩ ⟨rfl,rfl,rfl,rfl,rfl,rfl,rfl,rfl,rfl,rfl,rfl,rfl,trivial⟩)
         | some r0=>
          rw[hgf]at hnx;simp only at hnx;obtain⟨j0,m0,c0,x0,hr0,hx0,hf0,-,hah⟩:=hE.fst _ _ hgf;obtain⟨iy,_,hy1,_⟩:=qt (kd:=qw) (vd:=PAt.d) qn hgf 0;refine⟨_,hy1,?_⟩;conv=>whnf
          subst hr0;have hml:=(List.getElem?_eq_some_iff.1 hx0.ent).1;have hjl:=(List.getElem?_eq_some_iff.1 hx0.book).1;refine qA c0.cells ⟨by show(0:Int)<=((j0:Nat):Int);omega,by show(l.books.map PBook.cells)[((j0:Nat):Int).toNat]?=_;rw[Int.toNat_natCast,List.getElem?_map,hx0.book];rfl⟩ ?_;conv=>whnf
          refine qA x0.cells ⟨by show(0:Int)<=((m0:Nat):Int);omega,by show(c0.ents.map PEnt.cells)[((m0:Nat):Int).toNat]?=_;rw[Int.toNat_natCast,List.getElem?_map,hx0.ent];rfl⟩ ?_;conv=>whnf
          have hxs:=(hR.book c0 (List.mem_of_getElem? hx0.book)).ent x0 (List.mem_of_getElem? hx0.ent);have hj0:j0<i:=by
           rcases hah with hah | ⟨hji,hah⟩
           ·exact hah
           ·have hb0:=hx0.book
            rw[hji]at hb0;have hcb:c0=b:=Option.some.inj (hb0.symm.trans hx);have h7:=(hE.mine y.number).2.2 ⟨m0,hah,hcb▸hf0⟩;rw[hN]at h7;omega
          have hpj:=hI.pers.2 j0 c0 hx0.book hj0;refine qh (y.shown-x0.shown) rfl (qa (by omega)) ?_;conv=>whnf
          refine qg (fun _=>?_) (fun h=>absurd h (by
           show ¬ ((decide (0<=((j0:Nat):Int))&&decide (((j0:Nat):Int)<((x.pers.length:Nat):Int)))=false);have:=hI.pers.1;simp;omega))
          conv=>whnf
          refine zK [.vs ((jo j0 c0).map Per.cells)] (by
           show(zr x.pers)[0+((j0:Nat):Int).toNat]?=_;unfold zr;rw[Int.toNat_natCast,Nat.zero_add,List.getElem?_map,hpj];rfl) ?_
          conv=>whnf
          refine qA (Per.cells ⟨j0,(qV c0 m0:Nat)⟩) ⟨by show(0:Int)<=((m0:Nat):Int);omega,by show((jo j0 c0).map Per.cells)[((m0:Nat):Int).toNat]?=_;rw[Int.toNat_natCast,List.getElem?_map,jg hml];rfl⟩ ?_;conv=>whnf
          refine qh (-(y.shown-x0.shown)) (by omega) (qa (by omega)) ?_;conv=>whnf
          refine qf rfl ?_;conv=>whnf
          refine qf (by simp[Els.len,qm]) ?_;conv=>whnf
          refine zo (decide_eq_true (by
           show((qm ST).length+2)*40<=140737488355328;simp[qm];omega)) ?_
          conv=>whnf
          refine qc (qa (by(try dsimp only);omega)) ?_;conv=>whnf
          rw[qai hx0 hpj,jc hx0]at hnx;subst hnx;refine⟨_,⟨hE2,hes,by simp only[List.length_append,List.length_cons,List.length_nil];omega,by simp only;omega,hmi2⟩,?_⟩;have hsc:∀ p q:zm,qm (ST ++ [p,q])=qm ST++qm [p,q]:=fun p q=>by unfold qm;rw[List.map_append]
          simp only[hsc];refine(Wk.move 174 900000 rfl rfl).trans (Wk.sub ⟨rfl,rfl,rfl,rfl,rfl,rfl,rfl,rfl,rfl,rfl,rfl,rfl,rfl,rfl,rfl,rfl,rfl,trivial⟩ ⟨rfl,rfl,rfl,?_,rfl,rfl,rfl,rfl,rfl,rfl,rfl,rfl,trivial⟩);show some (Obj.box (Cells.vv [.d (i64 l.near),.d (qF l.books),.sl 900000 5 0 ((qm ST).length+2),.sl 900001 1 0 x.pers.length,.d (i64 e.many)]))=_;simp[qm]
      | some n0=>
       have hN0:N=n0:=by rw[<- hN,hgm];rfl
       obtain⟨ix,_,hx1,hx2,_⟩:=qt (kd:=qw) (vd:=qw) qn hgm 0;refine⟨_,hx1,?_⟩;conv=>whnf
       refine qh (N+1) (by rw[hN0]) (qa (by omega)) ?_;conv=>whnf
       refine⟨_,hx1,?_⟩;conv=>whnf
       have hput2:(kvV qw qw e.mine).set (0+ix,qw n0).fst (i64 y.number,i64 (N+1))=kvV qw qw (jf e.mine y.number (N+1)):=by
        show(kvV qw qw e.mine).set (0+ix) _=_;rw[Nat.zero_add];exact hx2 (N+1)
       rw[hput2];obtain⟨iz,_,hz1,_⟩:=qt (kd:=qw) (vd:=qw) qn (show zg (jf e.mine y.number (N+1)) y.number=some (N+1) by rw[zj,if_pos rfl]) 0;refine⟨_,hz1,?_⟩;conv=>whnf
       refine qg (fun h5=>?_) (fun h5=>?_)
       ·have h5:1<N+1:=of_decide_eq_true h5
        rw[if_pos (.inl (by omega))]at hnx;conv=>whnf
        refine qc (qa (by(try dsimp only);omega)) ?_;conv=>whnf
        subst hnx;exact⟨_,⟨hE2,hes,by simp only;omega,by simp only;omega,hmi2⟩,(Wk.sub ⟨rfl,rfl,rfl,rfl,rfl,rfl,rfl,rfl,rfl,rfl,rfl,rfl,rfl,rfl,rfl,rfl,rfl,trivial⟩ ⟨rfl,rfl,rfl,rfl,rfl,rfl,rfl,rfl,rfl,rfl,rfl,rfl,trivial⟩)⟩
       ·have h5:¬ 1<N+1:=of_decide_eq_false h5
        conv=>whnf
        refine qo (ds:=[qG conf,i64 y.number]) (qnJ conf y.number (by omega)) rfl 1 (qx (zQ rfl (by simp[zG])) rfl) ?_;conv=>whnf
        refine qg (fun h6=>?_) (fun h6=>?_)
        ·have h6:y.number∈conf:=of_decide_eq_true h6
         rw[if_pos (.inr h6)]at hnx;conv=>whnf
         refine qc (qa (by(try dsimp only);omega)) ?_;conv=>whnf
         subst hnx;exact⟨_,⟨hE2,hes,by simp only;omega,by simp only;omega,hmi2⟩,(Wk.sub ⟨rfl,rfl,rfl,rfl,rfl,rfl,rfl,rfl,rfl,rfl,rfl,rfl,rfl,rfl,rfl,rfl,rfl,trivial⟩ ⟨rfl,rfl,rfl,rfl,rfl,rfl,rfl,rfl,rfl,rfl,rfl,rfl,trivial⟩)⟩
        ·have h6:¬ y.number∈conf:=of_decide_eq_false h6
         rw[if_neg (fun h=>h.elim (fun h=>h5 (by omega)) h6)]at hnx;conv=>whnf
         cases hgf:zg e.first y.number with
         | none=>
          rw[hgf]at hnx;simp only at hnx;have hpf:=qR (kd:=qw) (vd:=PAt.d) (⟨i,k⟩:PAt) hgf;refine⟨none,ql (kd:=qw) qn hgf 0,?_⟩;conv=>whnf
          refine⟨none,ql (kd:=qw) qn hgf 0,?_⟩;conv=>whnf
          have hpf2:kvV qw PAt.d e.first ++ [(i64 y.number,PAt.d ⟨i,k⟩)]=kvV qw PAt.d (jf e.first y.number ⟨i,k⟩):=hpf
          refine qc (qa (by(try dsimp only);omega)) ?_;conv=>whnf
          subst hnx;refine⟨_,⟨hE2,hes,by simp only;omega,by simp only;omega,hmi2⟩,?_⟩;simp only;rw[<- hpf2];exact(Wk.sub ⟨rfl,rfl,rfl,rfl,rfl,rfl,rfl,rfl,rfl,rfl,rfl,rfl,rfl,rfl,rfl,rfl,rfl,trivial⟩ ⟨rfl,rfl,rfl,rfl,rfl,rfl,rfl,rfl,rfl,rfl,rfl,rfl,trivial⟩)
         | some r0=>
          rw[hgf]at hnx;simp only at hnx;obtain⟨j0,m0,c0,x0,hr0,hx0,hf0,-,hah⟩:=hE.fst _ _ hgf;obtain⟨iy,_,hy1,_⟩:=qt (kd:=qw) (vd:=PAt.d) qn hgf 0;refine⟨_,hy1,?_⟩;conv=>whnf
          subst hr0;have hml:=(List.getElem?_eq_some_iff.1 hx0.ent).1;have hjl:=(List.getElem?_eq_some_iff.1 hx0.book).1;refine qA c0.cells ⟨by show(0:Int)<=((j0:Nat):Int);omega,by show(l.books.map PBook.cells)[((j0:Nat):Int).toNat]?=_;rw[Int.toNat_natCast,List.getElem?_map,hx0.book];rfl⟩ ?_;conv=>whnf
          refine qA x0.cells ⟨by show(0:Int)<=((m0:Nat):Int);omega,by show(c0.ents.map PEnt.cells)[((m0:Nat):Int).toNat]?=_;rw[Int.toNat_natCast,List.getElem?_map,hx0.ent];rfl⟩ ?_;conv=>whnf
          have hxs:=(hR.book c0 (List.mem_of_getElem? hx0.book)).ent x0 (List.mem_of_getElem? hx0.ent);have hj0:j0<i:=by
           rcases hah with hah | ⟨hji,hah⟩
           ·exact hah
           ·have hb0:=hx0.book
            rw[hji]at hb0;have hcb:c0=b:=Option.some.inj (hb0.symm.trans hx);have h7:=(hE.mine y.number).2.2 ⟨m0,hah,hcb▸hf0⟩;rw[hN]at h7;omega
          have hpj:=hI.pers.2 j0 c0 hx0.book hj0;refine qh (y.shown-x0.shown) rfl (qa (by omega)) ?_;conv=>whnf
          refine qg (fun _=>?_) (fun h=>absurd h (by
           show ¬ ((decide (0<=((j0:Nat):Int))&&decide (((j0:Nat):Int)<((x.pers.length:Nat):Int)))=false);have:=hI.pers.1;simp;omega))
          conv=>whnf
          refine zK [.vs ((jo j0 c0).map Per.cells)] (by
           show(zr x.pers)[0+((j0:Nat):Int).toNat]?=_;unfold zr;rw[Int.toNat_natCast,Nat.zero_add,List.getElem?_map,hpj];rfl) ?_
          conv=>whnf
          refine qA (Per.cells ⟨j0,(qV c0 m0:Nat)⟩) ⟨by show(0:Int)<=((m0:Nat):Int);omega,by show((jo j0 c0).map Per.cells)[((m0:Nat):Int).toNat]?=_;rw[Int.toNat_natCast,List.getElem?_map,jg hml];rfl⟩ ?_;conv=>whnf
          refine qh (-(y.shown-x0.shown)) (by omega) (qa (by omega)) ?_;conv=>whnf
          refine qf rfl ?_;conv=>whnf
          refine qf (by simp[Els.len,qm]) ?_;conv=>whnf
          refine zo (decide_eq_true (by
           show((qm ST).length+2)*40<=140737488355328;simp[qm];omega)) ?_
          conv=>whnf
          refine qc (qa (by(try dsimp only);omega)) ?_;conv=>whnf
          rw[qai hx0 hpj,jc hx0]at hnx;subst hnx;refine⟨_,⟨hE2,hes,by simp only[List.length_append,List.length_cons,List.length_nil];omega,by simp only;omega,hmi2⟩,?_⟩;have hsc:∀ p q:zm,qm (ST ++ [p,q])=qm ST++qm [p,q]:=fun p q=>by unfold qm;rw[List.map_append]
          simp only[hsc];refine(Wk.move 174 900000 rfl rfl).trans (Wk.sub ⟨rfl,rfl,rfl,rfl,rfl,rfl,rfl,rfl,rfl,rfl,rfl,rfl,rfl,rfl,rfl,rfl,rfl,trivial⟩ ⟨rfl,rfl,rfl,?_,rfl,rfl,rfl,rfl,rfl,rfl,rfl,rfl,trivial⟩);show some (Obj.box (Cells.vv [.d (i64 l.near),.d (qF l.books),.sl 900000 5 0 ((qm ST).length+2),.sl 900001 1 0 x.pers.length,.d (i64 e.many)]))=_;simp[qm]
     ·rw[if_neg h3]at hnx
      have h1k:y.kind=1:=by omega
      have ht:qX y = .ifc 138 (.agg [.str y.word]):=by unfold qX;rw[if_pos h1k]
      rw[ht];conv=>whnf
      refine qc (qa (by(try dsimp only);omega)) ?_;conv=>whnf
      subst hnx;exact⟨_,⟨hE2,hes,by simp only;omega,by simp only;omega,fun num=>by have:=hmi num;simp only;omega⟩,(Wk.sub ⟨rfl,rfl,rfl,rfl,rfl,rfl,rfl,rfl,rfl,rfl,rfl,rfl,rfl,rfl,rfl,rfl,rfl,trivial⟩ ⟨rfl,rfl,rfl,rfl,rfl,rfl,rfl,rfl,rfl,rfl,rfl,rfl,trivial⟩)⟩
   ·have h1:k=0:=by have:=of_decide_eq_false h1;omega
    rw[if_pos h1]at hST;conv=>whnf
    refine CallA.wkK ?_;refine qe (qnf y) rfl rfl ?_;refine⟨⟨[(2,.sl 1000000 1 0 conf.length),(3,.ptr 3 0),(4,.ptr 4 0),(7,.ptr 7 0),(8,.mp 26),(9,.clo 112 [.ptr 7 0,.ptr 4 0]),(29,.d (qF l.books)),(30,.d (i64 l.books.length)),(31,.d (i64 i)),(10,.d (i64 i)),(11,.ptr 11 0),(12,.ptr 12 0),(13,.sl 55 2 0 (e.of ++ [e.now]).length),(14,.mp 43),(15,.d (i64 k)),(16,.ptr 16 0),(45,.d (qdF b.ents)),(46,.d (i64 b.ents.length)),(47,.d (i64 k)),(85,.d (qX y))],[(3,.box (.dd l.cells)),(4,.box (.dd [i64 wider])),(7,.box (.vv [.ptr 25 0])),(25,.box (.vv [.d (i64 l.near),.d (qF l.books),.sl 900000 5 0 ST.length,.sl 900001 1 0 x.pers.length,.d (i64 e.many)])),(900000,.arr 5 (.dd (qm ST))),(900001,.arr 1 (.dd (zr x.pers))),(26,.map (kvV qw PAt.d e.first)),(11,.box (.dd b.cells)),(12,.box (.dd e.now.cells)),(16,.box (.dd y.cells)),(43,.map (kvV qw qw e.mine)),(55,.arr 2 (.dd (zu (e.of ++ [e.now])))),(1000000,.arr 1 (.dd (zG conf)))],st⟩,Wk.sub ⟨rfl,rfl,rfl,rfl,rfl,rfl,rfl,rfl,rfl,rfl,rfl,rfl,?_,rfl,rfl,rfl,rfl,rfl,rfl,rfl,trivial⟩ ⟨rfl,rfl,rfl,?_,?_,rfl,rfl,rfl,rfl,rfl,rfl,?_,rfl,trivial⟩,?_⟩
    ·show some (V.sl 55 2 0 ((zu e.of).length+1))=_
     simp[zu]
    ·rw[<- hST];rfl
    ·rw[<- hST];rfl
    ·show some (Obj.arr 2 (Els.dd (zu e.of ++ [e.now.cells])))=_
     simp[zu]
    have hstl:ST.length<=e.steps.length+1:=by rw[<- hST];simp
    by_cases h2:y.kind=2
    ·rw[if_pos h2]at hnx
     have ht:qX y = .ifc 175 (.agg []):=by unfold qX;rw[if_neg (by omega),if_pos h2]
     rw[ht];have hpo:=qdg b k;have hse:=qdh b;have hen:=hB.ents;have hnn:e.now.n=(qV b k:Nat):=by rw[hE.now]
     conv=>whnf
     refine qc (qa (by(try dsimp only);omega)) ?_;conv=>whnf
     refine qJ (qlT l wider hw ST (by omega) x.pers e.many (by omega) ⟨e.now.book,e.now.n+1⟩ b.set hB.set) [7,4,25,900000,900001] rfl ?lent rfl ?_
     case lent=>exact⟨_,_,rfl,zw rfl ⟨⟨rfl,rfl⟩,trivial⟩,_,_,rfl,rfl,_,_,rfl,zw rfl ⟨rfl,rfl,⟨rfl,rfl,rfl,rfl⟩,⟨rfl,rfl,rfl,rfl⟩,rfl,trivial⟩,_,_,rfl,rfl,_,_,rfl,rfl,rfl⟩
     conv=>whnf
     refine qc (qa (by(try dsimp only);omega)) ?_;conv=>whnf
     subst hnx;refine⟨_,⟨hE2,hes,?_,?_,fun num=>by have:=hmi num;simp only;omega⟩,?_⟩
     ·simp[jp];omega
     ·simp only;omega
     ·exact(Wk.move 106208 900000 rfl rfl).trans (Wk.sub ⟨rfl,rfl,rfl,rfl,rfl,rfl,rfl,rfl,rfl,rfl,rfl,rfl,rfl,rfl,rfl,rfl,rfl,trivial⟩ ⟨rfl,rfl,rfl,rfl,rfl,rfl,rfl,rfl,rfl,rfl,rfl,rfl,trivial⟩)
    ·rw[if_neg h2]at hnx
     by_cases h3:y.kind=3
     ·rw[if_pos h3]at hnx
      have ht:qX y = .ifc 156 (.agg [.str y.word,i64 y.number]):=by unfold qX;rw[if_neg (by omega),if_neg h2,if_pos h3]
      rw[ht];have hmn:=hmi y.number;have hm0:=(hE.mine y.number).1;generalize hN:(zg e.mine y.number).getD 0=N at hnx hmn hm0;have hmi2:∀ num,(zg (jf e.mine y.number (N+1)) num).getD 0<=((k+1:Nat):Int):=fun num=>by
       rw[zj]
       split
       ·simp only[Option.getD_some];omega
       ·have:=hmi num;omega
      conv=>whnf
      cases hgm:zg e.mine y.number with
      | none=>
       have hN0:N=0:=by rw[<- hN,hgm];rfl
       have hput:=qR (kd:=qw) (vd:=qw) (N+1) hgm;refine⟨none,ql (kd:=qw) qn hgm 0,?_⟩;conv=>whnf
       refine qh (N+1) (by omega) (qa (by omega)) ?_;conv=>whnf
       refine⟨none,ql (kd:=qw) qn hgm 0,?_⟩;conv=>whnf
       have hput2:kvV qw qw e.mine ++ [(i64 y.number,i64 (N+1))]=kvV qw qw (jf e.mine y.number (N+1)):=hput;rw[hput2];obtain⟨iz,_,hz1,_⟩:=qt (kd:=qw) (vd:=qw) qn (show zg (jf e.mine y.number (N+1)) y.number=some (N+1) by rw[zj,if_pos rfl]) 0;refine⟨_,hz1,?_⟩;conv=>whnf
       refine qg (fun h5=>?_) (fun h5=>?_)
       ·have h5:1<N+1:=of_decide_eq_true h5
        rw[if_pos (.inl (by omega))]at hnx;conv=>whnf
        refine qc (qa (by(try dsimp only);omega)) ?_;conv=>whnf
        subst hnx;exact⟨_,⟨hE2,hes,by simp only;omega,by simp only;omega,hmi2⟩,(Wk.sub ⟨rfl,rfl,rfl,rfl,rfl,rfl,rfl,rfl,rfl,rfl,rfl,rfl,rfl,rfl,rfl,rfl,rfl,trivial⟩ ⟨rfl,rfl,rfl,rfl,rfl,rfl,rfl,rfl,rfl,rfl,rfl,rfl,trivial⟩)⟩
       ·have h5:¬ 1<N+1:=of_decide_eq_false h5
        conv=>whnf
        refine qo (ds:=[qG conf,i64 y.number]) (qnJ conf y.number (by omega)) rfl 1 (qx (zQ rfl (by simp[zG])) rfl) ?_;conv=>whnf
        refine qg (fun h6=>?_) (fun h6=>?_)
        ·have h6:y.number∈conf:=of_decide_eq_true h6
         rw[if_pos (.inr h6)]at hnx;conv=>whnf
         refine qc (qa (by(try dsimp only);omega)) ?_;conv=>whnf
         subst hnx;exact⟨_,⟨hE2,hes,by simp only;omega,by simp only;omega,hmi2⟩,(Wk.sub ⟨rfl,rfl,rfl,rfl,rfl,rfl,rfl,rfl,rfl,rfl,rfl,rfl,rfl,rfl,rfl,rfl,rfl,trivial⟩ ⟨rfl,rfl,rfl,rfl,rfl,rfl,rfl,rfl,rfl,rfl,rfl,rfl,trivial⟩)⟩
        ·have h6:¬ y.number∈conf:=of_decide_eq_false h6
         rw[if_neg (fun h=>h.elim (fun h=>h5 (by omega)) h6)]at hnx;conv=>whnf
         cases hgf:zg e.first y.number with
         | none=>
          rw[hgf]at hnx;simp only at hnx;have hpf:=qR (kd:=qw) (vd:=PAt.d) (⟨i,k⟩:PAt) hgf;refine⟨none,ql (kd:=qw) qn hgf 0,?_⟩;conv=>whnf
          refine⟨none,ql (kd:=qw) qn hgf 0,?_⟩;conv=>whnf
          have hpf2:kvV qw PAt.d e.first ++ [(i64 y.number,PAt.d ⟨i,k⟩)]=kvV qw PAt.d (jf e.first y.number ⟨i,k⟩):=hpf
          refine qc (qa (by(try dsimp only);omega)) ?_;conv=>whnf
          subst hnx;refine⟨_,⟨hE2,hes,by simp only;omega,by simp only;omega,hmi2⟩,?_⟩;simp only;rw[<- hpf2];exact(Wk.sub ⟨rfl,rfl,rfl,rfl,rfl,rfl,rfl,rfl,rfl,rfl,rfl,rfl,rfl,rfl,rfl,rfl,rfl,trivial⟩ ⟨rfl,rfl,rfl,rfl,rfl,rfl,rfl,rfl,rfl,rfl,rfl,rfl,trivial⟩)
         | some r0=>
          rw[hgf]at hnx;simp only at hnx;obtain⟨j0,m0,c0,x0,hr0,hx0,hf0,-,hah⟩:=hE.fst _ _ hgf;obtain⟨iy,_,hy1,_⟩:=qt (kd:=qw) (vd:=PAt.d) qn hgf 0;refine⟨_,hy1,?_⟩;conv=>whnf
          subst hr0;have hml:=(List.getElem?_eq_some_iff.1 hx0.ent).1;have hjl:=(List.getElem?_eq_some_iff.1 hx0.book).1;refine qA c0.cells ⟨by show(0:Int)<=((j0:Nat):Int);omega,by show(l.books.map PBook.cells)[((j0:Nat):Int).toNat]?=_;rw[Int.toNat_natCast,List.getElem?_map,hx0.book];rfl⟩ ?_;conv=>whnf
          refine qA x0.cells ⟨by show(0:Int)<=((m0:Nat):Int);omega,by show(c0.ents.map PEnt.cells)[((m0:Nat):Int).toNat]?=_;rw[Int.toNat_natCast,List.getElem?_map,hx0.ent];rfl⟩ ?_;conv=>whnf
          have hxs:=(hR.book c0 (List.mem_of_getElem? hx0.book)).ent x0 (List.mem_of_getElem? hx0.ent);have hj0:j0<i:=by
           rcases hah with hah | ⟨hji,hah⟩
           ·exact hah
           ·have hb0:=hx0.book
            rw[hji]at hb0;have hcb:c0=b:=Option.some.inj (hb0.symm.trans hx);have h7:=(hE.mine y.number).2.2 ⟨m0,hah,hcb▸hf0⟩;rw[hN]at h7;omega
          have hpj:=hI.pers.2 j0 c0 hx0.book hj0;refine qh (y.shown-x0.shown) rfl (qa (by omega)) ?_;conv=>whnf
          refine qg (fun _=>?_) (fun h=>absurd h (by
           show ¬ ((decide (0<=((j0:Nat):Int))&&decide (((j0:Nat):Int)<((x.pers.length:Nat):Int)))=false);have:=hI.pers.1;simp;omega))
          conv=>whnf
          refine zK [.vs ((jo j0 c0).map Per.cells)] (by
           show(zr x.pers)[0+((j0:Nat):Int).toNat]?=_;unfold zr;rw[Int.toNat_natCast,Nat.zero_add,List.getElem?_map,hpj];rfl) ?_
          conv=>whnf
          refine qA (Per.cells ⟨j0,(qV c0 m0:Nat)⟩) ⟨by show(0:Int)<=((m0:Nat):Int);omega,by show((jo j0 c0).map Per.cells)[((m0:Nat):Int).toNat]?=_;rw[Int.toNat_natCast,List.getElem?_map,jg hml];rfl⟩ ?_;conv=>whnf
          refine qh (-(y.shown-x0.shown)) (by omega) (qa (by omega)) ?_;conv=>whnf
          refine qf rfl ?_;conv=>whnf
          refine qf (by simp[Els.len,qm]) ?_;conv=>whnf
          refine zo (decide_eq_true (by
           show((qm ST).length+2)*40<=140737488355328;simp[qm];omega)) ?_
          conv=>whnf
          refine qc (qa (by(try dsimp only);omega)) ?_;conv=>whnf
          rw[qai hx0 hpj,jc hx0]at hnx;subst hnx;refine⟨_,⟨hE2,hes,by simp only[List.length_append,List.length_cons,List.length_nil];omega,by simp only;omega,hmi2⟩,?_⟩;have hsc:∀ p q:zm,qm (ST ++ [p,q])=qm ST++qm [p,q]:=fun p q=>by unfold qm;rw[List.map_append]
          simp only[hsc];refine(Wk.move 174 900000 rfl rfl).trans (Wk.sub ⟨rfl,rfl,rfl,rfl,rfl,rfl,rfl,rfl,rfl,rfl,rfl,rfl,rfl,rfl,rfl,rfl,rfl,trivial⟩ ⟨rfl,rfl,rfl,?_,rfl,rfl,rfl,rfl,rfl,rfl,rfl,rfl,trivial⟩);show some (Obj.box (Cells.vv [.d (i64 l.near),.d (qF l.books),.sl 900000 5 0 ((qm ST).length+2),.sl 900001 1 0 x.pers.length,.d (i64 e.many)]))=_;simp[qm]
      | some n0=>
       have hN0:N=n0:=by rw[<- hN,hgm];rfl
       obtain⟨ix,_,hx1,hx2,_⟩:=qt (kd:=qw) (vd:=qw) qn hgm 0;refine⟨_,hx1,?_⟩;conv=>whnf
       refine qh (N+1) (by rw[hN0]) (qa (by omega)) ?_;conv=>whnf
       refine⟨_,hx1,?_⟩;conv=>whnf
       have hput2:(kvV qw qw e.mine).set (0+ix,qw n0).fst (i64 y.number,i64 (N+1))=kvV qw qw (jf e.mine y.number (N+1)):=by
        show(kvV qw qw e.mine).set (0+ix) _=_;rw[Nat.zero_add];exact hx2 (N+1)
       rw[hput2];obtain⟨iz,_,hz1,_⟩:=qt (kd:=qw) (vd:=qw) qn (show zg (jf e.mine y.number (N+1)) y.number=some (N+1) by rw[zj,if_pos rfl]) 0;refine⟨_,hz1,?_⟩;conv=>whnf
       refine qg (fun h5=>?_) (fun h5=>?_)
       ·have h5:1<N+1:=of_decide_eq_true h5
        rw[if_pos (.inl (by omega))]at hnx;conv=>whnf
        refine qc (qa (by(try dsimp only);omega)) ?_;conv=>whnf
        subst hnx;exact⟨_,⟨hE2,hes,by simp only;omega,by simp only;omega,hmi2⟩,(Wk.sub ⟨rfl,rfl,rfl,rfl,rfl,rfl,rfl,rfl,rfl,rfl,rfl,rfl,rfl,rfl,rfl,rfl,rfl,trivial⟩ ⟨rfl,rfl,rfl,rfl,rfl,rfl,rfl,rfl,rfl,rfl,rfl,rfl,trivial⟩)⟩
       ·have h5:¬ 1<N+1:=of_decide_eq_false h5
        conv=>whnf
        refine qo (ds:=[qG conf,i64 y.number]) (qnJ conf y.number (by omega)) rfl 1 (qx (zQ rfl (by simp[zG])) rfl) ?_;conv=>whnf
        refine qg (fun h6=>?_) (fun h6=>?_)
        ·have h6:y.number∈conf:=of_decide_eq_true h6
         rw[if_pos (.inr h6)]at hnx;conv=>whnf
         refine qc (qa (by(try dsimp only);omega)) ?_;conv=>whnf
         subst hnx;exact⟨_,⟨hE2,hes,by simp only;omega,by simp only;omega,hmi2⟩,(Wk.sub ⟨rfl,rfl,rfl,rfl,rfl,rfl,rfl,rfl,rfl,rfl,rfl,rfl,rfl,rfl,rfl,rfl,rfl,trivial⟩ ⟨rfl,rfl,rfl,rfl,rfl,rfl,rfl,rfl,rfl,rfl,rfl,rfl,trivial⟩)⟩
        ·have h6:¬ y.number∈conf:=of_decide_eq_false h6
         rw[if_neg (fun h=>h.elim (fun h=>h5 (by omega)) h6)]at hnx;conv=>whnf
         cases hgf:zg e.first y.number with
         | none=>
          rw[hgf]at hnx;simp only at hnx;have hpf:=qR (kd:=qw) (vd:=PAt.d) (⟨i,k⟩:PAt) hgf;refine⟨none,ql (kd:=qw) qn hgf 0,?_⟩;conv=>whnf
          refine⟨none,ql (kd:=qw) qn hgf 0,?_⟩;conv=>whnf
          have hpf2:kvV qw PAt.d e.first ++ [(i64 y.number,PAt.d ⟨i,k⟩)]=kvV qw PAt.d (jf e.first y.number ⟨i,k⟩):=hpf
          refine qc (qa (by(try dsimp only);omega)) ?_;conv=>whnf
          subst hnx;refine⟨_,⟨hE2,hes,by simp only;omega,by simp only;omega,hmi2⟩,?_⟩;simp only;rw[<- hpf2];exact(Wk.sub ⟨rfl,rfl,rfl,rfl,rfl,rfl,rfl,rfl,rfl,rfl,rfl,rfl,rfl,rfl,rfl,rfl,rfl,trivial⟩ ⟨rfl,rfl,rfl,rfl,rfl,rfl,rfl,rfl,rfl,rfl,rfl,rfl,trivial⟩)
         | some r0=>
          rw[hgf]at hnx;simp only at hnx;obtain⟨j0,m0,c0,x0,hr0,hx0,hf0,-,hah⟩:=hE.fst _ _ hgf;obtain⟨iy,_,hy1,_⟩:=qt (kd:=qw) (vd:=PAt.d) qn hgf 0;refine⟨_,hy1,?_⟩;conv=>whnf
          subst hr0;have hml:=(List.getElem?_eq_some_iff.1 hx0.ent).1;have hjl:=(List.getElem?_eq_some_iff.1 hx0.book).1;refine qA c0.cells ⟨by show(0:Int)<=((j0:Nat):Int);omega,by show(l.books.map PBook.cells)[((j0:Nat):Int).toNat]?=_;rw[Int.toNat_natCast,List.getElem?_map,hx0.book];rfl⟩ ?_;conv=>whnf
          refine qA x0.cells ⟨by show(0:Int)<=((m0:Nat):Int);omega,by show(c0.ents.map PEnt.cells)[((m0:Nat):Int).toNat]?=_;rw[Int.toNat_natCast,List.getElem?_map,hx0.ent];rfl⟩ ?_;conv=>whnf
          have hxs:=(hR.book c0 (List.mem_of_getElem? hx0.book)).ent x0 (List.mem_of_getElem? hx0.ent);have hj0:j0<i:=by
           rcases hah with hah | ⟨hji,hah⟩
           ·exact hah
           ·have hb0:=hx0.book
            rw[hji]at hb0;have hcb:c0=b:=Option.some.inj (hb0.symm.trans hx);have h7:=(hE.mine y.number).2.2 ⟨m0,hah,hcb▸hf0⟩;rw[hN]at h7;omega
          have hpj:=hI.pers.2 j0 c0 hx0.book hj0;refine qh (y.shown-x0.shown) rfl (qa (by omega)) ?_;conv=>whnf
          refine qg (fun _=>?_) (fun h=>absurd h (by
           show ¬ ((decide (0<=((j0:Nat):Int))&&decide (((j0:Nat):Int)<((x.pers.length:Nat):Int)))=false);have:=hI.pers.1;simp;omega))
          conv=>whnf
          refine zK [.vs ((jo j0 c0).map Per.cells)] (by
           show(zr x.pers)[0+((j0:Nat):Int).toNat]?=_;unfold zr;rw[Int.toNat_natCast,Nat.zero_add,List.getElem?_map,hpj];rfl) ?_
          conv=>whnf
          refine qA (Per.cells ⟨j0,(qV c0 m0:Nat)⟩) ⟨by show(0:Int)<=((m0:Nat):Int);omega,by show((jo j0 c0).map Per.cells)[((m0:Nat):Int).toNat]?=_;rw[Int.toNat_natCast,List.getElem?_map,jg hml];rfl⟩ ?_;conv=>whnf
          refine qh (-(y.shown-x0.shown)) (by omega) (qa (by omega)) ?_;conv=>whnf
          refine qf rfl ?_;conv=>whnf
          refine qf (by simp[Els.len,qm]) ?_;conv=>whnf
          refine zo (decide_eq_true (by
           show((qm ST).length+2)*40<=140737488355328;simp[qm];omega)) ?_
          conv=>whnf
          refine qc (qa (by(try dsimp only);omega)) ?_;conv=>whnf
          rw[qai hx0 hpj,jc hx0]at hnx;subst hnx;refine⟨_,⟨hE2,hes,by simp only[List.length_append,List.length_cons,List.length_nil];omega,by simp only;omega,hmi2⟩,?_⟩;have hsc:∀ p q:zm,qm (ST ++ [p,q])=qm ST++qm [p,q]:=fun p q=>by unfold qm;rw[List.map_append]
          simp only[hsc];refine(Wk.move 174 900000 rfl rfl).trans (Wk.sub ⟨rfl,rfl,rfl,rfl,rfl,rfl,rfl,rfl,rfl,rfl,rfl,rfl,rfl,rfl,rfl,rfl,rfl,trivial⟩ ⟨rfl,rfl,rfl,?_,rfl,rfl,rfl,rfl,rfl,rfl,rfl,rfl,trivial⟩);show some (Obj.box (Cells.vv [.d (i64 l.near),.d (qF l.books),.sl 900000 5 0 ((qm ST).length+2),.sl 900001 1 0 x.pers.length,.d (i64 e.many)]))=_;simp[qm]
     ·rw[if_neg h3]at hnx
      have h1k:y.kind=1:=by omega
      have ht:qX y = .ifc 138 (.agg [.str y.word]):=by unfold qX;rw[if_pos h1k]
      rw[ht];conv=>whnf
      refine qc (qa (by(try dsimp only);omega)) ?_;conv=>whnf
      subst hnx;exact⟨_,⟨hE2,hes,by simp only;omega,by simp only;omega,fun num=>by have:=hmi num;simp only;omega⟩,(Wk.sub ⟨rfl,rfl,rfl,rfl,rfl,rfl,rfl,rfl,rfl,rfl,rfl,rfl,rfl,rfl,rfl,rfl,rfl,trivial⟩ ⟨rfl,rfl,rfl,rfl,rfl,rfl,rfl,rfl,rfl,rfl,rfl,rfl,trivial⟩)⟩
  ·rintro e ⟨hE,hes,hsl,hem,hmi⟩
   conv=>whnf
   refine qg (fun h=>absurd h (by simp)) (fun _=>?_);conv=>whnf
   refine qf rfl ?_;conv=>whnf
   refine qf (by simp[Els.len,zr]) ?_;conv=>whnf
   have hfree:(true && !jj 185 ((qU (zr x.pers) ++ [[V.sl 55 2 0 e.of.length]]).flatten))=true:=by
    rw[qaw];rfl
   refine zo hfree ?_;conv=>whnf
   refine zo (decide_eq_true (by
    show((zr x.pers).length+1)*24<=140737488355328;have:=hI.pers.1;simp[zr];omega)) ?_
   conv=>whnf
   refine qbR [55,185] (by
    show qS ((qU (zr x.pers) ++ [[V.sl 55 2 0 e.of.length]]).flatten)++([185] ++ [])=_;rw[jb];rfl) ?_
   conv=>whnf
   refine qh ((i+1:Nat):Int) (by omega) (qa (by omega)) ?_;conv=>whnf
   have hes:e=ER:=hes;subst hes;have hofl:e.of.length=b.ents.length:=by rw[hE.of];simp
   refine⟨⟨e.steps,e.many,e.first,x.pers ++ [e.of]⟩,⟨by rw[<- hy]at hlk;exact hlk,by rw[<- hy]at hI2;exact hI2,by simp only;have:=hB.ents;omega,by simp only;have:=hB.ents;omega⟩,?_⟩;refine(Wk.frzArr 1 [55] 185 (sz:=1) (vs:=qU (zr x.pers) ++ [[.sl 55 2 0 e.of.length]]) (ds:=zr x.pers ++ [[.vs (zu e.of)]]) ?_ (qav (qbb (qx (zQ rfl (by simp[zu])) rfl)) _)).trans ((Wk.move 185 900001 rfl rfl).trans (Wk.sub ⟨rfl,rfl,rfl,rfl,rfl,rfl,rfl,rfl,rfl,trivial⟩ ⟨rfl,rfl,rfl,?_,rfl,?_,rfl,rfl,trivial⟩))
   ·rfl
   ·show some (Obj.box (Cells.vv [.d (i64 l.near),.d (qF l.books),.sl 900000 5 0 e.steps.length,.sl 900001 1 0 ((zr x.pers).length+1),.d (i64 e.many)]))=_
    simp[zr]
   ·show some (Obj.arr 1 (Els.dd (zr x.pers ++ [[.vs (zu e.of)]])))=_
    unfold zr zu;rw[List.map_append];rfl
 ·rintro x ⟨hlk,hI,hst,hmn⟩
  have hlk:x=RES:=hlk;subst hlk;conv=>whnf
  refine qg (fun h=>absurd h (by simp)) (fun _=>?_);conv=>whnf
  have hv:ji (qbG [(25,.box (.vv [.d (i64 l.near),.d (qF l.books),.sl 900000 5 0 x.steps.length,.sl 900001 1 0 x.pers.length,.d (i64 x.many)])),(900000,.arr 5 (.dd (qm x.steps))),(900001,.arr 1 (.dd (zr x.pers)))] 2) (.ptr 25 0)=some (jB l x):=
   qju rfl (qaD (a:=[i64 l.near,qF l.books]) (qx (qag (es':=qm x.steps) rfl rfl (by simp[qm])) (qx (qag (es':=zr x.pers) rfl rfl (by simp[zr])) rfl)))
  refine qix ((Wk.frz 2 [25,900000,900001]).trans (Wk.sub (e':=zO 0 [.d (jB l x)]) (h':=[(1000000,.arr 1 (.dd (zG conf)))]) ⟨congrArg some (repl_ptr hv),trivial⟩ ⟨rfl,trivial⟩)) rfl rfl ?_;exact qq [] [.d (jB l x)] [(1000000,.arr 1 (.dd (zG conf)))] rfl ⟨rfl,trivial⟩ rfl ⟨⟨rfl,rfl⟩,rfl⟩
end Go.PX
namespace Go.PX
open Go.Proofs
theorem pa88o(p:List Int)(hp:p.length<=1000):FnU Tryz.prog 88 [.sl 1000000 1 0 p.length] [(1000000,.arr 1 (.dd (zG p)))] fun v h'=>v = .d (qG p)/\h' = [(1000000,.arr 1 (.dd (zG p)))]:=by
 intro σ Y s;refine qan mixed qi Tryz.func88 rfl (ft:=qpN) (args:=[.sl 1000000 1 0 p.length]) (show fnB qpN Tryz.f88 1=true from by decide +kernel) ?_;conv=>whnf
 refine⟨fun b hb=>?_⟩
 cases b with
 | true=>
  have hp0:p = []:=by
   cases p with
   | nil=>rfl
   | cons a r=>exact absurd (hb (by simp)) (by simp)
  subst hp0;conv=>whnf
  refine jI ?_;exact qq [] [.d (.vs [])] [(1000000,.arr 1 (.dd (zG [])))] rfl ⟨rfl,trivial⟩ rfl ⟨⟨rfl,rfl⟩,rfl⟩
 | false=>
  have hcl:(zG p).length=p.length:=by simp[zG]
  conv=>whnf
  refine qf (by simp[Els.len,zG]) ?_;conv=>whnf
  refine qf rfl ?_;conv=>whnf
  refine zo (by
   show(qcw 1 (p.map fun n=>[i64 n])&&true)=true;rw[qgt (fun x=>⟨rfl,rfl⟩)];rfl) ?_
  conv=>whnf
  refine zo (decide_eq_true (by
   show(0+(zG p).length)*8<=140737488355328;omega)) ?_
  conv=>whnf
  refine qix ((Wk.frz 1 [7]).trans (Wk.sub (e':=zO 0 [.d (qG p)]) (h':=[(1000000,.arr 1 (.dd (zG p)))]) ⟨congrArg some (repl_sl (qag (es':=zG p) rfl rfl (by simp[Els.len,hcl]))),trivial⟩ ⟨rfl,trivial⟩)) rfl rfl ?_;exact qq [] [.d (qG p)] [(1000000,.arr 1 (.dd (zG p)))] rfl ⟨rfl,trivial⟩ rfl ⟨⟨rfl,rfl⟩,rfl⟩
theorem item_okP(x:List Int):okL (qjW x).1 (qjW x).2=true:=by
 have h:qhv (.arr 1 (.dd (zG x)))=true:=by
  simp only[qhv,Els.toV];rw[zz];exact qhB _
 show(qlZ (qB 1000000 64) [1000000]&&qlZ (qB 1000000 64) [1000000]&&(qbQ [.sl 1000000 1 0 x.length]&&(qhv (.arr 1 (.dd (zG x)))&&true)))=true;rw[h];rfl
theorem shared_len(l:PLog):(qiC l).length<=100:=by
 unfold qiC;refine Nat.le_trans (List.length_filter_le _ _) ?_;simp
theorem lists_sub{of:List Int}{q:List Int}(h:q∈qjJ of):q.length<=of.length:=by
 unfold qjJ at h;obtain⟨n,hn,h⟩:=List.mem_flatMap.1 h;have:=lists_len h;rw[List.mem_range'_1]at hn;omega
set_option maxHeartbeats 4000000 in
theorem pa34(l:PLog):FnV Tryz.prog 34 [l.d] (.tup [qG (qnu l).1,i64 (qnu l).2]):=by
 unfold qnu;refine qC mixed qi Tryz.func34 rfl (ft:=ft34) 1 (by decide +kernel) (by rfl) fun {σ} Y st=>?_;conv=>whnf
 by_cases hc:qz l=0
 ·rw[if_pos hc]
  have hR:=jC hc;have hbl:=hR.books;refine qe (qdl l 0 0 0 (qbq hc)) rfl rfl ?_;conv=>whnf
  refine qiv (qqb l hR Y st) [] rfl rfl rfl rfl ?_;rintro v h1 s' ⟨⟨rfl,m1,m2,hC,rfl⟩,rfl⟩;refine⟨rfl,?_⟩;conv=>whnf
  generalize hS:qiC l=S;refine zt (T:=tys) qi (by exact qd mixed qi (by decide +kernel)) (α:=Nat×List Int) (fun z=>⟨[(1,.ptr 1 0),(2,.ptr 2 0),(3,.ptr 3 0),(7,.d (.mv (kvV qw qw m1))),(9,.sl 38 1 0 z.2.length),(28,.d (i64 z.1))],[(1,.box (.dd l.cells)),(2,.box (.dd [.nils])),(3,.box (.dd [i64 0])),(38,.arr 1 (.dd (zG z.2)))],s'⟩) (fun z=>z.1<=100/\z.2.length<=z.1/\z.2++(((List.range' z.1 (100-z.1)).map fun(n:Nat)=>(n:Int)).filter fun n=>decide (1<inN l n))=S) (fun z=>100-z.1) (0,[]) ?_ ⟨by simp,by simp,hS⟩ ?_
  ·exact(Wk.born 9 38 1 rfl rfl rfl).trans (Wk.sub (by repeat' first|exact trivial|refine⟨?_,?_⟩|rfl|(simp only[List.length_map];rfl)|simp[PX.get]) (by repeat' first|exact trivial|refine⟨?_,?_⟩|rfl|(simp only[List.length_map];rfl)|simp[PX.get]))
  rintro ⟨n,acc⟩ ⟨hn,hal,hacc⟩;simp only at hn hal hacc;conv=>whnf
  refine qg (fun h1=>?_) (fun h1=>?_)
  ·have h1:n<100:=by have:=of_decide_eq_true h1;simp only at this;omega
   obtain⟨m,hm1⟩:∃ m,100-n=m+1:=⟨99-n,by omega⟩;have hm2:100-(n+1)=m:=by omega
   rw[hm1,List.range'_succ,List.map_cons,List.filter_cons]at hacc;have hin:qaS m1 n=(inN l n:Nat):=hC.in' n;have hno:¬ 1<inN l n->acc++((List.range' (n+1) m).map fun(n:Nat)=>(n:Int)).filter (fun n=>decide (1<inN l n))=S:=fun h=>by rw[if_neg (by simpa using h)]at hacc;exact hacc
   conv=>whnf
   cases hg:zg m1 n with
   | none=>
    have h0:inN l n=0:=by unfold qaS at hin;rw[hg]at hin;simp only[Option.getD_none]at hin;omega
    refine⟨none,ql (kd:=qw) qn hg 0,?_⟩;conv=>whnf
    refine qh (((n+1:Nat):Int)) (by(try dsimp only);omega) (qa (by(try dsimp only);omega)) ?_;conv=>whnf
    exact⟨(n+1,acc),by simp only;omega,⟨by simp only;omega,by simp only;omega,by simp only;rw[hm2];exact hno (by omega)⟩,(Wk.sub (by repeat' first|exact trivial|refine⟨?_,?_⟩|rfl|(simp only[List.length_map];rfl)|simp[PX.get]) (by repeat' first|exact trivial|refine⟨?_,?_⟩|rfl|(simp only[List.length_map];rfl)|simp[PX.get]))⟩
   | some v=>
    have h0:(inN l n:Int)=v:=by unfold qaS at hin;rw[hg]at hin;simp only[Option.getD_some]at hin;omega
    obtain⟨ix,_,hx1,_⟩:=qt (kd:=qw) (vd:=qw) qn hg 0;refine⟨_,hx1,?_⟩;conv=>whnf
    refine qg (fun h2=>?_) (fun h2=>?_)
    ·have h2:1<v:=of_decide_eq_true h2
     rw[if_pos (by simp;omega)]at hacc;conv=>whnf
     refine qf rfl ?_;conv=>whnf
     refine qf (by simp[Els.len,zG]) ?_;conv=>whnf
     refine zo (decide_eq_true (by
      show((zG acc).length+1)*8<=140737488355328;simp[zG];omega)) ?_
     conv=>whnf
     refine qh (((n+1:Nat):Int)) (by(try dsimp only);omega) (qa (by(try dsimp only);omega)) ?_;conv=>whnf
     refine⟨(n+1,acc ++ [(n:Int)]),by simp only;omega,⟨by simp only;omega,by simp only[List.length_append,List.length_singleton];omega,by simp only;rw[hm2,List.append_assoc];exact hacc⟩,Wk.sub ⟨rfl,rfl,rfl,rfl,?_,rfl,trivial⟩ ⟨rfl,rfl,rfl,?_,trivial⟩⟩
     ·show some (V.sl 38 1 0 ((zG acc).length+1))=_
      simp[zG]
     ·show some (Obj.arr 1 (.dd (zG acc ++ [[i64 n]])))=_
      simp[zG]
    ·have h2:¬ 1<v:=of_decide_eq_false h2
     conv=>whnf
     refine qh (((n+1:Nat):Int)) (by(try dsimp only);omega) (qa (by(try dsimp only);omega)) ?_;conv=>whnf
     exact⟨(n+1,acc),by simp only;omega,⟨by simp only;omega,by simp only;omega,by simp only;rw[hm2];exact hno (by omega)⟩,(Wk.sub (by repeat' first|exact trivial|refine⟨?_,?_⟩|rfl|(simp only[List.length_map];rfl)|simp[PX.get]) (by repeat' first|exact trivial|refine⟨?_,?_⟩|rfl|(simp only[List.length_map];rfl)|simp[PX.get]))⟩
  ·have h1:¬ n<100:=by have:=of_decide_eq_false h1;simp only at this;omega
   rw[show 100-n=0 by omega]at hacc;have hacc:acc=S:=by simpa using hacc
   subst hacc;have hSl:acc.length<=100:=by rw[<- hS];exact shared_len l
   conv=>whnf
   refine qaW (ds:=[qG acc]) (pa87 acc) 1 [38] (qx (zQ rfl (by simp[zG])) rfl) rfl ?_;conv=>whnf
   refine RangeA.wk (st':=⟨[(1,.ptr 1 0),(2,.ptr 2 0),(3,.ptr 3 0),(41,.d (.clo 115 [.ref [qG acc]]))],[(1,.box (.dd l.cells)),(2,.box (.dd [.nils])),(3,.box (.dd [i64 0]))],s'⟩) (Wk.sub ⟨rfl,rfl,rfl,rfl,trivial⟩ ⟨rfl,rfl,rfl,trivial⟩) ?_;refine RangeA_list qi (by exact qd mixed qi (by decide +kernel)) (by exact qd mixed qi (by decide +kernel)) rfl 1500000 1600000 [1,2,3] (by exact yields115 acc (by omega))
    (fun(_:Unit)=>([(1500000,.box (.dd l.cells)),(1500001,.box (.dd [.nils])),(1500002,.box (.dd [i64 0]))],s'))
    (fun rest _=>(∀ p∈rest,p.length<=100)/\(qjJ acc).find? (qfm l 0)=rest.find? (qfm l 0)) () rfl rfl rfl ⟨fun p hp=>by have:=lists_sub hp;omega,rfl⟩ ?_ ?_
   ·rintro p rest _ ⟨hpl,he⟩ Q hQ1 hQ
    refine⟨⟨rfl,item_okP _⟩,?_⟩;have hp:=hpl p (by simp);rw[List.find?_cons]at he;conv=>whnf
    refine qJ (pa68o l hR 0 (by omega) p (by omega)) [1600000] rfl ⟨_,_,rfl,rfl,rfl⟩ rfl ?_;conv=>whnf
    refine qe (qnq) rfl rfl ?_;conv=>whnf
    obtain⟨m,hm⟩:=qnx l hR 0 (by omega) p;refine qe (ds:=[jB l (zf l 0 p),Per.right.d]) hm rfl rfl ?_
    cases hf:qfm l 0 p with
    | true=>
     rw[hf]at he;simp only at he;conv=>whnf
     refine qJ (pa88o p (by omega)) [1600000] rfl ⟨_,_,rfl,rfl,rfl⟩ rfl ?_;conv=>whnf
     refine⟨[(1500000,.box (.dd l.cells)),(1500001,.box (.dd [qG p])),(1500002,.box (.dd [i64 0]))],s',(Wk.sub trivial (by repeat' first|exact trivial|refine⟨?_,?_⟩|rfl|(simp only[List.length_map];rfl)|simp[PX.get])),rfl,hQ _ _ _ ?_⟩;rw[he];conv=>whnf
     exact qb 0 rfl ⟨⟨rfl,rfl⟩,rfl⟩
    | false=>
     rw[hf]at he;simp only at he;conv=>whnf
     exact⟨(),(Wk.sub trivial (by repeat' first|exact trivial|refine⟨?_,?_⟩|rfl|(simp only[List.length_map];rfl)|simp[PX.get])),rfl,hQ1 () ⟨fun q hq=>hpl q (by simp[hq]),he⟩⟩
   ·rintro _ ⟨_,he⟩
    rw[List.find?_nil]at he;rw[he];conv=>whnf
    refine jI ?_;exact qb 0 rfl ⟨⟨rfl,rfl⟩,rfl⟩
 ·rw[if_neg hc]
  refine qe (qdl l _ _ _ (qbs l)) rfl rfl ?_;conv=>whnf
  generalize qz l=E at hc;refine qg (fun _=>?_) (fun h=>absurd hc (by simpa using h));conv=>whnf
  refine jI ?_;exact qb 0 rfl ⟨⟨rfl,rfl⟩,rfl⟩
end Go.PX
