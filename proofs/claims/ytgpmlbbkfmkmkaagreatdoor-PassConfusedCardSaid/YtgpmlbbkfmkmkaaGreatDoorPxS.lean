import Derived.Test.YtgpmlbbkfmkmkaaGreatDoorPxR
import Derived.Test.YtgpmlbbkfmkmkaaGreatDoorPxL
import Derived.Test.YtgpmlbbkfmkmkaaGreatDoorPxP
import Derived.Test.YtgpmlbbkfmkmkaaGreatDoorPxJ
import Derived.Lib.AtoiAllCases
import Derived.Test.YtgpmlbbkfmkmkaaGreatDoorPxK
set_option linter.all false
set_option maxRecDepth 10000
namespace Go.PX
open Go.Proofs
open Go.RowKit
theorem pa67(x:PEnt):FnV Tryz.prog 67 [x.d] (i64 (qkj x)):=by
 obtain⟨sh,kd,wd,nm⟩:=x;refine qC mixed qh Tryz.func67 rfl (ft:=ft67) 1 (by decide +kernel) (by rfl) fun {σ} Y st=>?_;conv=>whnf
 refine qe (ds:=[i64 sh,i64 0,i64 20000]) (qoB sh 0 20000) rfl rfl ?_;unfold qkj qbV
 cases h0:inB sh 0 20000 with
 | false=>
  conv=>whnf
  exact qb 0 rfl ⟨⟨rfl,rfl⟩,rfl⟩
 | true=>
 conv=>whnf
 refine qe (ds:=[i64 kd,i64 1,i64 3]) (qoB kd 1 3) rfl rfl ?_
 cases h1:inB kd 1 3 with
 | false=>
  have hk:¬ (kd=1)/\¬ (kd=2)/\¬ (kd=3):=by
   refine⟨?_,?_,?_⟩<;>rintro rfl<;>simp[inB]at h1
  conv=>whnf
  simp only[Bool.not_true,Bool.false_eq_true,if_false,if_neg hk.1,if_neg hk.2.1,if_neg hk.2.2];exact qb 0 rfl ⟨⟨rfl,rfl⟩,rfl⟩
 | true=>
 have hk:kd=1\/kd=2\/kd=3:=by
  unfold inB at h1;simp at h1;omega
 simp only[Bool.not_true,Bool.false_eq_true,if_false];conv=>whnf
 rcases hk with rfl | rfl | rfl
 ·refine qg (fun hA=>?_) (fun hA=>?_)
  ·conv=>whnf
   refine qe (ds:=[.str wd]) (qmX wd) rfl rfl ?_
   cases hn:qai wd with
   | false=>
    conv=>whnf
    exact qb 0 rfl ⟨⟨rfl,rfl⟩,rfl⟩
   | true=>
    conv=>whnf
    refine qg (fun hB=>?_) (fun hB=>?_)
    ·have hB:¬ nm=0:=by simpa using hB
     conv=>whnf
     rw[decide_eq_false hB];exact qb 0 rfl ⟨⟨rfl,rfl⟩,rfl⟩
    ·have hB:nm=0:=by simpa using hB
     conv=>whnf
     rw[decide_eq_true hB];exact qb 0 rfl ⟨⟨rfl,rfl⟩,rfl⟩
  ·conv=>whnf
   refine qe (ds:=[.str wd]) (qmX wd) rfl rfl ?_
   cases hn:qai wd with
   | false=>
    conv=>whnf
    exact qb 0 rfl ⟨⟨rfl,rfl⟩,rfl⟩
   | true=>
    conv=>whnf
    refine qg (fun hB=>?_) (fun hB=>?_)
    ·have hB:¬ nm=0:=by simpa using hB
     conv=>whnf
     rw[decide_eq_false hB];exact qb 0 rfl ⟨⟨rfl,rfl⟩,rfl⟩
    ·have hB:nm=0:=by simpa using hB
     conv=>whnf
     rw[decide_eq_true hB];exact qb 0 rfl ⟨⟨rfl,rfl⟩,rfl⟩
 ·have hw1:decide (wd = .empty)=decide (wd=(⟨#[]⟩:ByteArray)):=rfl
  simp only[if_neg (show ¬ (2:Int)=1 by decide),if_pos,hw1];refine qg (fun hA=>?_) (fun hA=>?_)
  ·rw[hA]
   conv=>whnf
   refine qg (fun hB=>?_) (fun hB=>?_)
   ·have hB:¬ nm=0:=by simpa using hB
    conv=>whnf
    rw[decide_eq_false hB];exact qb 0 rfl ⟨⟨rfl,rfl⟩,rfl⟩
   ·have hB:nm=0:=by simpa using hB
    conv=>whnf
    rw[decide_eq_true hB];exact qb 0 rfl ⟨⟨rfl,rfl⟩,rfl⟩
  ·rw[hA]
   conv=>whnf
   exact qb 0 rfl ⟨⟨rfl,rfl⟩,rfl⟩
 ·simp only[if_neg (show ¬ (3:Int)=1 by decide),if_neg (show ¬ (3:Int)=2 by decide),if_pos,Bool.not_not]
  refine qg (fun hA=>?_) (fun hA=>?_)
  ·conv=>whnf
   refine qe (ds:=[.str wd]) (qmX wd) rfl rfl ?_
   cases hn:qai wd with
   | false=>
    conv=>whnf
    exact qb 0 rfl ⟨⟨rfl,rfl⟩,rfl⟩
   | true=>
    conv=>whnf
    refine qe (ds:=[i64 nm,i64 1,i64 99]) (qoB nm 1 99) rfl rfl ?_
    cases h4:inB nm 1 99 with
    | false=>
     conv=>whnf
     exact qb 0 rfl ⟨⟨rfl,rfl⟩,rfl⟩
    | true=>
     conv=>whnf
     exact qb 0 rfl ⟨⟨rfl,rfl⟩,rfl⟩
  ·conv=>whnf
   refine qe (ds:=[.str wd]) (qmX wd) rfl rfl ?_
   cases hn:qai wd with
   | false=>
    conv=>whnf
    exact qb 0 rfl ⟨⟨rfl,rfl⟩,rfl⟩
   | true=>
    conv=>whnf
    refine qe (ds:=[i64 nm,i64 1,i64 99]) (qoB nm 1 99) rfl rfl ?_
    cases h4:inB nm 1 99 with
    | false=>
     conv=>whnf
     exact qb 0 rfl ⟨⟨rfl,rfl⟩,rfl⟩
    | true=>
     conv=>whnf
     exact qb 0 rfl ⟨⟨rfl,rfl⟩,rfl⟩
def qaq(l:List PBook):List ByteArray:=l.map (·.name)
theorem headE_eq(pre:List PBook)(b:PBook):qgH pre b=if qfl b.name (qaq pre)=0 then (if spread (-720) 720 [b.off,b.set] 0=0 then (if b.ents.length>8 then 3 else 0) else spread (-720) 720 [b.off,b.set] 0) else qfl b.name (qaq pre):=by
 have h:((qaq pre).any fun y=>decide (y=b.name))=pre.any fun y=>decide (y.name=b.name):=by
  unfold qaq;rw[List.any_map];rfl
 unfold qgH qfl spread spread spread qbV;rw[h]
 cases qai b.name<;>cases (pre.any fun y=>decide (y.name=b.name))<;>cases inB b.off.lo (-720) 720<;>cases inB b.off.hi (-720) 720<;>cases inB b.set.lo (-720) 720<;>cases inB b.set.hi (-720) 720<;>simp
 by_cases h1:b.off.hi<b.off.lo<;>by_cases h2:b.set.hi<b.set.lo<;>simp[h1,h2]
set_option maxHeartbeats 2000000 in
theorem pa18(l:PLog):FnV Tryz.prog 18 [l.d] (qqd (qak l)):=by
 refine qC mixed qh Tryz.func18 rfl (ft:=ft18) 1 (by decide +kernel) (by rfl) fun {σ} Y st=>?_;conv=>whnf
 unfold qak;refine qe (ds:=[i64 l.near,i64 0,i64 60]) (qoB l.near 0 60) rfl rfl ?_;unfold qbV
 cases h0:inB l.near 0 60 with
 | false=>
  conv=>whnf
  exact qb 0 rfl ⟨⟨rfl,rfl⟩,rfl⟩
 | true=>
  conv=>whnf
  rw[List.length_map];refine qe (ds:=[i64 l.books.length,i64 1,i64 3]) (qoB l.books.length 1 3) rfl rfl ?_
  cases h1:inB l.books.length 1 3 with
  | false=>
   conv=>whnf
   exact qb 0 rfl ⟨⟨rfl,rfl⟩,rfl⟩
  | true=>
   have hlen:l.books.length<=3:=by
    have h1:=h1;unfold inB at h1;simp at h1;omega
   simp only[Bool.not_true,if_false,Bool.false_eq_true];conv=>whnf
   generalize hK:qaO [] l.books 0=K;refine zf (T:=tys) qh (by exact qd mixed qh (by decide +kernel)) l.books (fun i (_:Unit)=>⟨[(1,.ptr 1 0),(5,.sl 40 1 0 i),(6,.d (i64 i))],[(1,.box (.dd l.cells)),(40,.arr 1 (.dd ((qaq (l.books.take i)).map fun s=>[.str s])))],st⟩)
    (fun i r _=>qaO (l.books.take i) r i=K) () ((Wk.born 5 40 1 rfl rfl rfl).trans (Wk.sub (by repeat' first|exact trivial|refine⟨?_,?_⟩|rfl|(simp only[List.length_map];rfl)|simp[PX.get]) (by repeat' first|exact trivial|refine⟨?_,?_⟩|rfl|(simp only[List.length_map];rfl)|simp[PX.get]))) hK ?_ ?_
   ·rintro i b r _ hx hi hr he
    rw[qaO,headE_eq]at he;have htk:l.books.take (i+1)=l.books.take i ++ [b]:=by rw[List.take_succ,hx];rfl
    have hnl:(qaq (l.books.take i)).length=i:=by unfold qaq;simp;omega
    conv=>whnf
    refine qg (fun _=>?_) (fun h=>absurd hi (by have:=of_decide_eq_false h;simp at this;omega));conv=>whnf
    refine qy hx ?_;conv=>whnf
    refine qo (ds:=[.str b.name,qmW (qaq (l.books.take i))]) (fn91 b.name (qaq (l.books.take i)) (by omega)) rfl 1 (qx rfl (qx (zU rfl (by simp[hnl])) rfl)) ?_;conv=>whnf
    refine qf rfl ?_;conv=>whnf
    refine qf (by simp[Els.len,hnl]) ?_;conv=>whnf
    refine zo (decide_eq_true (by
     show(((qaq (l.books.take i)).map fun s=>[D.str s]).length+1)*16<=140737488355328;rw[List.length_map];omega)) ?_
    conv=>whnf
    generalize qfl b.name (qaq (l.books.take i))=F at he ⊢;have hnext:(qaq (l.books.take i)).map (fun s=>[D.str s]) ++ [[.str b.name]]=(qaq (l.books.take (i+1))).map fun s=>[.str s]:=by
     rw[htk];simp[qaq]
    have hnl1:((qaq (l.books.take i)).map fun s=>[D.str s]).length+1=i+1:=by rw[List.length_map,hnl]
    refine qg (fun h2=>?_) (fun h2=>?_)
    ·have h2:F=0:=of_decide_eq_true h2
     subst h2;simp only[if_true]at he;conv=>whnf
     refine qo (ds:=[qaN [b.off,b.set],i64 (-720),i64 720]) (fn111 [b.off,b.set] (-720) 720 (by simp)) rfl 1 (qx (zU rfl rfl) rfl) ?_;generalize spread (-720) 720 [b.off,b.set] 0=S at he ⊢;conv=>whnf
     refine qg (fun h3=>?_) (fun h3=>?_)
     ·have h3:S=0:=by simpa using h3
      subst h3;simp only[if_true]at he;conv=>whnf
      refine qg (fun h8=>?_) (fun h8=>?_)
      ·have h8:b.ents.length>8:=by have:=of_decide_eq_true h8;simp at this;omega
       rw[if_pos h8,if_neg (by decide)]at he;conv=>whnf
       refine qc (qa (by(try dsimp only);omega)) ?_;conv=>whnf
       rw[<- he];exact qb 0 rfl ⟨⟨rfl,rfl⟩,rfl⟩
      ·have h8:¬ b.ents.length>8:=by have:=of_decide_eq_false h8;simp at this;omega
       rw[if_neg h8,if_pos rfl]at he;conv=>whnf
       generalize hE:qdq b.ents 0=E at he;refine zf (T:=tys) qh (by exact qd mixed qh (by decide +kernel)) b.ents (fun k (_:Unit)=>⟨[(1,.ptr 1 0),(5,.sl 40 1 0 (i+1)),(6,.d (i64 i)),(7,.ptr 7 0),(9,.d (i64 k))],[(1,.box (.dd l.cells)),(40,.arr 1 (.dd ((qaq (l.books.take (i+1))).map fun s=>[.str s]))),(7,.box (.dd b.cells))],st⟩)
        (fun k r _=>qdq r k=E) () (Wk.sub ⟨rfl,(by
         show some (V.sl 40 1 0 (((qaq (l.books.take i)).map fun s=>[D.str s]).length+1))=_;rw[hnl1]),rfl,rfl,rfl,trivial⟩ ⟨rfl,(by
         show some (Obj.arr 1 (Els.dd ((qaq (l.books.take i)).map (fun s=>[D.str s]) ++ [[.str b.name]])))=_;rw[hnext]),rfl,trivial⟩) hE ?_ ?_
       ·rintro k y r2 _ hy hk hr2 he2
        rw[qdq]at he2;conv=>whnf
        refine qg (fun _=>?_) (fun h=>absurd hk (by have:=of_decide_eq_false h;simp at this;omega));conv=>whnf
        refine qy hy ?_;conv=>whnf
        refine qe (pa67 y) rfl rfl ?_;conv=>whnf
        refine qg (fun h4=>?_) (fun h4=>?_)
        ·have h4:¬ qkj y=0:=by simpa using h4
         rw[if_neg h4]at he2;subst he2;rw[if_neg h4]at he;conv=>whnf
         refine qc (qa (by(try dsimp only);omega)) ?_;conv=>whnf
         rw[<- he];exact qb 0 rfl ⟨⟨rfl,rfl⟩,rfl⟩
        ·have h4:qkj y=0:=by simpa using h4
         rw[if_pos h4]at he2;conv=>whnf
         refine qc (qa (by(try dsimp only);omega)) ?_;conv=>whnf
         exact⟨(),he2,(Wk.sub (by repeat' first|exact trivial|refine⟨?_,?_⟩|rfl|(simp only[List.length_map];rfl)|simp[PX.get]) (by repeat' first|exact trivial|refine⟨?_,?_⟩|rfl|(simp only[List.length_map];rfl)|simp[PX.get]))⟩
       ·rintro _ he2
        have he2:((0,0):Int×Int)=E:=he2;subst he2;rw[if_pos rfl,<- htk]at he;conv=>whnf
        refine qg (fun h=>absurd h (by simp)) (fun _=>?_);conv=>whnf
        refine qc (qa (by(try dsimp only);omega)) ?_;conv=>whnf
        exact⟨(),he,(Wk.sub (by repeat' first|exact trivial|refine⟨?_,?_⟩|rfl|(simp only[List.length_map];rfl)|simp[PX.get]) (by repeat' first|exact trivial|refine⟨?_,?_⟩|rfl|(simp only[List.length_map];rfl)|simp[PX.get]))⟩
     ·have h3:¬ S=0:=by simpa using h3
      conv=>whnf
      refine qg (fun _=>?_) (fun h=>absurd h (by simp[h3]));rw[if_neg h3,if_neg h3]at he;conv=>whnf
      refine qc (qa (by(try dsimp only);omega)) ?_;conv=>whnf
      rw[<- he];exact qb 0 rfl ⟨⟨rfl,rfl⟩,rfl⟩
    ·have h2:¬ F=0:=of_decide_eq_false h2
     conv=>whnf
     refine qg (fun h=>absurd (of_decide_eq_true h) h2) (fun _=>?_);conv=>whnf
     refine qg (fun _=>?_) (fun h=>absurd h (by simp[h2]));rw[if_neg h2,if_neg h2]at he;conv=>whnf
     refine qc (qa (by(try dsimp only);omega)) ?_;conv=>whnf
     rw[<- he];exact qb 0 rfl ⟨⟨rfl,rfl⟩,rfl⟩
   ·rintro _ he
    rw[qaO]at he;subst he;conv=>whnf
    refine qg (fun h=>absurd h (by simp)) (fun _=>?_);conv=>whnf
    exact qb 0 rfl ⟨⟨rfl,rfl⟩,rfl⟩
end Go.PX
namespace Go.PX
open Go.Proofs
open Go.RowKit
theorem qqo(l:PLog):FnV Tryz.prog 47 [l.d] (.bool (decide (qA l=0))):=by
 obtain⟨cp,cq,ce,hcp⟩:∃ p q e,qak l=(p,q,e):=⟨_,_,_,rfl⟩;have hce:qA l=ce:=by show(qak _).2.2=ce;rw[hcp]
 have h18:FnV Tryz.prog 18 [l.d] (.tup [i64 cp,i64 cq,i64 ce]):=FnV.cast (pa18 l) (by rw[hcp];rfl);show FnV Tryz.prog 47 [l.d] _;refine qC mixed qh Tryz.func47 rfl (ft:=ft47) 1 (by decide +kernel) (by rfl) fun {σ} Y st=>?_;conv=>whnf
 refine qe (ds:=[l.d]) h18 rfl rfl ?_;conv=>whnf
 rw[hce];exact qb 0 rfl ⟨⟨rfl,rfl⟩,rfl⟩
end Go.PX
namespace Go.PX
open Go.Proofs
open Go.RowKit
end Go.PX
namespace Go.PX
open Go.Proofs
open Go.RowKit
end Go.PX
namespace Go.PX
open Go.Proofs
open Go.RowKit
end Go.PX
namespace Go.PX
open Go.Proofs
open Go.RowKit
theorem fits_ok{l:PLog}(h:qA l=0):FnV Tryz.prog 19 [l.d] (.tup [.bool (qbB l 0 []),i64 0]):=FnV.cast (qpL l) (by unfold qlZ;rw[if_pos h])
end Go.PX
namespace Go.PX
open Go.Proofs
open Go.RowKit
end Go.PX
namespace Go.PX
open Go.Proofs
end Go.PX
namespace Go.PX
open Go.Proofs
open Go.RowKit
end Go.PX
namespace Go.PX
open Go.Proofs
open Go.RowKit
theorem qpQ(l:List Int)(n:Int)(hl:l.length<1000000):FnV Tryz.prog 57 [qM l,i64 n] (.bool (decide (n∈l))):=by
 refine qC mixed qh Tryz.func57 rfl (ft:=ft57) 2 (by decide +kernel) (by rfl) fun {σ} Y st=>?_;conv=>whnf
 refine zf (T:=tys) qh (by exact qd mixed qh (by decide +kernel)) l (fun i (_:Unit)=>⟨[(0,.d (qM l)),(1,.d (i64 n)),(5,.d (i64 i))],[],st⟩) (fun i r _=>decide (n∈l)=decide (n∈r)) () (Wk.sub (by repeat' first|exact trivial|refine⟨?_,?_⟩|rfl|(simp only[List.length_map];rfl)|simp[PX.get]) trivial) rfl ?_ ?_
 ·intro i x r _ hx hi hr he
  conv=>whnf
  refine qg (fun _=>?_) (fun h=>absurd hi (by have:=of_decide_eq_false h;simp at this;omega));conv=>whnf
  refine qy hx ?_;conv=>whnf
  refine qg (fun h=>?_) (fun h=>?_)
  ·have h:x=n:=of_decide_eq_true h
   have e:decide (n∈l)=true:=by rw[he,h];simp
   conv=>whnf
   rw[e];exact qb 0 rfl ⟨⟨rfl,rfl⟩,rfl⟩
  ·have h:¬ x=n:=of_decide_eq_false h
   have e:decide (n∈l)=decide (n∈r):=by rw[he];simp[Ne.symm h]
   conv=>whnf
   refine qc (qa (by(try dsimp only);omega)) ?_;conv=>whnf
   exact⟨(),e,(Wk.sub (by repeat' first|exact trivial|refine⟨?_,?_⟩|rfl|(simp only[List.length_map];rfl)|simp[PX.get]) trivial)⟩
 ·intro _ he
  conv=>whnf
  refine qg (fun h=>absurd h (by simp)) (fun _=>?_);conv=>whnf
  rw[he];exact qb 0 rfl ⟨⟨rfl,rfl⟩,rfl⟩
def qlP(b:PBook)(n:Int):Int:=match zH b.ents n 0 with
 | some k=>k
 | none=>-1
theorem pa58(b:PBook)(n:Int)(hb:b.ents.length<1000000):FnV Tryz.prog 58 [.agg b.cells,i64 n] (i64 (qlP b n)):=by
 unfold qlP;refine qC mixed qh Tryz.func58 rfl (ft:=ft58) 2 (by decide +kernel) (by rfl) fun {σ} Y st=>?_;conv=>whnf
 refine zf (T:=tys) qh (by exact qd mixed qh (by decide +kernel)) b.ents (fun i (_:Unit)=>⟨[(1,.d (i64 n)),(2,.ptr 2 0),(5,.d (i64 i))],[(2,.box (.dd b.cells))],st⟩) (fun i r _=>zH b.ents n 0=zH r n i) () (Wk.sub (by repeat' first|exact trivial|refine⟨?_,?_⟩|rfl|(simp only[List.length_map];rfl)|simp[PX.get]) ⟨(by first | rfl | (simp only[List.length_map];rfl) | simp[PX.get]),trivial⟩) rfl ?_ ?_
 ·intro i x r _ hx hi hr he
  rw[zH]at he;conv=>whnf
  refine qg (fun _=>?_) (fun h=>absurd hi (by have:=of_decide_eq_false h;simp at this;omega));conv=>whnf
  refine qy hx ?_;conv=>whnf
  refine qg (fun h=>?_) (fun h=>?_)
  ·have h:x.kind=3:=of_decide_eq_true h
   conv=>whnf
   refine qy hx ?_;conv=>whnf
   refine qg (fun h2=>?_) (fun h2=>?_)
   ·have h2:x.number=n:=of_decide_eq_true h2
    rw[if_pos ⟨h,h2⟩]at he;conv=>whnf
    rw[he];exact qb 0 rfl ⟨⟨rfl,rfl⟩,rfl⟩
   ·have h2:¬ x.number=n:=of_decide_eq_false h2
    rw[if_neg fun h3=>h2 h3.2]at he;conv=>whnf
    refine qc (qa (by(try dsimp only);omega)) ?_;conv=>whnf
    exact⟨(),he,(Wk.sub (by repeat' first|exact trivial|refine⟨?_,?_⟩|rfl|(simp only[List.length_map];rfl)|simp[PX.get]) ⟨(by first | rfl | (simp only[List.length_map];rfl) | simp[PX.get]),trivial⟩)⟩
  ·have h:¬ x.kind=3:=of_decide_eq_false h
   rw[if_neg fun h3=>h h3.1]at he;conv=>whnf
   refine qc (qa (by(try dsimp only);omega)) ?_;conv=>whnf
   exact⟨(),he,(Wk.sub (by repeat' first|exact trivial|refine⟨?_,?_⟩|rfl|(simp only[List.length_map];rfl)|simp[PX.get]) ⟨(by first | rfl | (simp only[List.length_map];rfl) | simp[PX.get]),trivial⟩)⟩
 ·intro _ he
  conv=>whnf
  refine qg (fun h=>absurd h (by simp)) (fun _=>?_);conv=>whnf
  rw[he];exact qb 0 rfl ⟨⟨rfl,rfl⟩,rfl⟩
def qnw(n:Int)(b:PBook):Bool:=(zH b.ents n 0).isSome
theorem firstX_ge(b:PBook)(n:Int):decide (0<=qlP b n)=qnw n b:=by
 unfold qlP qnw
 cases zH b.ents n 0 with
 | none=>rfl
 | some k=>simp
def qbC(l:PLog)(k:Nat):List Int:=((List.range' 1 k).map fun(n:Nat)=>(n:Int)).filter fun n=>l.books.any (qnw n)
theorem numsTo_succ(l:PLog)(k:Nat):qbC l (k+1)=qbC l k++if l.books.any (qnw ((k+1:Nat):Int)) then [((k+1:Nat):Int)] else []:=by
 unfold qbC;rw[List.range'_concat,List.map_append,List.filter_append];simp only[Nat.mul_one,Nat.one_mul,List.map_cons,List.map_nil,Nat.add_comm 1 k]
 congr 1
 rw[List.filter_cons]
 split<;>rfl
theorem numsTo_len(l:PLog)(k:Nat):(qbC l k).length<=k:=by
 unfold qbC;refine Nat.le_trans (List.length_filter_le _ _) ?_;simp
set_option maxHeartbeats 4000000 in
theorem qqp(l:PLog)(hR:LogR l):FnV Tryz.prog 55 [l.d] (qM (zd l)):=by
 have hlen:=hR.books;have hN:zd l=qbC l 99:=rfl;rw[hN];show FnV Tryz.prog 55 [l.d] _;refine qC mixed qh Tryz.func55 rfl (ft:=ft55) 1 (by decide +kernel) (by rfl) fun {σ} Y st=>?_;conv=>whnf
 refine zy (T:=tys) qh (by exact qd mixed qh (by decide +kernel)) (α:=Nat) (fun k=>⟨[(1,.ptr 1 0),(3,.sl 33 1 0 (qbC l k).length),(4,.d (i64 (k+1)))],[(1,.box (.dd l.cells)),(33,.arr 1 (.dd ((qbC l k).map fun x=>[i64 x])))],st⟩) (fun k=>k<=99) (fun k=>99-k) 0 ((Wk.born 3 33 1 rfl rfl rfl).trans (Wk.sub (by repeat' first|exact trivial|refine⟨?_,?_⟩|rfl|(simp only[List.length_map];rfl)|simp[PX.get]) (by repeat' first|exact trivial|refine⟨?_,?_⟩|rfl|(simp only[List.length_map];rfl)|simp[PX.get]))) (by simp) ?_;rintro k hk;have hnl:=numsTo_len l k;conv=>whnf
 refine qg (fun h=>?_) (fun h=>?_)
 ·have hk9:k<99:=by have:=of_decide_eq_true h;omega
  have hsc:=numsTo_succ l k;obtain⟨n,hn⟩:∃ n:Int,n=(k:Int)+1:=⟨_,rfl⟩;rw[<- hn];have hn2:((k+1:Nat):Int)=n:=by rw[hn];rfl
  rw[hn2]at hsc;conv=>whnf
  refine zf (T:=tys) qh (by exact qd mixed qh (by decide +kernel)) l.books (fun i (_:Unit)=>⟨[(1,.ptr 1 0),(3,.sl 33 1 0 (qbC l k).length),(4,.d (i64 n)),(5,.d (.bool ((l.books.take i).any (qnw n)))),(6,.d (i64 i))],[(1,.box (.dd l.cells)),(33,.arr 1 (.dd ((qbC l k).map fun x=>[i64 x])))],st⟩) (fun i r _=>i<=l.books.length) () (Wk.sub (by repeat' first|exact trivial|refine⟨?_,?_⟩|rfl|(simp only[List.length_map];rfl)|simp[PX.get]) (by repeat' first|exact trivial|refine⟨?_,?_⟩|rfl|(simp only[List.length_map];rfl)|simp[PX.get])) (Nat.zero_le _) ?_ ?_
  ·intro i b r _ hx hi hr _
   have hbR:=hR.book b (List.mem_of_getElem? hx);have hel:=hbR.ents;have htk:(l.books.take (i+1)).any (qnw n)=((l.books.take i).any (qnw n)||qnw n b):=by
    rw[List.take_succ,hx,List.any_append];simp
   have hg:=firstX_ge b n;generalize (l.books.take i).any (qnw n)=B at htk ⊢;conv=>whnf
   refine qg (fun _=>?_) (fun h=>absurd hi (by have:=of_decide_eq_false h;simp at this;omega))
   cases B with
   | true=>
    conv=>whnf
    refine qc (qa (by(try dsimp only);omega)) ?_;conv=>whnf
    exact⟨(),by omega,Wk.sub ⟨rfl,rfl,rfl,by rw[htk];rfl,rfl,trivial⟩ ⟨rfl,rfl,trivial⟩⟩
   | false=>
    conv=>whnf
    refine qy hx ?_;conv=>whnf
    refine qe (ds:=[.agg b.cells,i64 n]) (pa58 b n (by omega)) rfl rfl ?_;conv=>whnf
    refine qc (qa (by(try dsimp only);omega)) ?_;conv=>whnf
    exact⟨(),by omega,Wk.sub ⟨rfl,rfl,rfl,by rw[htk,Bool.false_or,<- hg];rfl,rfl,trivial⟩ ⟨rfl,rfl,trivial⟩⟩
  ·intro _ _
   rw[List.take_length]
   cases hB:l.books.any (qnw n) with
   | true=>
    rw[hB,if_pos rfl]at hsc;conv=>whnf
    refine qg (fun h=>absurd h (by simp)) (fun _=>?_);conv=>whnf
    refine qf rfl ?_;conv=>whnf
    refine qf (by simp[Els.len]) ?_;conv=>whnf
    refine zo (decide_eq_true (by
     show(((qbC l k).map fun x=>[i64 x]).length+1)*8<=140737488355328;rw[List.length_map];omega)) ?_
    conv=>whnf
    refine qj (((k+1:Nat):Int)+1) (by omega) (qa (by omega)) ?_;conv=>whnf
    refine⟨k+1,by omega,by omega,Wk.sub ⟨rfl,(by
     show some (V.sl 33 1 0 (((qbC l k).map fun x=>[i64 x]).length+1))=_;rw[List.length_map,hsc,List.length_append];rfl),rfl,trivial⟩ ⟨rfl,(by
     show some (Obj.arr 1 (.dd (((qbC l k).map fun x=>[i64 x]) ++ [[i64 n]])))=_;rw[hsc,List.map_append];rfl),trivial⟩⟩
   | false=>
    rw[hB,if_neg (by decide),List.append_nil]at hsc;conv=>whnf
    refine qg (fun h=>absurd h (by simp)) (fun _=>?_);conv=>whnf
    refine qj (((k+1:Nat):Int)+1) (by omega) (qa (by omega)) ?_;conv=>whnf
    exact⟨k+1,by omega,by omega,Wk.sub ⟨rfl,(by rw[hsc];rfl),rfl,trivial⟩ ⟨rfl,(by rw[hsc];rfl),trivial⟩⟩
 ·have hk9:k=99:=by have:=of_decide_eq_false h;omega
  subst hk9;conv=>whnf
  exact qb 1 (qx (jN (es':=(qbC l 99).map fun x=>[i64 x]) rfl rfl (by simp)) rfl) ⟨⟨rfl,rfl⟩,rfl⟩
end Go.PX
namespace Go.PX
open Go.Proofs
section
variable {P : Program} {T : Tys} {σ : Type} {Y : Hd σ}
theorem LoopA_e(hT:qJ P T){ft:FT}{c:Code}(hD:zx P T ft c){α β:Type}(l:List α)(I:Nat->β->St σ)(J:Nat->List α->β->Prop)(x0:β){st:St σ}{K:AExit->St σ->Prop}(h0:Wk st (I 0 x0))(j0:J 0 l x0)
  (round:∀ (i:Nat) (x:α) (r:List α) (acc:β),l[i]?=some x->i<l.length->i+1+r.length=l.length->J i (x::r) acc->wpA P T ft Y c (I i acc) fun e st'=>match e with
   | .normal=>∃ acc',J (i+1) r acc'/\Wk st' (I (i+1) acc')
   | e=>K e st')
  (fin:∀ acc,J l.length [] acc -> ∃ st0,Wk (I l.length acc) st0/\wpA P T ft Y c st0 fun e st'=>match e with
   | .normal=>False
   | e=>K e st'):LoopA P ft Y c st K:=by
 refine qmU (α:=Nat×β) (fun p=>I p.1 p.2) (fun p=>p.1<=l.length/\J p.1 (l.drop p.1) p.2) (fun p=>l.length+1-p.1) (0,x0) h0 ⟨Nat.zero_le _,by simpa using j0⟩ ?_;rintro ⟨i,acc⟩ ⟨hi,hj⟩;simp only at hi hj ⊢
 by_cases hlt:i<l.length
 ·have hd:l.drop i=l[i]::l.drop (i+1):=List.drop_eq_getElem_cons hlt
  rw[hd]at hj;refine WPC.mono (zq hT c hD _ _ (round i l[i] (l.drop (i+1)) acc (List.getElem?_eq_getElem hlt) hlt (by simp;omega) hj)) fun e st' hk=>?_
  cases e with
  | normal=>
   obtain⟨acc',h1,h2⟩:=hk;exact⟨(i+1,acc'),by simp only;omega,⟨hlt,h1⟩,h2⟩
  | exit i=>exact hk
  | ret=>exact hk
 ·have he:i=l.length:=by omega
  subst he;rw[List.drop_length]at hj;obtain⟨st0,hw0,hr0⟩:=fin acc hj;refine WPC.wk hw0 (WPC.mono (zq hT c hD _ _ hr0) fun e st' hk=>?_)
  cases e with
  | normal=>exact hk.elim
  | exit i=>exact hk
  | ret=>exact hk
end
end Go.PX
namespace Go.PX
open Go.Proofs
open Go.RowKit
theorem qeF{α β:Type}{o:Option α}{f:α->β}{y:β}(h:o.map f=some y):∃ x,o=some x/\f x=y:=by
 cases o with
 | none=>cases h
 | some x=>exact⟨x,rfl,Option.some.inj h⟩
set_option maxHeartbeats 4000000 in
theorem pa56(l:PLog)(hc:qA l=0)(nums:List Int)(hn:nums.length<1000000):FnV Tryz.prog 56 [l.d,qM nums] (.tup [(qaP l nums).1.d,.bool true]):=by
 have hR:=zV hc;have hlen:=hR.books;have h55:=fun {σ}=>@qqp l hR σ;have hul:=qdT l;have htl:=qiS hc;obtain⟨z,mz,hz⟩:∃ z m,qcb (zd l) nums l.books 99=some (z,m):=by
  have h1:=(qnp hc nums).1;unfold qaP at h1
  cases h:qcb (zd l) nums l.books 99 with
  | some q=>exact⟨q.1,q.2,rfl⟩
  | none=>rw[h]at h1;cases h1
 have e2:(qaP l nums).1={ l with books:=z }:=by unfold qaP;rw[hz]
 rw[e2];have hsrt:=qbI l;generalize zd l=used at h55 hul hz hsrt;have hz2:qcb used nums l.books 99=some (z,mz):=hz;show FnV Tryz.prog 56 [l.d,qM nums] _;refine qC mixed qh Tryz.func56 rfl (ft:=ft56) 2 (by decide +kernel) (by rfl) fun {σ} Y st=>?_;conv=>whnf
 refine qe (ds:=[l.d]) h55 rfl rfl ?_;conv=>whnf
 refine zf (T:=tys) qh (by exact qd mixed qh (by decide +kernel)) l.books (fun i (a:List PBook×Int)=>⟨[(1,.d (qM nums)),(2,.ptr 2 0),(4,.ptr 4 0),(6,.d (qM used)),(7,.d (i64 a.2)),(8,.sl 77 6 0 a.1.length),(9,.d (i64 i))],[(2,.box (.dd l.cells)),(4,.box (.dd [i64 0,.nils])),(77,.arr 6 (.dd (a.1.map PBook.cells)))],st⟩)
  (fun i r a=>a.1.length=i/\(0<=a.2/\a.2<=99) /\ ∃ q,qcb used nums r a.2=some (q,mz)/\a.1++q=z) ([],99) ((Wk.born 8 77 6 rfl rfl rfl).trans (Wk.sub (by repeat' first|exact trivial|refine⟨?_,?_⟩|rfl|(simp only[List.length_map];rfl)|simp[PX.get]) (by repeat' first|exact trivial|refine⟨?_,?_⟩|rfl|(simp only[List.length_map];rfl)|simp[PX.get]))) ⟨rfl,by simp,z,hz2,rfl⟩ ?_ ?_
 ·rintro i b r ⟨done,n⟩ hx hi hr ⟨hdl,hn9,q,hq1,hq2⟩
  simp only at hdl hn9 hq1 hq2;have hbR:=hR.book b (List.mem_of_getElem? hx);have hel:=hbR.ents;rw[qcb]at hq1;obtain⟨ze,me,hze⟩:∃ ze me,qbt used nums b.ents n=some (ze,me):=by
   cases h:qbt used nums b.ents n with
   | some u=>exact⟨u.1,u.2,rfl⟩
   | none=>rw[h]at hq1;cases hq1
  rw[hze]at hq1;simp only at hq1;have hzl:=(qfE hsrt hn9.2 hze).len;conv=>whnf
  refine qg (fun _=>?_) (fun h=>absurd hi (by have:=of_decide_eq_false h;simp at this;omega));conv=>whnf
  refine qy hx ?_;conv=>whnf
  refine qf rfl ?_;conv=>whnf
  refine zo (by show(qce 4 (b.ents.map PEnt.cells)&&true)=true;rw[qdK (fun x=>⟨rfl,rfl⟩)];rfl) ?_;conv=>whnf
  refine zo (decide_eq_true (by simp[Els.len];omega)) ?_;conv=>whnf
  refine zf (T:=tys) qh (by exact qd mixed qh (by decide +kernel)) b.ents (fun k (a:List PEnt×Int)=>⟨[(1,.d (qM nums)),(2,.ptr 2 0),(4,.ptr 4 0),(6,.d (qM used)),(7,.d (i64 a.2)),(8,.sl 77 6 0 done.length),(9,.d (i64 i)),(10,.ptr 10 0),(11,.d (i64 k))],[(2,.box (.dd l.cells)),(4,.box (.dd [i64 0,.nils])),(77,.arr 6 (.dd (done.map PBook.cells))),(10,.box (.vv [.d (.str b.name),.d (i64 b.off.lo),.d (i64 b.off.hi),.d (i64 b.set.lo),.d (i64 b.set.hi),.sl 30 4 0 b.ents.length])),(30,.arr 4 (.dd ((a.1++b.ents.drop k).map PEnt.cells)))],st⟩)
   (fun k r2 a=>a.1.length=k/\(0<=a.2/\a.2<=99) /\ ∃ q,qbt used nums r2 a.2=some (q,me)/\a.1++q=ze) ([],n) (Wk.sub ⟨rfl,rfl,rfl,rfl,rfl,rfl,rfl,rfl,rfl,trivial⟩ ⟨rfl,rfl,rfl,(by
    show some (Obj.box (.vv [.d (.str b.name),.d (i64 b.off.lo),.d (i64 b.off.hi),.d (i64 b.set.lo),.d (i64 b.set.hi),.sl 30 4 0 (0+(b.ents.map PEnt.cells).length)]))=_;rw[List.length_map,Nat.zero_add]),rfl,trivial⟩) ⟨rfl,hn9,ze,hze,rfl⟩ ?_ ?_
  ·rintro k y r2 ⟨acc,n⟩ hy hk hr2 ⟨hal,hn9,q2,hq3,hq4⟩
   simp only at hal hn9 hq3 hq4;have hyR:=hbR.ent y (List.mem_of_getElem? hy);rw[qbt]at hq3;have hd1:b.ents.drop k=y::b.ents.drop (k+1):=by
    rw[<- List.getElem_cons_drop (h:=hk),(List.getElem?_eq_some_iff.1 hy).2]
   have hyc:(acc++b.ents.drop k)[k]?=some y:=by
    rw[List.getElem?_append_right (by omega),hal,Nat.sub_self,hd1];rfl
   have hset:∀ u,(acc++b.ents.drop k).set k u=acc++u::b.ents.drop (k+1):=fun u=>by
    rw[List.set_append_right _ _ (by omega),hal,Nat.sub_self,hd1];rfl
   have h0:acc++b.ents.drop k=(acc ++ [y])++b.ents.drop (k+1):=by rw[hd1,List.append_assoc];rfl
   have h57:=fun {σ}=>@qpQ nums y.number hn σ;have hEl:(acc++b.ents.drop k).length=b.ents.length:=by simp;omega
   generalize hE0:acc++b.ents.drop k=E0 at hyc hset h0 hEl ⊢;conv=>whnf
   refine qg (fun _=>?_) (fun h=>absurd hk (by have:=of_decide_eq_false h;simp at this;omega));conv=>whnf
   refine zo (by simp;omega) ?_;conv=>whnf
   refine zz y.cells (by simp[hyc]) ?_;conv=>whnf
   refine qg (fun h3=>?_) (fun h3=>?_)
   ·have h3:¬ y.kind=3:=by simpa using h3
    rw[if_neg (fun h=>h3 h.1)]at hq3;obtain⟨u,hu1,hu2⟩:=qeF hq3
    cases hu2
    conv=>whnf
    refine qc (qa (by(try dsimp only);omega)) ?_;conv=>whnf
    exact⟨(acc ++ [y],n),⟨by simp;omega,hn9,u.1,hu1,by rw[<- hq4];simp⟩,Wk.sub ⟨rfl,rfl,rfl,rfl,rfl,rfl,rfl,rfl,rfl,trivial⟩ ⟨rfl,rfl,rfl,rfl,by rw[<- h0];rfl,trivial⟩⟩
   ·have h3:y.kind=3:=by simpa using h3
    conv=>whnf
    refine qe (ds:=[qM nums,i64 y.number]) h57 rfl rfl ?_
    by_cases hin:y.number∈nums
    case neg=>
     rw[decide_eq_false hin];rw[if_neg (fun h=>hin h.2)]at hq3;obtain⟨u,hu1,hu2⟩:=qeF hq3
     cases hu2
     conv=>whnf
     refine qc (qa (by(try dsimp only);omega)) ?_;conv=>whnf
     exact⟨(acc ++ [y],n),⟨by simp;omega,hn9,u.1,hu1,by rw[<- hq4];simp⟩,Wk.sub ⟨rfl,rfl,rfl,rfl,rfl,rfl,rfl,rfl,rfl,trivial⟩ ⟨rfl,rfl,rfl,rfl,by rw[<- h0];rfl,trivial⟩⟩
    rw[decide_eq_true hin];rw[if_pos ⟨h3,hin⟩]at hq3;obtain⟨no1,no2,no3,_⟩:=qiP hsrt 100 (n:=n) (by omega);generalize hNX:qca used 100 n=NX at no1 no2 no3 hq3;have hNX1:¬ NX<1:=fun h=>by rw[if_pos h]at hq3;cases hq3
    rw[if_neg hNX1]at hq3;obtain⟨u,hu1,hu2⟩:=qeF hq3
    cases hu2
    conv=>whnf
    refine zy (T:=tys) qh (by exact qd mixed qh (by decide +kernel)) (α:=Nat×Int) (fun a=>⟨[(1,.d (qM nums)),(2,.ptr 2 0),(4,.ptr 4 0),(6,.d (qM used)),(7,.d (i64 a.2)),(8,.sl 77 6 0 done.length),(9,.d (i64 i)),(10,.ptr 10 0),(11,.d (i64 k))],[(2,.box (.dd l.cells)),(4,.box (.dd [i64 0,.nils])),(77,.arr 6 (.dd (done.map PBook.cells))),(10,.box (.vv [.d (.str b.name),.d (i64 b.off.lo),.d (i64 b.off.hi),.d (i64 b.set.lo),.d (i64 b.set.hi),.sl 30 4 0 b.ents.length])),(30,.arr 4 (.dd (E0.map PEnt.cells)))],st⟩)
     (fun a=>a.2<a.1/\(0<=a.2/\a.2<=99)/\qca used a.1 a.2=NX) (fun a=>a.1) (100,n) (Wk.sub (by repeat' first|exact trivial|refine⟨?_,?_⟩|rfl|(simp only[List.length_map];rfl)|simp[PX.get]) (by repeat' first|exact trivial|refine⟨?_,?_⟩|rfl|(simp only[List.length_map];rfl)|simp[PX.get])) ⟨by simp only;omega,hn9,hNX⟩ ?_
    rintro ⟨fu,v⟩ ⟨v1,v2,v3⟩;simp only at v1 v2 v3;obtain⟨fu,rfl⟩:∃ f,fu=f+1:=⟨fu-1,by omega⟩;rw[qca]at v3;have h57u:=fun {σ}=>@qpQ used v (by omega) σ;conv=>whnf
    refine qg (fun h4=>?_) (fun h4=>?_)
    ·have h4:0<v:=by simpa using h4
     conv=>whnf
     refine qe (ds:=[qM used,i64 v]) h57u rfl rfl ?_
     by_cases hvu:v∈used
     ·rw[decide_eq_true hvu]
      rw[if_pos ⟨h4,hvu⟩]at v3;conv=>whnf
      refine qc (qa (by(try dsimp only);omega)) ?_;conv=>whnf
      exact⟨(fu,v-1),by simp only;omega,⟨by simp only;omega,by simp only;omega,v3⟩,(Wk.sub (by repeat' first|exact trivial|refine⟨?_,?_⟩|rfl|(simp only[List.length_map];rfl)|simp[PX.get]) (by repeat' first|exact trivial|refine⟨?_,?_⟩|rfl|(simp only[List.length_map];rfl)|simp[PX.get]))⟩
     ·rw[decide_eq_false hvu]
      rw[if_neg (fun h=>hvu h.2)]at v3;subst v3;conv=>whnf
      refine qg (fun h=>absurd h (by simp;omega)) (fun _=>?_);conv=>whnf
      refine zo (by simp;omega) ?_;conv=>whnf
      refine zz y.cells (by simp[hyc]) ?_;conv=>whnf
      refine qc (qa (by(try dsimp only);omega)) ?_;conv=>whnf
      refine qc (qa (by(try dsimp only);omega)) ?_;conv=>whnf
      refine⟨(acc ++ [{ y with number:=v }],v-1),⟨by simp;omega,by simp only;omega,u.1,hu1,by rw[<- hq4];simp⟩,Wk.sub ⟨rfl,rfl,rfl,rfl,rfl,rfl,rfl,rfl,rfl,trivial⟩ ⟨rfl,rfl,rfl,rfl,?_,trivial⟩⟩;show some (Obj.arr 4 (.dd ((E0.map PEnt.cells).set (0+(k:Int).toNat) ({ y with number:=v }:PEnt).cells)))=_;rw[Nat.zero_add,Int.toNat_natCast,<- List.map_set,hset];simp
    ·have h4:v<=0:=by simpa using h4
     rw[if_neg (fun h=>absurd h.1 (by omega))]at v3;exact absurd v3 (by omega)
  ·rintro ⟨acc,n⟩ ⟨hal,hn9,q2,hq3,hq4⟩
   simp only at hal hn9 hq3 hq4;rw[qbt]at hq3
   cases hq3
   rw[List.append_nil]at hq4;subst hq4;obtain⟨u,hu1,hu2⟩:=qeF hq1
   cases hu2
   rw[List.drop_length,List.append_nil];conv=>whnf
   refine qg (fun h=>absurd h (by simp)) (fun _=>?_);conv=>whnf
   have hAl:(done.map PBook.cells).length=i:=by simp;omega
   generalize hA:done.map PBook.cells=A at hAl ⊢;refine qf rfl ?_;conv=>whnf
   refine qf (by show done.length=A.length;omega) ?_;conv=>whnf
   refine zo (by
    show(true && !jw 77 (List.flatten (qV A ++ [inj (hdC b) ++ [V.sl 30 4 0 b.ents.length]])))=true;rw[qbn];rfl) ?_
   conv=>whnf
   refine zo (decide_eq_true (by
    show(A.length+1)*72<=140737488355328;omega)) ?_
   conv=>whnf
   refine qc (qa (by(try dsimp only);omega)) ?_;conv=>whnf
   refine⟨(done ++ [{ b with ents:=acc }],me),⟨by simp;omega,hn9,u.1,hu1,by rw[<- hq2];simp⟩,(Wk.frzArr 1 [30] 77 (sz:=6) (vs:=qV A ++ [inj (hdC b) ++ [V.sl 30 4 0 b.ents.length]]) (ds:=A ++ [({ b with ents:=acc }:PBook).cells]) rfl (qaY (qbS (qbl (a:=hdC b) (qx (jN (es':=acc.map PEnt.cells) rfl rfl (by simp;omega)) rfl))) _)).trans (Wk.sub ⟨rfl,rfl,rfl,rfl,rfl,?_,rfl,trivial⟩ ⟨rfl,rfl,?_,trivial⟩)⟩
   ·subst hA
    show some (V.sl 77 6 0 ((done.map PBook.cells).length+1))=_;simp
   ·subst hA
    show some (Obj.arr 6 (.dd (done.map PBook.cells ++ [({ b with ents:=acc }:PBook).cells])))=_;simp
 ·rintro ⟨done,n⟩ ⟨hdl,hn9,q,hq1,hq2⟩
  simp only at hdl hn9 hq1 hq2;rw[qcb]at hq1
  cases hq1
  rw[List.append_nil]at hq2;subst hq2;conv=>whnf
  refine qg (fun h=>absurd h (by simp)) (fun _=>?_);conv=>whnf
  refine qb 1 (ds:=[(⟨l.near,done⟩:PLog).d,.bool true]) (qx (show jt _ (.agg [.d (i64 l.near),.sl 77 6 0 done.length])=_ from by
   rw[jt,qx rfl (qx (jN (es':=done.map PBook.cells) rfl rfl (by simp)) rfl)];rfl) (qx rfl rfl)) ⟨⟨rfl,rfl⟩,rfl⟩
set_option maxHeartbeats 4000000 in
theorem pa12(l:PLog)(w:Int)(hw:0<=w/\w<=4294967295):FnV Tryz.prog 12 [l.d,.int .u32 w] (.bool true):=by
 by_cases hc:qA l=0
 case neg=>
  have h34:FnV Tryz.prog 34 [l.d] (.tup [qM [],i64 (qA l)]):=FnV.cast (qpP l) (by unfold qdP;rw[if_neg hc]);have h47:FnV Tryz.prog 47 [l.d] (.bool false):=FnV.cast (qqo l) (by rw[decide_eq_false hc]);generalize qA l=N at hc h34;refine qC mixed qh Tryz.func12 rfl (ft:=qpT) 2 (by decide +kernel) (by rfl) fun {σ} Y st=>?_;conv=>whnf
  refine qe (ds:=[l.d]) h34 rfl rfl ?_;conv=>whnf
  refine qe (ds:=[l.d]) h47 rfl rfl ?_;conv=>whnf
  refine qg (fun _=>?_) (fun h=>absurd h (by simp[hc]));conv=>whnf
  refine qe (qpw) rfl rfl ?_;conv=>whnf
  exact qb 0 rfl ⟨⟨rfl,rfl⟩,rfl⟩
 have hR:=zV hc;have h47:FnV Tryz.prog 47 [l.d] (.bool true):=FnV.cast (qqo l) (by rw[decide_eq_true hc]);have h34:=fun {σ}=>@qpP l σ;have h55:=fun {σ}=>@qqp l hR σ;have h56:=fun {σ} (o:List Int) ho=>@pa56 l hc o ho σ;have hrf:=fun o=>ren_fit (qnp hc o).2;have h19:=fun {σ} (o:List Int)=>@fits_ok (qaP l o).1 (ren_check hc o) σ;have hul:=qdT l;have htl:=qiS hc;have hco:=conf_ok hc;have hsn:=fun {n}=>@shared_numbers l hc n;have hcl:(qdP l).1.length<=100:=by
  rcases hco with⟨_,h2,_,_,h5⟩ | ⟨h1,_⟩
  ·have h6:=h5 _ (qgV hR h2)
   refine Nat.le_trans h6 (Nat.le_trans (List.length_filter_le _ _) ?_);unfold jg;refine Nat.le_trans (List.length_filter_le _ _) ?_;simp
  ·rw[h1];simp
 generalize hC:(qdP l).1=C at h34 hco hcl;generalize hE:(qdP l).2=e at h34 hco;have hN:(zd l).length<=99:=by omega
 generalize hNN:zd l=N at h55 hsn hN;refine qC mixed qh Tryz.func12 rfl (ft:=qpT) 2 (by decide +kernel) (by rfl) fun {σ} Y st=>?_;conv=>whnf
 refine qe (ds:=[l.d]) h34 rfl rfl ?_;conv=>whnf
 refine qe (ds:=[l.d]) h47 rfl rfl ?_;conv=>whnf
 refine qe (ds:=[l.d]) h55 rfl rfl ?_;conv=>whnf
 refine LoopA_e (T:=tys) qh (by exact qd mixed qh (by decide +kernel)) N (fun i (o:List Int)=>⟨[(1,.d (.int .u32 w)),(2,.ptr 2 0),(5,.d (qM C)),(6,.d (i64 e)),(7,.d (qM N)),(8,.sl 55 1 0 o.length),(9,.d (i64 i))],[(2,.box (.dd l.cells)),(55,.arr 1 (.dd (o.map fun n=>[i64 n])))],st⟩)
  (fun i _ o=>o.length<=i) [] ((Wk.born 8 55 1 rfl rfl rfl).trans (Wk.sub (by repeat' first|exact trivial|refine⟨?_,?_⟩|rfl|(simp only[List.length_map];rfl)|simp[PX.get]) (by repeat' first|exact trivial|refine⟨?_,?_⟩|rfl|(simp only[List.length_map];rfl)|simp[PX.get]))) (Nat.le_refl _) ?_ ?_
 ·rintro i n r o hx hi hr hol
  conv=>whnf
  refine qg (fun _=>?_) (fun h=>absurd hi (by have:=of_decide_eq_false h;simp at this;omega));conv=>whnf
  refine qg (fun _=>?_) (fun _=>?_)
  ·conv=>whnf
   refine qy hx ?_;conv=>whnf
   refine qf rfl ?_;conv=>whnf
   refine qf (by simp[Els.len]) ?_;conv=>whnf
   refine zo (decide_eq_true (by
    show((o.map fun n=>[i64 n]).length+1)*8<=140737488355328;rw[List.length_map];omega)) ?_
   conv=>whnf
   refine qc (qa (by(try dsimp only);omega)) ?_;conv=>whnf
   refine⟨o ++ [n],by simp;omega,Wk.sub ⟨rfl,rfl,rfl,rfl,rfl,?_,rfl,trivial⟩ ⟨rfl,?_,trivial⟩⟩
   ·show some (V.sl 55 1 0 ((o.map fun n=>[i64 n]).length+1))=_
    simp
   ·show some (Obj.arr 1 (.dd ((o.map fun n=>[i64 n]) ++ [[i64 n]])))=_
    simp
  ·conv=>whnf
   refine qc (qa (by(try dsimp only);omega)) ?_;conv=>whnf
   exact⟨o,by omega,(Wk.sub (by repeat' first|exact trivial|refine⟨?_,?_⟩|rfl|(simp only[List.length_map];rfl)|simp[PX.get]) (by repeat' first|exact trivial|refine⟨?_,?_⟩|rfl|(simp only[List.length_map];rfl)|simp[PX.get]))⟩
 ·rintro o hol
  refine⟨⟨[(2,.ptr 2 0),(5,.d (qM C)),(6,.d (i64 e)),(7,.d (qM N)),(8,.d (qM o)),(9,.d (i64 N.length))],[(2,.box (.dd l.cells))],st⟩,(Wk.frz 1 [55]).trans (Wk.sub ⟨rfl,rfl,rfl,rfl,?_,rfl,trivial⟩ ⟨rfl,trivial⟩),?_⟩
  ·show some (repl _ (V.sl 55 1 0 o.length))=_
   rw[qmV (jN (es':=o.map fun n=>[i64 n]) rfl rfl (by simp))];rfl
  conv=>whnf
  refine qg (fun h=>absurd h (by simp)) (fun _=>?_);conv=>whnf
  have h56o:=fun {σ}=>@h56 σ o (by omega);have h19o:FnV Tryz.prog 19 [(qaP l o).1.d] (.tup [.bool (qbB l 0 o),i64 0]):=FnV.cast (h19 o) (by rw[hrf]);generalize (qaP l o).1=X at h56o h19o;refine qe (ds:=[l.d,qM o]) h56o rfl rfl ?_;conv=>whnf
  refine qe (ds:=[X.d]) h19o rfl rfl ?_
  rcases hco with⟨he,hfC,hpw,hmem,hfew⟩ | ⟨hce,hno⟩
  ·subst he
   have hfewo:=hfew o;have h56c:=fun {σ}=>@h56 σ C (by omega);have h19c:FnV Tryz.prog 19 [(qaP l C).1.d] (.tup [.bool true,i64 0]):=FnV.cast (h19 C) (by rw[hrf,hfC]);generalize (qaP l C).1=Z at h56c h19c;generalize qbB l 0 o=so at hfewo;conv=>whnf
   refine zf (T:=tys) qh (by exact qd mixed qh (by decide +kernel)) C (fun k (_:Unit)=>⟨[(2,.ptr 2 0),(5,.d (qM C)),(7,.d (qM N)),(8,.d (qM o)),(12,.d (.bool so)),(14,.d (i64 k))],[(2,.box (.dd l.cells))],st⟩) (fun _ _ _=>True) () (Wk.sub (by repeat' first|exact trivial|refine⟨?_,?_⟩|rfl|(simp only[List.length_map];rfl)|simp[PX.get]) ⟨(by first | rfl | (simp only[List.length_map];rfl) | simp[PX.get]),trivial⟩) trivial ?_ ?_
   ·rintro k n r _ hx hk hr _
    have h57:FnV Tryz.prog 57 [qM N,i64 n] (.bool true):=FnV.cast (qpQ N n (by omega)) (by rw[decide_eq_true (hsn (hmem n (List.mem_of_getElem? hx)))]);conv=>whnf
    refine qg (fun _=>?_) (fun h=>absurd hk (by have:=of_decide_eq_false h;simp at this;omega));conv=>whnf
    refine qy hx ?_;conv=>whnf
    refine qv (ds:=[qM N,i64 n]) h57 rfl rfl ?_;conv=>whnf
    refine qg (fun k0=>?_) (fun _=>?_)
    ·obtain⟨k',rfl⟩:∃ k',k=k'+1:=⟨k-1,by simp at k0;omega⟩
     obtain⟨p,hp⟩:∃ p,C[k']?=some p:=⟨_,List.getElem?_eq_getElem (by omega)⟩;have hlt:p<n:=by
      have h1:=List.pairwise_iff_getElem.1 hpw k' (k'+1) (by omega) hk (by omega);rw[(List.getElem?_eq_some_iff.1 hp).2,(List.getElem?_eq_some_iff.1 hx).2]at h1;exact h1
     conv=>whnf
     refine qy hx ?_;conv=>whnf
     refine qj (k':Int) (by omega) (qa (by omega)) ?_;conv=>whnf
     refine qy hp ?_;conv=>whnf
     refine qg (fun h=>absurd h (by simp;omega)) (fun _=>?_);conv=>whnf
     refine qc (qa (by(try dsimp only);omega)) ?_;conv=>whnf
     exact⟨(),trivial,(Wk.sub (by repeat' first|exact trivial|refine⟨?_,?_⟩|rfl|(simp only[List.length_map];rfl)|simp[PX.get]) ⟨(by first | rfl | (simp only[List.length_map];rfl) | simp[PX.get]),trivial⟩)⟩
    ·conv=>whnf
     refine qc (qa (by(try dsimp only);omega)) ?_;conv=>whnf
     exact⟨(),trivial,(Wk.sub (by repeat' first|exact trivial|refine⟨?_,?_⟩|rfl|(simp only[List.length_map];rfl)|simp[PX.get]) ⟨(by first | rfl | (simp only[List.length_map];rfl) | simp[PX.get]),trivial⟩)⟩
   ·rintro _ _
    conv=>whnf
    refine qg (fun h=>absurd h (by simp)) (fun _=>?_);conv=>whnf
    refine qe (ds:=[l.d,qM C]) h56c rfl rfl ?_;conv=>whnf
    refine qe (ds:=[Z.d]) h19c rfl rfl ?_;conv=>whnf
    cases so with
    | false=>
     conv=>whnf
     refine qe (qpw) rfl rfl ?_;conv=>whnf
     exact qb 0 rfl ⟨⟨rfl,rfl⟩,rfl⟩
    | true=>
     have:=hfewo rfl;conv=>whnf
     refine qg (fun _=>?_) (fun h=>absurd h (by simp;omega));conv=>whnf
     refine qe (qpw) rfl rfl ?_;conv=>whnf
     exact qb 0 rfl ⟨⟨rfl,rfl⟩,rfl⟩
  ·have he:e=9:=by rw[<- hE,hce]
   have hCC:C = []:=by rw[<- hC,hce]
   subst he hCC;rw[hno o];conv=>whnf
   refine qe (qpw) rfl rfl ?_;conv=>whnf
   exact qb 0 rfl ⟨⟨rfl,rfl⟩,rfl⟩
end Go.PX
namespace Go.PX
open Go.Proofs Go.RowKit Go.ChangeShapes
theorem u32In{n:Int}(h:(Lit.int .u32 n).wf=true):0<=n/\n<=4294967295:=by
 simp only[Lit.wf,Bool.and_eq_true,decide_eq_true_eq]at h;exact h
end Go.PX
