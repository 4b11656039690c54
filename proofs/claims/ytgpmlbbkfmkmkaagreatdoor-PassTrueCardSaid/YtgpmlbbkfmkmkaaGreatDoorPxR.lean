import Derived.Test.YtgpmlbbkfmkmkaaGreatDoorPxQ
import Derived.Test.YtgpmlbbkfmkmkaaGreatDoorPxL
import Derived.Test.YtgpmlbbkfmkmkaaGreatDoorPxP
import Derived.Test.YtgpmlbbkfmkmkaaGreatDoorPxJ
import Derived.Lib.AtoiAllCases
import Derived.Test.YtgpmlbbkfmkmkaaGreatDoorPxM
import Derived.Laws.IdiomStrings
set_option linter.all false
set_option maxRecDepth 10000
namespace Go.PX
open Go.Proofs
open Go.RowKit
theorem pa67(x:PEnt):FnV Tryz.prog 67 [x.d] (i64 (qkm x)):=by
 obtain⟨sh,kd,wd,nm⟩:=x;refine qA mixed qj Tryz.func67 rfl (ft:=ft67) 1 (by decide +kernel) (by rfl) fun {σ} Y st=>?_;conv=>whnf
 refine qf (ds:=[i64 sh,i64 0,i64 20000]) (qoG sh 0 20000) rfl rfl ?_;unfold qkm qbP
 cases h0:inB sh 0 20000 with
 | false=>
  conv=>whnf
  exact qb 0 rfl ⟨⟨rfl,rfl⟩,rfl⟩
 | true=>
 conv=>whnf
 refine qf (ds:=[i64 kd,i64 1,i64 3]) (qoG kd 1 3) rfl rfl ?_
 cases h1:inB kd 1 3 with
 | false=>
  have hk:¬ (kd=1)/\¬ (kd=2)/\¬ (kd=3):=by
   refine⟨?_,?_,?_⟩<;>rintro rfl<;>simp[inB]at h1
  conv=>whnf
  simp only[Bool.not_true,Bool.false_eq_true,if_false,if_neg hk.1,if_neg hk.2.1,if_neg hk.2.2];exact qb 0 rfl ⟨⟨rfl,rfl⟩,rfl⟩
 | true=>
 have hk:kd=1\/kd=2\/kd=3:=by
  unfold inB at h1;simp at h1;omega
 simp only[Bool.not_true,Bool.false_eq_true,if_false];conv=>whnf
 rcases hk with rfl | rfl | rfl
 ·refine qh (fun hA=>?_) (fun hA=>?_)
  ·conv=>whnf
   refine qf (ds:=[.str wd]) (qnc wd) rfl rfl ?_
   cases hn:qao wd with
   | false=>
    conv=>whnf
    exact qb 0 rfl ⟨⟨rfl,rfl⟩,rfl⟩
   | true=>
    conv=>whnf
    refine qh (fun hB=>?_) (fun hB=>?_)
    ·have hB:¬ nm=0:=by simpa using hB
     conv=>whnf
     rw[decide_eq_false hB];exact qb 0 rfl ⟨⟨rfl,rfl⟩,rfl⟩
    ·have hB:nm=0:=by simpa using hB
     conv=>whnf
     rw[decide_eq_true hB];exact qb 0 rfl ⟨⟨rfl,rfl⟩,rfl⟩
  ·conv=>whnf
   refine qf (ds:=[.str wd]) (qnc wd) rfl rfl ?_
   cases hn:qao wd with
   | false=>
    conv=>whnf
    exact qb 0 rfl ⟨⟨rfl,rfl⟩,rfl⟩
   | true=>
    conv=>whnf
    refine qh (fun hB=>?_) (fun hB=>?_)
    ·have hB:¬ nm=0:=by simpa using hB
     conv=>whnf
     rw[decide_eq_false hB];exact qb 0 rfl ⟨⟨rfl,rfl⟩,rfl⟩
    ·have hB:nm=0:=by simpa using hB
     conv=>whnf
     rw[decide_eq_true hB];exact qb 0 rfl ⟨⟨rfl,rfl⟩,rfl⟩
 ·have hw1:decide (wd = .empty)=decide (wd=(⟨#[]⟩:ByteArray)):=rfl
  simp only[if_neg (show ¬ (2:Int)=1 by decide),if_pos,hw1];refine qh (fun hA=>?_) (fun hA=>?_)
  ·rw[hA]
   conv=>whnf
   refine qh (fun hB=>?_) (fun hB=>?_)
   ·have hB:¬ nm=0:=by simpa using hB
    conv=>whnf
    rw[decide_eq_false hB];exact qb 0 rfl ⟨⟨rfl,rfl⟩,rfl⟩
   ·have hB:nm=0:=by simpa using hB
    conv=>whnf
    rw[decide_eq_true hB];exact qb 0 rfl ⟨⟨rfl,rfl⟩,rfl⟩
  ·rw[hA]
   conv=>whnf
   exact qb 0 rfl ⟨⟨rfl,rfl⟩,rfl⟩
 ·simp only[if_neg (show ¬ (3:Int)=1 by decide),if_neg (show ¬ (3:Int)=2 by decide),if_pos,Bool.not_not]
  refine qh (fun hA=>?_) (fun hA=>?_)
  ·conv=>whnf
   refine qf (ds:=[.str wd]) (qnc wd) rfl rfl ?_
   cases hn:qao wd with
   | false=>
    conv=>whnf
    exact qb 0 rfl ⟨⟨rfl,rfl⟩,rfl⟩
   | true=>
    conv=>whnf
    refine qf (ds:=[i64 nm,i64 1,i64 99]) (qoG nm 1 99) rfl rfl ?_
    cases h4:inB nm 1 99 with
    | false=>
     conv=>whnf
     exact qb 0 rfl ⟨⟨rfl,rfl⟩,rfl⟩
    | true=>
     conv=>whnf
     exact qb 0 rfl ⟨⟨rfl,rfl⟩,rfl⟩
  ·conv=>whnf
   refine qf (ds:=[.str wd]) (qnc wd) rfl rfl ?_
   cases hn:qao wd with
   | false=>
    conv=>whnf
    exact qb 0 rfl ⟨⟨rfl,rfl⟩,rfl⟩
   | true=>
    conv=>whnf
    refine qf (ds:=[i64 nm,i64 1,i64 99]) (qoG nm 1 99) rfl rfl ?_
    cases h4:inB nm 1 99 with
    | false=>
     conv=>whnf
     exact qb 0 rfl ⟨⟨rfl,rfl⟩,rfl⟩
    | true=>
     conv=>whnf
     exact qb 0 rfl ⟨⟨rfl,rfl⟩,rfl⟩
def qaA(l:List PBook):List ByteArray:=l.map (·.name)
theorem headE_eq(pre:List PBook)(b:PBook):qgN pre b=if qfo b.name (qaA pre)=0 then (if spread (-720) 720 [b.off,b.set] 0=0 then (if b.ents.length>8 then 3 else 0) else spread (-720) 720 [b.off,b.set] 0) else qfo b.name (qaA pre):=by
 have h:((qaA pre).any fun y=>decide (y=b.name))=pre.any fun y=>decide (y.name=b.name):=by
  unfold qaA;rw[List.any_map];rfl
 unfold qgN qfo spread spread spread qbP;rw[h]
 cases qao b.name<;>cases (pre.any fun y=>decide (y.name=b.name))<;>cases inB b.off.lo (-720) 720<;>cases inB b.off.hi (-720) 720<;>cases inB b.set.lo (-720) 720<;>cases inB b.set.hi (-720) 720<;>simp
 by_cases h1:b.off.hi<b.off.lo<;>by_cases h2:b.set.hi<b.set.lo<;>simp[h1,h2]
set_option maxHeartbeats 2000000 in
theorem pa18(l:PLog):FnV Tryz.prog 18 [l.d] (qql (qaq l)):=by
 refine qA mixed qj Tryz.func18 rfl (ft:=ft18) 1 (by decide +kernel) (by rfl) fun {σ} Y st=>?_;conv=>whnf
 unfold qaq;refine qf (ds:=[i64 l.near,i64 0,i64 60]) (qoG l.near 0 60) rfl rfl ?_;unfold qbP
 cases h0:inB l.near 0 60 with
 | false=>
  conv=>whnf
  exact qb 0 rfl ⟨⟨rfl,rfl⟩,rfl⟩
 | true=>
  conv=>whnf
  rw[List.length_map];refine qf (ds:=[i64 l.books.length,i64 1,i64 3]) (qoG l.books.length 1 3) rfl rfl ?_
  cases h1:inB l.books.length 1 3 with
  | false=>
   conv=>whnf
   exact qb 0 rfl ⟨⟨rfl,rfl⟩,rfl⟩
  | true=>
   have hlen:l.books.length<=3:=by
    have h1:=h1;unfold inB at h1;simp at h1;omega
   simp only[Bool.not_true,if_false,Bool.false_eq_true];conv=>whnf
   generalize hK:qba [] l.books 0=K;refine zc (T:=tys) qj (by exact qe mixed qj (by decide +kernel)) l.books (fun i (_:Unit)=>⟨[(1,.ptr 1 0),(5,.sl 40 1 0 i),(6,.d (i64 i))],[(1,.box (.dd l.cells)),(40,.arr 1 (.dd ((qaA (l.books.take i)).map fun s=>[.str s])))],st⟩)
    (fun i r _=>qba (l.books.take i) r i=K) () ((Wk.born 5 40 1 rfl rfl rfl).trans (Wk.sub (by repeat' first|exact trivial|refine⟨?_,?_⟩|rfl|(simp only[List.length_map];rfl)|simp[PX.get]) (by repeat' first|exact trivial|refine⟨?_,?_⟩|rfl|(simp only[List.length_map];rfl)|simp[PX.get]))) hK ?_ ?_
   ·rintro i b r _ hx hi hr he
    rw[qba,headE_eq]at he;have htk:l.books.take (i+1)=l.books.take i ++ [b]:=by rw[List.take_succ,hx];rfl
    have hnl:(qaA (l.books.take i)).length=i:=by unfold qaA;simp;omega
    conv=>whnf
    refine qh (fun _=>?_) (fun h=>absurd hi (by have:=of_decide_eq_false h;simp at this;omega));conv=>whnf
    refine qr hx ?_;conv=>whnf
    refine qq (ds:=[.str b.name,qnb (qaA (l.books.take i))]) (fn91 b.name (qaA (l.books.take i)) (by omega)) rfl 1 (qm rfl (qm (zW rfl (by simp[hnl])) rfl)) ?_;conv=>whnf
    refine qd rfl ?_;conv=>whnf
    refine qd (by simp[Els.len,hnl]) ?_;conv=>whnf
    refine qV (decide_eq_true (by
     show(((qaA (l.books.take i)).map fun s=>[D.str s]).length+1)*16<=140737488355328;rw[List.length_map];omega)) ?_
    conv=>whnf
    generalize qfo b.name (qaA (l.books.take i))=F at he ⊢;have hnext:(qaA (l.books.take i)).map (fun s=>[D.str s]) ++ [[.str b.name]]=(qaA (l.books.take (i+1))).map fun s=>[.str s]:=by
     rw[htk];simp[qaA]
    have hnl1:((qaA (l.books.take i)).map fun s=>[D.str s]).length+1=i+1:=by rw[List.length_map,hnl]
    refine qh (fun h2=>?_) (fun h2=>?_)
    ·have h2:F=0:=of_decide_eq_true h2
     subst h2;simp only[if_true]at he;conv=>whnf
     refine qq (ds:=[qax [b.off,b.set],i64 (-720),i64 720]) (fn111 [b.off,b.set] (-720) 720 (by simp)) rfl 1 (qm (zW rfl rfl) rfl) ?_;generalize spread (-720) 720 [b.off,b.set] 0=S at he ⊢;conv=>whnf
     refine qh (fun h3=>?_) (fun h3=>?_)
     ·have h3:S=0:=by simpa using h3
      subst h3;simp only[if_true]at he;conv=>whnf
      refine qh (fun h8=>?_) (fun h8=>?_)
      ·have h8:b.ents.length>8:=by have:=of_decide_eq_true h8;simp at this;omega
       rw[if_pos h8,if_neg (by decide)]at he;conv=>whnf
       refine qc (qa (by(try dsimp only);omega)) ?_;conv=>whnf
       rw[<- he];exact qb 0 rfl ⟨⟨rfl,rfl⟩,rfl⟩
      ·have h8:¬ b.ents.length>8:=by have:=of_decide_eq_false h8;simp at this;omega
       rw[if_neg h8,if_pos rfl]at he;conv=>whnf
       generalize hE:qdx b.ents 0=E at he;refine zc (T:=tys) qj (by exact qe mixed qj (by decide +kernel)) b.ents (fun k (_:Unit)=>⟨[(1,.ptr 1 0),(5,.sl 40 1 0 (i+1)),(6,.d (i64 i)),(7,.ptr 7 0),(9,.d (i64 k))],[(1,.box (.dd l.cells)),(40,.arr 1 (.dd ((qaA (l.books.take (i+1))).map fun s=>[.str s]))),(7,.box (.dd b.cells))],st⟩)
        (fun k r _=>qdx r k=E) () (Wk.sub ⟨rfl,(by
         show some (V.sl 40 1 0 (((qaA (l.books.take i)).map fun s=>[D.str s]).length+1))=_;rw[hnl1]),rfl,rfl,rfl,trivial⟩ ⟨rfl,(by
         show some (Obj.arr 1 (Els.dd ((qaA (l.books.take i)).map (fun s=>[D.str s]) ++ [[.str b.name]])))=_;rw[hnext]),rfl,trivial⟩) hE ?_ ?_
       ·rintro k y r2 _ hy hk hr2 he2
        rw[qdx]at he2;conv=>whnf
        refine qh (fun _=>?_) (fun h=>absurd hk (by have:=of_decide_eq_false h;simp at this;omega));conv=>whnf
        refine qr hy ?_;conv=>whnf
        refine qf (pa67 y) rfl rfl ?_;conv=>whnf
        refine qh (fun h4=>?_) (fun h4=>?_)
        ·have h4:¬ qkm y=0:=by simpa using h4
         rw[if_neg h4]at he2;subst he2;rw[if_neg h4]at he;conv=>whnf
         refine qc (qa (by(try dsimp only);omega)) ?_;conv=>whnf
         rw[<- he];exact qb 0 rfl ⟨⟨rfl,rfl⟩,rfl⟩
        ·have h4:qkm y=0:=by simpa using h4
         rw[if_pos h4]at he2;conv=>whnf
         refine qc (qa (by(try dsimp only);omega)) ?_;conv=>whnf
         exact⟨(),he2,(Wk.sub (by repeat' first|exact trivial|refine⟨?_,?_⟩|rfl|(simp only[List.length_map];rfl)|simp[PX.get]) (by repeat' first|exact trivial|refine⟨?_,?_⟩|rfl|(simp only[List.length_map];rfl)|simp[PX.get]))⟩
       ·rintro _ he2
        have he2:((0,0):Int×Int)=E:=he2;subst he2;rw[if_pos rfl,<- htk]at he;conv=>whnf
        refine qh (fun h=>absurd h (by simp)) (fun _=>?_);conv=>whnf
        refine qc (qa (by(try dsimp only);omega)) ?_;conv=>whnf
        exact⟨(),he,(Wk.sub (by repeat' first|exact trivial|refine⟨?_,?_⟩|rfl|(simp only[List.length_map];rfl)|simp[PX.get]) (by repeat' first|exact trivial|refine⟨?_,?_⟩|rfl|(simp only[List.length_map];rfl)|simp[PX.get]))⟩
     ·have h3:¬ S=0:=by simpa using h3
      conv=>whnf
      refine qh (fun _=>?_) (fun h=>absurd h (by simp[h3]));rw[if_neg h3,if_neg h3]at he;conv=>whnf
      refine qc (qa (by(try dsimp only);omega)) ?_;conv=>whnf
      rw[<- he];exact qb 0 rfl ⟨⟨rfl,rfl⟩,rfl⟩
    ·have h2:¬ F=0:=of_decide_eq_false h2
     conv=>whnf
     refine qh (fun h=>absurd (of_decide_eq_true h) h2) (fun _=>?_);conv=>whnf
     refine qh (fun _=>?_) (fun h=>absurd h (by simp[h2]));rw[if_neg h2,if_neg h2]at he;conv=>whnf
     refine qc (qa (by(try dsimp only);omega)) ?_;conv=>whnf
     rw[<- he];exact qb 0 rfl ⟨⟨rfl,rfl⟩,rfl⟩
   ·rintro _ he
    rw[qba]at he;subst he;conv=>whnf
    refine qh (fun h=>absurd h (by simp)) (fun _=>?_);conv=>whnf
    exact qb 0 rfl ⟨⟨rfl,rfl⟩,rfl⟩
end Go.PX
namespace Go.PX
open Go.Proofs
open Go.RowKit
theorem qqw(l:PLog):FnV Tryz.prog 47 [l.d] (.bool (decide (qB l=0))):=by
 obtain⟨cp,cq,ce,hcp⟩:∃ p q e,qaq l=(p,q,e):=⟨_,_,_,rfl⟩;have hce:qB l=ce:=by show(qaq _).2.2=ce;rw[hcp]
 have h18:FnV Tryz.prog 18 [l.d] (.tup [i64 cp,i64 cq,i64 ce]):=FnV.cast (pa18 l) (by rw[hcp];rfl);show FnV Tryz.prog 47 [l.d] _;refine qA mixed qj Tryz.func47 rfl (ft:=ft47) 1 (by decide +kernel) (by rfl) fun {σ} Y st=>?_;conv=>whnf
 refine qf (ds:=[l.d]) h18 rfl rfl ?_;conv=>whnf
 rw[hce];exact qb 0 rfl ⟨⟨rfl,rfl⟩,rfl⟩
end Go.PX
namespace Go.PX
open Go.Proofs
open Go.RowKit
end Go.PX
namespace Go.PX
open Go.Proofs
open Go.RowKit
theorem qpt{x:Int}{n:Nat}(h:0<=x):x.tmod n=((x.toNat%n:Nat):Int):=by
 obtain⟨k,rfl⟩:=Int.eq_ofNat_of_zero_le h;rfl
end Go.PX
namespace Go.PX
open Go.Proofs
open Go.RowKit
theorem qpZ(n:Int)(s:Span):FnV Tryz.prog 49 [i64 n,s.d] (.bool (decide (s.lo<=n)&&decide (n<=s.hi))):=by
 refine qA mixed qj Tryz.func49 rfl (ft:=ft49) 2 (by decide +kernel) (by rfl) fun {σ} Y st=>?_;conv=>whnf
 refine qh (fun h=>?_) (fun h=>?_)
 ·rw[h]
  conv=>whnf
  exact qb 0 rfl ⟨⟨rfl,rfl⟩,rfl⟩
 ·rw[h]
  conv=>whnf
  exact qb 0 rfl ⟨⟨rfl,rfl⟩,rfl⟩
theorem qpu(s:Span)(n:Int)(h:s.lo<=s.hi)(h1 : -10000<=s.lo)(h2:s.hi<=10000)(hn:0<=n/\n<=65535):FnV Tryz.prog 53 [s.d,i64 n] (i64 (qaf s n)):=by
 have hin:=qaR h n;have hm:=Int.emod_nonneg n (show s.hi-s.lo+1≠0 by omega);have hm2:=Int.emod_lt_of_pos n (show 0<s.hi-s.lo+1 by omega);show FnV Tryz.prog 53 [s.d,i64 n] _;refine qA mixed qj Tryz.func53 rfl (ft:=ft53) 2 (by decide +kernel) (by rfl) fun {σ} Y st=>?_;conv=>whnf
 refine qg (s.hi-s.lo) (by rfl) (qa (by omega)) ?_;conv=>whnf
 refine qg (s.hi-s.lo+1) (by rfl) (qa (by omega)) ?_;conv=>whnf
 refine qV (decide_eq_true (by omega)) ?_;conv=>whnf
 rw[Int.tmod_eq_emod_of_nonneg hn.1];refine qg (qaf s n) (by rfl) (qa (by omega)) ?_;conv=>whnf
 exact qb 0 rfl ⟨⟨rfl,rfl⟩,rfl⟩
end Go.PX
namespace Go.PX
open Go.Proofs
open Go.RowKit
end Go.PX
namespace Go.PX
open Go.Proofs
open Go.RowKit
end Go.PX
namespace Go.PX
open Go.Proofs
end Go.PX
namespace Go.PX
open Go.Proofs
open Go.RowKit
end Go.PX
namespace Go.PX
open Go.Proofs
open Go.RowKit
def qii(b:PBook)(n:Int):Int:=match zi b.ents n 0 with
 | some k=>k
 | none=>-1
theorem pa58(b:PBook)(n:Int)(hb:b.ents.length<1000000):FnV Tryz.prog 58 [.agg b.cells,i64 n] (i64 (qii b n)):=by
 unfold qii;refine qA mixed qj Tryz.func58 rfl (ft:=ft58) 2 (by decide +kernel) (by rfl) fun {σ} Y st=>?_;conv=>whnf
 refine zc (T:=tys) qj (by exact qe mixed qj (by decide +kernel)) b.ents (fun i (_:Unit)=>⟨[(1,.d (i64 n)),(2,.ptr 2 0),(5,.d (i64 i))],[(2,.box (.dd b.cells))],st⟩) (fun i r _=>zi b.ents n 0=zi r n i) () (Wk.sub (by repeat' first|exact trivial|refine⟨?_,?_⟩|rfl|(simp only[List.length_map];rfl)|simp[PX.get]) ⟨(by first | rfl | (simp only[List.length_map];rfl) | simp[PX.get]),trivial⟩) rfl ?_ ?_
 ·intro i x r _ hx hi hr he
  rw[zi]at he;conv=>whnf
  refine qh (fun _=>?_) (fun h=>absurd hi (by have:=of_decide_eq_false h;simp at this;omega));conv=>whnf
  refine qr hx ?_;conv=>whnf
  refine qh (fun h=>?_) (fun h=>?_)
  ·have h:x.kind=3:=of_decide_eq_true h
   conv=>whnf
   refine qr hx ?_;conv=>whnf
   refine qh (fun h2=>?_) (fun h2=>?_)
   ·have h2:x.number=n:=of_decide_eq_true h2
    rw[if_pos ⟨h,h2⟩]at he;conv=>whnf
    rw[he];exact qb 0 rfl ⟨⟨rfl,rfl⟩,rfl⟩
   ·have h2:¬ x.number=n:=of_decide_eq_false h2
    rw[if_neg fun h3=>h2 h3.2]at he;conv=>whnf
    refine qc (qa (by(try dsimp only);omega)) ?_;conv=>whnf
    exact⟨(),he,(Wk.sub (by repeat' first|exact trivial|refine⟨?_,?_⟩|rfl|(simp only[List.length_map];rfl)|simp[PX.get]) ⟨(by first | rfl | (simp only[List.length_map];rfl) | simp[PX.get]),trivial⟩)⟩
  ·have h:¬ x.kind=3:=of_decide_eq_false h
   rw[if_neg fun h3=>h h3.1]at he;conv=>whnf
   refine qc (qa (by(try dsimp only);omega)) ?_;conv=>whnf
   exact⟨(),he,(Wk.sub (by repeat' first|exact trivial|refine⟨?_,?_⟩|rfl|(simp only[List.length_map];rfl)|simp[PX.get]) ⟨(by first | rfl | (simp only[List.length_map];rfl) | simp[PX.get]),trivial⟩)⟩
 ·intro _ he
  conv=>whnf
  refine qh (fun h=>absurd h (by simp)) (fun _=>?_);conv=>whnf
  rw[he];exact qb 0 rfl ⟨⟨rfl,rfl⟩,rfl⟩
end Go.PX
namespace Go.PX
open Go.Proofs
open Go.RowKit
end Go.PX
namespace Go.PX
open Go.Proofs
open Go.RowKit Go.Proofs
end Go.PX
namespace Go.PX
open Go.Proofs
end Go.PX
namespace Go.PX
open Go.Proofs
end Go.PX
namespace Go.PX
open Go.Proofs
open Go.RowKit
end Go.PX
namespace Go.PX
open Go.Proofs
open Go.RowKit
end Go.PX
namespace Go.PX
open Go.Proofs
open Go.RowKit
end Go.PX
namespace Go.PX
open Go.Proofs
end Go.PX
namespace Go.PX
open Go.Proofs
open Go.RowKit
end Go.PX
namespace Go.PX
open Go.Proofs
open Go.RowKit
def zC(l:List Int):D:=.vs (l.map fun b=>[D.int .u16 b])
def U16(l:List Int):Prop:=∀ x∈l,0<=x/\x<=65535
theorem pa104:FnV Tryz.prog 104 [] (i64 60):=by
 refine qA mixed qj Tryz.func104 rfl (ft:=ft104) 0 (by decide +kernel) (by rfl) fun {σ} Y st=>?_;conv=>whnf
 exact qb 0 rfl ⟨⟨rfl,rfl⟩,rfl⟩
theorem qkT(x:List Int)(hx:U16 x)(n:Nat):FnV Tryz.prog 103 [zC x,i64 n] (i64 (zj x n)):=by
 show FnV Tryz.prog 103 [zC x,i64 n] _;refine qA mixed qj Tryz.func103 rfl (ft:=ft103) 2 (by decide +kernel) (by rfl) fun {σ} Y st=>?_;conv=>whnf
 by_cases h:x = []
 ·subst h
  conv=>whnf
  exact qb 0 rfl ⟨⟨rfl,rfl⟩,rfl⟩
 ·have hl:0<x.length:=List.length_pos_iff.2 h
  refine qh (fun h1=>absurd h1 (by simp[h])) (fun _=>?_);conv=>whnf
  refine qV (decide_eq_true (by rw[List.length_map];omega)) ?_;conv=>whnf
  rw[List.length_map];have hm:=Nat.mod_lt n hl;have he:((n:Int).tmod (x.length:Int))=((n%x.length:Nat):Int):=by
   rw[Int.tmod_eq_emod_of_nonneg (by omega)];omega
  rw[he];have hg:x[n%x.length]?=some (x[n%x.length]):=List.getElem?_eq_getElem hm;refine qr hg ?_;conv=>whnf
  have hb:=hx _ (List.mem_of_getElem? hg);have ht:zj x n=x[n%x.length]:=by
   unfold zj;rw[hg];rfl
  rw[<- ht]at hb ⊢;refine qc (qa (by(try dsimp only);omega)) ?_;conv=>whnf
  exact qb 0 rfl ⟨⟨rfl,rfl⟩,rfl⟩
theorem qny{x:List Int}(hx:U16 x)(n:Nat):0<=zj x n/\zj x n<=65535:=by
 unfold zj
 cases h:x[n%x.length]? with
 | none=>simp
 | some v=>exact hx v (List.mem_of_getElem? h)
end Go.PX
namespace Go.PX
open Go.Proofs
open Go.RowKit
def intss(ls:List (List Int)):List (List D):=ls.map fun r=>[zd r]
def je(l:List Int):List (List D):=l.map fun x=>[i64 x]
structure TdN(b k:Nat)(s:TdE):Prop where
 wl:s.w.length=100
 w:∀ n,0<=atW s.w n/\atW s.w n<=1100+60*(8*b+k)
 now:0<=s.now/\s.now<=1100+60*(8*b+k)
 off : -720<=s.off/\s.off<=720
 el:s.ents.length<=k
 tl:s.times.length=s.ents.length
 ml:s.mine.length<=k+1
theorem intC_at{w:List Int}{n:Int}(h0:0<=n)(h:n.toNat<w.length):(je w)[0+n.toNat]?=some [i64 (atW w n)]:=by
 unfold je atW;rw[Nat.zero_add,List.getElem?_map,List.getElem?_eq_getElem h];rfl
theorem qfH(w:List Int)(n:Nat)(v:Int):(je w).set (0+n) [i64 v]=je (w.set n v):=by
 unfold je;rw[Nat.zero_add,List.map_set]
theorem jn(w:List Int)(v:Int):je w ++ [[i64 v]]=je (w ++ [v]):=by
 unfold je;rw[List.map_append];rfl
theorem qbH(w:List Int):(je w).length=w.length:=by unfold je;rw[List.length_map]
theorem fst_ge(name:ByteArray)(off set:Span)(es:List PEnt)(n:Int):decide (qii ⟨name,off,set,es⟩ n<0)=(zi es n 0).isNone:=by
 unfold qii
 cases zi es n 0 with
 | none=>rfl
 | some k=>simp
theorem TdN.mono{b k:Nat}{s:TdE}(h:TdN b k s):TdN b (k+1) s:=
 ⟨h.wl,fun n=>by have:=h.w n;omega,by have:=h.now;omega,h.off,by have:=h.el;omega,h.tl,by have:=h.ml;omega⟩
def tdX(a:TdE)(z:PEnt)(F:Bool)(to M:Int):TdE:=
 ⟨a.ents ++ [{ z with shown:=to+a.off }],a.times ++ [to],if z.kind=2 then a.mine ++ [M] else a.mine,if z.kind=2 then M else a.off,to,if F then a.w.set z.number.toNat to else a.w⟩
theorem qbI{b k:Nat}{a:TdE}{z:PEnt}{F:Bool}{to M:Int}(h:TdN b k a)(hz:0<=z.number/\z.number<=99)(ht:0<=to/\to<=1100+60*(8*b+(k+1:Nat)))(hM : -720<=M/\M<=720):TdN b (k+1) (tdX a z F to M):=by
 have hwl:=h.wl;have hel:=h.el;have htl:=h.tl;have hml:=h.ml;unfold tdX;refine⟨?_,fun n=>?_,ht,?_,by simp;omega,by simp;omega,?_⟩
 ·simp only
  split
  ·rw[List.length_set];exact hwl
  ·exact hwl
 ·have:=h.w n
  simp only
  split
  ·unfold atW at this ⊢
   rw[List.getElem?_set]
   split
   ·split
    ·simp only[Option.getD_some];omega
    ·simp only[Option.getD_none];omega
   ·omega
  ·omega
 ·simp only
  split
  ·exact hM
  ·exact h.off
 ·simp only
  split
  ·simp;omega
  ·omega
theorem qki{x y:List Int}{b i:Nat}{set:Span}{z:PEnt}{s:TdE}{F:Bool}{to M:Int}(ho:qkp y b i z s=false)(ht:toF y b i z s=to)(hF:qnl s z=F)(hM:z.kind=2->qaf set (zj x (7*b+i+1))=M):tdE x y b i set z s=tdX s z F to M:=by
 unfold tdE tdX;rw[ho,ht,hF];simp only[Bool.false_eq_true,if_false]
 by_cases h:z.kind=2
 ·rw[hM h]
 ·simp only[if_neg h]
theorem viewBk{h:Heap}{k n j:Nat}{nm:ByteArray}{a1 a2 a3 a4:Int}{es:List PEnt}{x:D}(hg:get h j=some (.arr 4 (.dd (es.map PEnt.cells))))(hn:n=es.length) :
  zL (qbO h (k+1)) [.agg [.d (.str nm),.d (i64 a1),.d (i64 a2),.d (i64 a3),.d (i64 a4),.sl j 4 0 n],.d x]=some [.agg (⟨nm,⟨a1,a2⟩,⟨a3,a4⟩,es⟩:PBook).cells,x]:=by
 have e:jk (qbO h (k+1)) (.sl j 4 0 n)=some (qdw es):=zZ hg rfl (by rw[hn,List.length_map]);refine qm ?_ (qm rfl rfl);rw[jk,qm rfl (qm rfl (qm rfl (qm rfl (qm rfl (qm e rfl)))))];rfl
set_option maxHeartbeats 4000000 in
theorem pa48(l:PLog)(hc:qB l=0)(x y:List Int)(hx:U16 x)(hy:U16 y):FnV Tryz.prog 48 [l.d,zC x,zC y] (.tup [(qpf l x y).d,.vs (intss (qeZ l x y).times),.vs (intss (qeZ l x y).offs)]):=by
 have hR:=zX hc;have hlen:=hR.books;unfold qpf;obtain⟨S,hS⟩:∃ S,qeZ l x y=S:=⟨_,rfl⟩;rw[hS];unfold qeZ at hS;have hrep:(List.replicate (Int.toNat 100) [D.int IntKind.i64 0])=je (List.replicate 100 0):=by
  unfold je;rw[List.map_replicate];rfl
 show FnV Tryz.prog 48 [l.d,zC x,zC y] _;refine qA mixed qj Tryz.func48 rfl (ft:=ft48) 3 (by decide +kernel) (by rfl) fun {σ} Y st=>?_;conv=>whnf
 rw[hrep];have hw0:(List.replicate 100 (0:Int)).length=100:=List.length_replicate;have hw1:∀ n,atW (List.replicate 100 (0:Int)) n=0:=fun n=>by
  unfold atW;rw[List.getElem?_replicate]
  split<;>rfl
 generalize List.replicate 100 (0:Int)=w0 at hw0 hw1 hS;refine zc (T:=tys) qj (by exact qe mixed qj (by decide +kernel)) l.books (fun i (s:TdS)=>⟨[(1,.d (zC x)),(2,.d (zC y)),(3,.ptr 3 0),(6,.ptr 6 0),(9,.ptr 9 0),(10,.sl 168 1 0 s.times.length),(11,.sl 172 1 0 s.offs.length),(12,.sl 28 1 0 100),(13,.d (i64 i))],[(3,.box (.dd l.cells)),(6,.box (.dd [i64 0,.nils])),(9,.box (.vv [.d (i64 l.near),.sl 164 6 0 s.books.length])),(28,.arr 1 (.dd (je s.w))),(164,.arr 6 (.dd (s.books.map PBook.cells))),(168,.arr 1 (.dd (intss s.times))),(172,.arr 1 (.dd (intss s.offs)))],st⟩)
  (fun i r s=>qpe x y i r s=S/\s.books.length=i/\s.times.length=i/\s.offs.length=i/\s.w.length=100 /\ ∀ n,0<=atW s.w n/\atW s.w n<=1100+60*(8*i)) ⟨[],[],[],w0⟩
  ((Wk.born 10 168 1 rfl rfl rfl).trans ((Wk.born 11 172 1 rfl rfl rfl).trans ((Wk.bornAtD 9 164 6 [i64 l.near] [] rfl rfl rfl rfl rfl).trans (Wk.sub (by repeat' first|exact trivial|refine⟨?_,?_⟩|rfl|(simp only[List.length_map];rfl)|simp[PX.get]) (by repeat' first|exact trivial|refine⟨?_,?_⟩|rfl|(simp only[List.length_map];rfl)|simp[PX.get]))))) ⟨hS,rfl,rfl,rfl,hw0,fun n=>by rw[hw1];omega⟩ ?_ ?_
 ·rintro i b r s hbx hi hr ⟨hgo,hbl,htl,hol,hwl,hwb⟩
  have hbR:=hR.book b (List.mem_of_getElem? hbx);have hel:=hbR.ents;have hoff:=hbR.off;have hset:=hbR.set;have hck:=(qaJ hc (List.mem_of_getElem? hbx)).2.2.2;have htx:=fun n=>qny hx n;have hty:=fun n=>qny hy n;rw[qpe]at hgo;conv=>whnf
  refine qh (fun _=>?_) (fun h=>absurd hi (by have:=of_decide_eq_false h;simp at this;omega));conv=>whnf
  refine qr hbx ?_;conv=>whnf
  obtain⟨O0,hO0⟩:∃ v,qaf b.off (zj x (7*i))=v:=⟨_,rfl⟩;have hO1:=qaR hoff.2.1 (zj x (7*i));rw[hO0]at hO1;have c103:FnV Tryz.prog 103 [zC x,i64 (7*i:Nat)] (i64 (zj x (7*i))):=qkT x hx (7*i);have c53:FnV Tryz.prog 53 [b.off.d,i64 (zj x (7*i))] (i64 O0):=by
   rw[<- hO0];exact qpu b.off (zj x (7*i)) hoff.2.1 (by omega) (by omega) (htx _)
  generalize zj x (7*i)=T0 at c103 c53;have hil:i<3:=by omega
  refine qg ((7*i:Nat):Int) (by omega) (qa (by omega)) ?_;conv=>whnf
  refine ql (ds:=[zC x,i64 (7*i:Nat)]) c103 rfl rfl ?_;conv=>whnf
  refine ql (ds:=[b.off.d,i64 T0]) c53 rfl rfl ?_;conv=>whnf
  obtain⟨N0,hN0⟩:∃ v,1000+zj y (5*i)%100=v:=⟨_,rfl⟩;have c1:FnV Tryz.prog 103 [zC y,i64 (5*i:Nat)] (i64 (zj y (5*i))):=qkT y hy (5*i);have hb0:qmi x y i b s.w=⟨[],[],[O0],O0,N0,s.w⟩:=by unfold qmi;rw[hO0,hN0]
  have hty0:=hty (5*i);generalize zj y (5*i)=T1 at c1 hN0 hty0;unfold tdB at hgo;rw[hb0]at hgo;refine qg ((5*i:Nat):Int) (by omega) (qa (by omega)) ?_;conv=>whnf
  refine qf (ds:=[zC y,i64 (5*i:Nat)]) c1 rfl rfl ?_;conv=>whnf
  refine qg N0 (by rw[Int.tmod_eq_emod_of_nonneg hty0.1];exact hN0) (qa (by omega)) ?_;conv=>whnf
  obtain⟨E,hE⟩:∃ E,qnm x y i b.set 0 b.ents ⟨[],[],[O0],O0,N0,s.w⟩=E:=⟨_,rfl⟩;rw[hE]at hgo;refine zc (T:=tys) qj (by exact qe mixed qj (by decide +kernel)) b.ents (fun k (a:TdE)=>⟨[(1,.d (zC x)),(2,.d (zC y)),(3,.ptr 3 0),(6,.ptr 6 0),(9,.ptr 9 0),(10,.sl 168 1 0 s.times.length),(11,.sl 172 1 0 s.offs.length),(12,.sl 28 1 0 100),(13,.d (i64 i)),(14,.ptr 14 0),(15,.ptr 15 0),(16,.d (i64 a.off)),(17,.sl 159 1 0 a.mine.length),(18,.sl 141 1 0 a.times.length),(19,.d (i64 a.now)),(20,.d (i64 k))],
    [(3,.box (.dd l.cells)),(6,.box (.dd [i64 0,.nils])),(9,.box (.vv [.d (i64 l.near),.sl 164 6 0 s.books.length])),(14,.box (.dd b.cells)),(15,.box (.vv [.d (.str b.name),.d (i64 b.off.lo),.d (i64 b.off.hi),.d (i64 b.set.lo),.d (i64 b.set.hi),.sl 137 4 0 a.ents.length])),(28,.arr 1 (.dd (je a.w))),(137,.arr 4 (.dd (a.ents.map PEnt.cells))),(141,.arr 1 (.dd (je a.times))),(159,.arr 1 (.dd (je a.mine))),(164,.arr 6 (.dd (s.books.map PBook.cells))),(168,.arr 1 (.dd (intss s.times))),(172,.arr 1 (.dd (intss s.offs)))],st⟩)
   (fun k r a=>qnm x y i b.set k r a=E/\TdN i k a) ⟨[],[],[O0],O0,N0,s.w⟩
   ((Wk.move 56 159 rfl rfl).trans ((Wk.born 18 141 1 rfl rfl rfl).trans ((Wk.bornAtD 15 137 4 [.str b.name,i64 b.off.lo,i64 b.off.hi,i64 b.set.lo,i64 b.set.hi] [] rfl rfl rfl rfl rfl).trans (Wk.sub (by repeat' first|exact trivial|refine⟨?_,?_⟩|rfl|(simp only[List.length_map];rfl)|simp[PX.get]) (by repeat' first|exact trivial|refine⟨?_,?_⟩|rfl|(simp only[List.length_map];rfl)|simp[PX.get]))))) ⟨hE,⟨hwl,fun n=>by have:=hwb n;simp only;omega,by simp only;omega,by simp only;omega,Nat.le_refl _,rfl,Nat.le_refl _⟩⟩ ?_ ?_
  ·rintro k z r2 a hz hk hr2 ⟨hgo2,hN⟩
   rw[qnm]at hgo2;have hzR:=hck z (List.mem_of_getElem? hz);have nwl:=hN.wl;have nw:=hN.w;have nnow:=hN.now;have noff:=hN.off;have nel:=hN.el;have ntl:=hN.tl;have nml:=hN.ml;have hnum:=hzR.number;have hkl:k<8:=by omega
   have hty2:=hty (5*i+k+1);have c2:FnV Tryz.prog 103 [zC y,i64 (5*i+k+1:Nat)] (i64 (zj y (5*i+k+1))):=qkT y hy (5*i+k+1);have hto:toF y i k z a=if qnl a z&&decide (0<atW a.w z.number) then atW a.w z.number else a.now+zj y (5*i+k+1)%60:=rfl
   have hfb:qnl a z=(decide (z.kind=3)&&(zi a.ents z.number 0).isNone):=rfl;have c58:FnV Tryz.prog 58 [.agg (⟨b.name,b.off,b.set,a.ents⟩:PBook).cells,i64 z.number] (i64 (qii ⟨b.name,b.off,b.set,a.ents⟩ z.number)):=pa58 _ _ (by simp only;omega);have hfx:=fst_ge b.name b.off b.set a.ents z.number;generalize zj y (5*i+k+1)=T2 at hty2 c2 hto;generalize qii ⟨b.name,b.off,b.set,a.ents⟩ z.number=FX at c58 hfx;have hwn:=nw z.number;have hcell:(je a.w)[0+z.number.toNat]?=some [i64 (atW a.w z.number)]:=intC_at hnum.1 (by omega);conv=>whnf
   refine qh (fun _=>?_) (fun h=>absurd hk (by have:=of_decide_eq_false h;simp at this;omega));conv=>whnf
   refine qr hz ?_;conv=>whnf
   refine qg ((5*i:Nat):Int) (by omega) (qa (by omega)) ?_;conv=>whnf
   refine qg ((5*i+k:Nat):Int) (by omega) (qa (by omega)) ?_;conv=>whnf
   refine qg ((5*i+k+1:Nat):Int) (by omega) (qa (by omega)) ?_;conv=>whnf
   refine qf (ds:=[zC y,i64 (5*i+k+1:Nat)]) c2 rfl rfl ?_;conv=>whnf
   refine qf (ds:=[]) pa104 rfl rfl ?_;conv=>whnf
   refine qg (a.now+T2%60) (by rw[Int.tmod_eq_emod_of_nonneg hty2.1]) (qa (by omega)) ?_;conv=>whnf
   refine qh (fun h3=>?_) (fun h3=>?_)
   ·have h3:z.kind=3:=of_decide_eq_true h3
    conv=>whnf
    refine qq (ds:=[.agg (⟨b.name,b.off,b.set,a.ents⟩:PBook).cells,i64 z.number]) c58 rfl 1 (viewBk rfl rfl) ?_;conv=>whnf
    rw[hfx]
    cases hI:(zi a.ents z.number 0).isNone with
    | false=>
     have hF:qnl a z=false:=by rw[hfb,hI,Bool.and_false]
     have hto2:toF y i k z a=a.now+T2%60:=by rw[hto,hF];rfl
     have hto3:0<=a.now+T2%60/\a.now+T2%60<=1100+60*(8*i+(k+1:Nat)):=by omega
     generalize a.now+T2%60=to at hto2 hto3 ⊢;obtain⟨F,hFf⟩:∃ F,F=false:=⟨_,rfl⟩;rw[<- hFf]at hF;conv=>whnf
     refine qg (to+a.off) rfl (qa (by omega)) ?_;conv=>whnf
     have hout:qkp y i k z a=(decide (to<a.now)||(decide (to+a.off<0)||decide (20000<to+a.off))):=by unfold qkp;rw[hto2]
     refine qh (fun o1=>?_) (fun o1=>?_)
     ·have e:tdE x y i k b.set z a=a:=by unfold tdE;rw[hout,decide_eq_true (of_decide_eq_true o1),Bool.true_or];rfl
      rw[e]at hgo2;conv=>whnf
      refine qc (qa (by(try dsimp only);omega)) ?_;conv=>whnf
      exact⟨a,⟨hgo2,hN.mono⟩,(Wk.sub (by repeat' first|exact trivial|refine⟨?_,?_⟩|rfl|(simp only[List.length_map];rfl)|simp[PX.get]) (by repeat' first|exact trivial|refine⟨?_,?_⟩|rfl|(simp only[List.length_map];rfl)|simp[PX.get]))⟩
     ·conv=>whnf
      refine qh (fun o2=>?_) (fun o2=>?_)
      ·have e:tdE x y i k b.set z a=a:=by unfold tdE;rw[hout,decide_eq_true (of_decide_eq_true o2),Bool.true_or,Bool.or_true];rfl
       rw[e]at hgo2;conv=>whnf
       refine qc (qa (by(try dsimp only);omega)) ?_;conv=>whnf
       exact⟨a,⟨hgo2,hN.mono⟩,(Wk.sub (by repeat' first|exact trivial|refine⟨?_,?_⟩|rfl|(simp only[List.length_map];rfl)|simp[PX.get]) (by repeat' first|exact trivial|refine⟨?_,?_⟩|rfl|(simp only[List.length_map];rfl)|simp[PX.get]))⟩
      ·conv=>whnf
       refine qh (fun o3=>?_) (fun o3=>?_)
       ·have e:tdE x y i k b.set z a=a:=by unfold tdE;rw[hout,decide_eq_true (show 20000<to+a.off from of_decide_eq_true o3),Bool.or_true,Bool.or_true];rfl
        rw[e]at hgo2;conv=>whnf
        refine qc (qa (by(try dsimp only);omega)) ?_;conv=>whnf
        exact⟨a,⟨hgo2,hN.mono⟩,(Wk.sub (by repeat' first|exact trivial|refine⟨?_,?_⟩|rfl|(simp only[List.length_map];rfl)|simp[PX.get]) (by repeat' first|exact trivial|refine⟨?_,?_⟩|rfl|(simp only[List.length_map];rfl)|simp[PX.get]))⟩
       ·have hin:qkp y i k z a=false:=by rw[hout,decide_eq_false (of_decide_eq_false o1),decide_eq_false (of_decide_eq_false o2),decide_eq_false (show ¬ 20000<to+a.off from of_decide_eq_false o3)];rfl
        conv=>whnf
        refine qd rfl ?_;conv=>whnf
        refine qd (by simp[Els.len]) ?_;conv=>whnf
        refine qV (decide_eq_true (by
         show((a.ents.map PEnt.cells).length+1)*40<=140737488355328;rw[List.length_map];omega)) ?_
        conv=>whnf
        refine qd rfl ?_;conv=>whnf
        refine qd (by simp[Els.len,je]) ?_;conv=>whnf
        refine qV (decide_eq_true (by
         show((je a.times).length+1)*8<=140737488355328;rw[qbH];omega)) ?_
        conv=>whnf
        refine qh (fun k2=>?_) (fun k2=>?_)
        ·have k2:z.kind=2:=of_decide_eq_true k2
         have c3:FnV Tryz.prog 103 [zC x,i64 (7*i+k+1:Nat)] (i64 (zj x (7*i+k+1))):=qkT x hx (7*i+k+1);have c4:FnV Tryz.prog 53 [b.set.d,i64 (zj x (7*i+k+1))] (i64 (qaf b.set (zj x (7*i+k+1)))):=qpu b.set (zj x (7*i+k+1)) hset.2.1 (by omega) (by omega) (htx _);have hM:=qaR hset.2.1 (zj x (7*i+k+1));have e:=qki (x:=x) (set:=b.set) hin hto2 hF fun _=>rfl;generalize qaf b.set (zj x (7*i+k+1))=M at hM c4 e;generalize zj x (7*i+k+1)=T3 at c3 c4;rw[e]at hgo2;conv=>whnf
         refine qg ((7*i:Nat):Int) (by omega) (qa (by omega)) ?_;conv=>whnf
         refine qg ((7*i+k:Nat):Int) (by omega) (qa (by omega)) ?_;conv=>whnf
         refine qg ((7*i+k+1:Nat):Int) (by omega) (qa (by omega)) ?_;conv=>whnf
         refine ql (ds:=[zC x,i64 (7*i+k+1:Nat)]) c3 rfl rfl ?_;conv=>whnf
         refine ql (ds:=[b.set.d,i64 T3]) c4 rfl rfl ?_;conv=>whnf
         refine qd rfl ?_;conv=>whnf
         refine qd (by simp[Els.len,je]) ?_;conv=>whnf
         refine qV (decide_eq_true (by
          show((je a.mine).length+1)*8<=140737488355328;rw[qbH];omega)) ?_
         conv=>whnf
         refine qc (qa (by(try dsimp only);omega)) ?_;conv=>whnf
         have e2:tdX a z F to M=⟨a.ents ++ [{ z with shown:=to+a.off }],a.times ++ [to],a.mine ++ [M],M,to,if F then a.w.set z.number.toNat to else a.w⟩:=by unfold tdX;rw[if_pos k2,if_pos k2]
         have hN2:=qbI (F:=F) hN hnum hto3 (M:=M) (by omega);rw[e2]at hgo2 hN2;refine⟨_,⟨hgo2,hN2⟩,Wk.sub ⟨rfl,rfl,rfl,rfl,rfl,rfl,rfl,rfl,rfl,rfl,rfl,rfl,?_,?_,rfl,rfl,trivial⟩ ⟨rfl,rfl,rfl,rfl,?_,?_,?_,?_,?_,rfl,rfl,rfl,trivial⟩⟩
         ·show some (V.sl 159 1 0 ((je a.mine).length+1))=_
          simp[je]
         ·show some (V.sl 141 1 0 ((je a.times).length+1))=_
          simp[je]
         ·show some (Obj.box (.vv [.d (.str b.name),.d (i64 b.off.lo),.d (i64 b.off.hi),.d (i64 b.set.lo),.d (i64 b.set.hi),.sl 137 4 0 ((a.ents.map PEnt.cells).length+1)]))=_
          simp
         ·rw[hFf];rfl
         ·show some (Obj.arr 4 (.dd (a.ents.map PEnt.cells ++ [({ z with shown:=to+a.off }:PEnt).cells])))=_
          simp
         ·show some (Obj.arr 1 (.dd (je a.times ++ [[i64 to]])))=_
          rw[jn]
         ·show some (Obj.arr 1 (.dd (je a.mine ++ [[i64 M]])))=_
          rw[jn]
        ·have k2:¬ z.kind=2:=of_decide_eq_false k2
         have e:=qki (x:=x) (set:=b.set) (M:=0) hin hto2 hF fun h=>absurd h k2;have e2:tdX a z F to 0=⟨a.ents ++ [{ z with shown:=to+a.off }],a.times ++ [to],a.mine,a.off,to,if F then a.w.set z.number.toNat to else a.w⟩:=by unfold tdX;rw[if_neg k2,if_neg k2]
         have hN2:=qbI (F:=F) hN hnum hto3 (M:=0) (by omega);rw[e,e2]at hgo2;rw[e2]at hN2;conv=>whnf
         refine qc (qa (by(try dsimp only);omega)) ?_;conv=>whnf
         refine⟨_,⟨hgo2,hN2⟩,Wk.sub ⟨rfl,rfl,rfl,rfl,rfl,rfl,rfl,rfl,rfl,rfl,rfl,rfl,rfl,?_,rfl,rfl,trivial⟩ ⟨rfl,rfl,rfl,rfl,?_,?_,?_,?_,rfl,rfl,rfl,rfl,trivial⟩⟩
         ·show some (V.sl 141 1 0 ((je a.times).length+1))=_
          simp[je]
         ·show some (Obj.box (.vv [.d (.str b.name),.d (i64 b.off.lo),.d (i64 b.off.hi),.d (i64 b.set.lo),.d (i64 b.set.hi),.sl 137 4 0 ((a.ents.map PEnt.cells).length+1)]))=_
          simp
         ·rw[hFf];rfl
         ·show some (Obj.arr 4 (.dd (a.ents.map PEnt.cells ++ [({ z with shown:=to+a.off }:PEnt).cells])))=_
          simp
         ·show some (Obj.arr 1 (.dd (je a.times ++ [[i64 to]])))=_
          rw[jn]
    | true=>
     have hF:qnl a z=true:=by rw[hfb,hI,decide_eq_true h3];rfl
     rw[hF,Bool.true_and]at hto;obtain⟨F,hFf⟩:∃ F,F=true:=⟨_,rfl⟩;rw[<- hFf]at hF;conv=>whnf
     refine qh (fun _=>?_) (fun h=>absurd h (by simp;omega));conv=>whnf
     refine zo [i64 (atW a.w z.number)] hcell ?_;conv=>whnf
     refine qh (fun h4=>?_) (fun h4=>?_)
     ·rw[h4,if_pos rfl]at hto
      have h4:0<atW a.w z.number:=of_decide_eq_true h4;conv=>whnf
      refine qh (fun _=>?_) (fun h=>absurd h (by simp;omega));conv=>whnf
      refine zo [i64 (atW a.w z.number)] hcell ?_;have hto3:0<=atW a.w z.number/\atW a.w z.number<=1100+60*(8*i+(k+1:Nat)):=by omega
      have hto2:=hto;generalize atW a.w z.number=to at hto2 hto3 ⊢;conv=>whnf
      refine qg (to+a.off) rfl (qa (by omega)) ?_;conv=>whnf
      have hout:qkp y i k z a=(decide (to<a.now)||(decide (to+a.off<0)||decide (20000<to+a.off))):=by unfold qkp;rw[hto2]
      refine qh (fun o1=>?_) (fun o1=>?_)
      ·have e:tdE x y i k b.set z a=a:=by unfold tdE;rw[hout,decide_eq_true (of_decide_eq_true o1),Bool.true_or];rfl
       rw[e]at hgo2;conv=>whnf
       refine qc (qa (by(try dsimp only);omega)) ?_;conv=>whnf
       exact⟨a,⟨hgo2,hN.mono⟩,(Wk.sub (by repeat' first|exact trivial|refine⟨?_,?_⟩|rfl|(simp only[List.length_map];rfl)|simp[PX.get]) (by repeat' first|exact trivial|refine⟨?_,?_⟩|rfl|(simp only[List.length_map];rfl)|simp[PX.get]))⟩
      ·conv=>whnf
       refine qh (fun o2=>?_) (fun o2=>?_)
       ·have e:tdE x y i k b.set z a=a:=by unfold tdE;rw[hout,decide_eq_true (of_decide_eq_true o2),Bool.true_or,Bool.or_true];rfl
        rw[e]at hgo2;conv=>whnf
        refine qc (qa (by(try dsimp only);omega)) ?_;conv=>whnf
        exact⟨a,⟨hgo2,hN.mono⟩,(Wk.sub (by repeat' first|exact trivial|refine⟨?_,?_⟩|rfl|(simp only[List.length_map];rfl)|simp[PX.get]) (by repeat' first|exact trivial|refine⟨?_,?_⟩|rfl|(simp only[List.length_map];rfl)|simp[PX.get]))⟩
       ·conv=>whnf
        refine qh (fun o3=>?_) (fun o3=>?_)
        ·have e:tdE x y i k b.set z a=a:=by unfold tdE;rw[hout,decide_eq_true (show 20000<to+a.off from of_decide_eq_true o3),Bool.or_true,Bool.or_true];rfl
         rw[e]at hgo2;conv=>whnf
         refine qc (qa (by(try dsimp only);omega)) ?_;conv=>whnf
         exact⟨a,⟨hgo2,hN.mono⟩,(Wk.sub (by repeat' first|exact trivial|refine⟨?_,?_⟩|rfl|(simp only[List.length_map];rfl)|simp[PX.get]) (by repeat' first|exact trivial|refine⟨?_,?_⟩|rfl|(simp only[List.length_map];rfl)|simp[PX.get]))⟩
        ·have hin:qkp y i k z a=false:=by rw[hout,decide_eq_false (of_decide_eq_false o1),decide_eq_false (of_decide_eq_false o2),decide_eq_false (show ¬ 20000<to+a.off from of_decide_eq_false o3)];rfl
         conv=>whnf
         refine qh (fun _=>?_) (fun h=>absurd h (by simp;omega));conv=>whnf
         refine zo [i64 (atW a.w z.number)] hcell ?_;conv=>whnf
         refine qd rfl ?_;conv=>whnf
         refine qd (by simp[Els.len]) ?_;conv=>whnf
         refine qV (decide_eq_true (by
          show((a.ents.map PEnt.cells).length+1)*40<=140737488355328;rw[List.length_map];omega)) ?_
         conv=>whnf
         refine qd rfl ?_;conv=>whnf
         refine qd (by simp[Els.len,je]) ?_;conv=>whnf
         refine qV (decide_eq_true (by
          show((je a.times).length+1)*8<=140737488355328;rw[qbH];omega)) ?_
         conv=>whnf
         refine qh (fun k2=>?_) (fun k2=>?_)
         ·have k2:z.kind=2:=of_decide_eq_true k2
          have c3:FnV Tryz.prog 103 [zC x,i64 (7*i+k+1:Nat)] (i64 (zj x (7*i+k+1))):=qkT x hx (7*i+k+1);have c4:FnV Tryz.prog 53 [b.set.d,i64 (zj x (7*i+k+1))] (i64 (qaf b.set (zj x (7*i+k+1)))):=qpu b.set (zj x (7*i+k+1)) hset.2.1 (by omega) (by omega) (htx _);have hM:=qaR hset.2.1 (zj x (7*i+k+1));have e:=qki (x:=x) (set:=b.set) hin hto2 hF fun _=>rfl;generalize qaf b.set (zj x (7*i+k+1))=M at hM c4 e;generalize zj x (7*i+k+1)=T3 at c3 c4;rw[e]at hgo2;conv=>whnf
          refine qg ((7*i:Nat):Int) (by omega) (qa (by omega)) ?_;conv=>whnf
          refine qg ((7*i+k:Nat):Int) (by omega) (qa (by omega)) ?_;conv=>whnf
          refine qg ((7*i+k+1:Nat):Int) (by omega) (qa (by omega)) ?_;conv=>whnf
          refine ql (ds:=[zC x,i64 (7*i+k+1:Nat)]) c3 rfl rfl ?_;conv=>whnf
          refine ql (ds:=[b.set.d,i64 T3]) c4 rfl rfl ?_;conv=>whnf
          refine qd rfl ?_;conv=>whnf
          refine qd (by simp[Els.len,je]) ?_;conv=>whnf
          refine qV (decide_eq_true (by
           show((je a.mine).length+1)*8<=140737488355328;rw[qbH];omega)) ?_
          conv=>whnf
          refine qc (qa (by(try dsimp only);omega)) ?_;conv=>whnf
          have e2:tdX a z F to M=⟨a.ents ++ [{ z with shown:=to+a.off }],a.times ++ [to],a.mine ++ [M],M,to,if F then a.w.set z.number.toNat to else a.w⟩:=by unfold tdX;rw[if_pos k2,if_pos k2]
          have hN2:=qbI (F:=F) hN hnum hto3 (M:=M) (by omega);rw[e2]at hgo2 hN2;refine⟨_,⟨hgo2,hN2⟩,Wk.sub ⟨rfl,rfl,rfl,rfl,rfl,rfl,rfl,rfl,rfl,rfl,rfl,rfl,?_,?_,rfl,rfl,trivial⟩ ⟨rfl,rfl,rfl,rfl,?_,?_,?_,?_,?_,rfl,rfl,rfl,trivial⟩⟩
          ·show some (V.sl 159 1 0 ((je a.mine).length+1))=_
           simp[je]
          ·show some (V.sl 141 1 0 ((je a.times).length+1))=_
           simp[je]
          ·show some (Obj.box (.vv [.d (.str b.name),.d (i64 b.off.lo),.d (i64 b.off.hi),.d (i64 b.set.lo),.d (i64 b.set.hi),.sl 137 4 0 ((a.ents.map PEnt.cells).length+1)]))=_
           simp
          ·show some (Obj.arr 1 (.dd ((je a.w).set (0+z.number.toNat) [i64 to])))=_
           rw[hFf,qfH];rfl
          ·show some (Obj.arr 4 (.dd (a.ents.map PEnt.cells ++ [({ z with shown:=to+a.off }:PEnt).cells])))=_
           simp
          ·show some (Obj.arr 1 (.dd (je a.times ++ [[i64 to]])))=_
           rw[jn]
          ·show some (Obj.arr 1 (.dd (je a.mine ++ [[i64 M]])))=_
           rw[jn]
         ·have k2:¬ z.kind=2:=of_decide_eq_false k2
          have e:=qki (x:=x) (set:=b.set) (M:=0) hin hto2 hF fun h=>absurd h k2;have e2:tdX a z F to 0=⟨a.ents ++ [{ z with shown:=to+a.off }],a.times ++ [to],a.mine,a.off,to,if F then a.w.set z.number.toNat to else a.w⟩:=by unfold tdX;rw[if_neg k2,if_neg k2]
          have hN2:=qbI (F:=F) hN hnum hto3 (M:=0) (by omega);rw[e,e2]at hgo2;rw[e2]at hN2;conv=>whnf
          refine qc (qa (by(try dsimp only);omega)) ?_;conv=>whnf
          refine⟨_,⟨hgo2,hN2⟩,Wk.sub ⟨rfl,rfl,rfl,rfl,rfl,rfl,rfl,rfl,rfl,rfl,rfl,rfl,rfl,?_,rfl,rfl,trivial⟩ ⟨rfl,rfl,rfl,rfl,?_,?_,?_,?_,rfl,rfl,rfl,rfl,trivial⟩⟩
          ·show some (V.sl 141 1 0 ((je a.times).length+1))=_
           simp[je]
          ·show some (Obj.box (.vv [.d (.str b.name),.d (i64 b.off.lo),.d (i64 b.off.hi),.d (i64 b.set.lo),.d (i64 b.set.hi),.sl 137 4 0 ((a.ents.map PEnt.cells).length+1)]))=_
           simp
          ·show some (Obj.arr 1 (.dd ((je a.w).set (0+z.number.toNat) [i64 to])))=_
           rw[hFf,qfH];rfl
          ·show some (Obj.arr 4 (.dd (a.ents.map PEnt.cells ++ [({ z with shown:=to+a.off }:PEnt).cells])))=_
           simp
          ·show some (Obj.arr 1 (.dd (je a.times ++ [[i64 to]])))=_
           rw[jn]
     ·have h5:decide (0<atW a.w z.number)=false:=by simpa using h4
      rw[h5]at hto;have hto2:toF y i k z a=a.now+T2%60:=hto;have hto3:0<=a.now+T2%60/\a.now+T2%60<=1100+60*(8*i+(k+1:Nat)):=by omega
      generalize a.now+T2%60=to at hto2 hto3 ⊢;conv=>whnf
      refine qg (to+a.off) rfl (qa (by omega)) ?_;conv=>whnf
      have hout:qkp y i k z a=(decide (to<a.now)||(decide (to+a.off<0)||decide (20000<to+a.off))):=by unfold qkp;rw[hto2]
      refine qh (fun o1=>?_) (fun o1=>?_)
      ·have e:tdE x y i k b.set z a=a:=by unfold tdE;rw[hout,decide_eq_true (of_decide_eq_true o1),Bool.true_or];rfl
       rw[e]at hgo2;conv=>whnf
       refine qc (qa (by(try dsimp only);omega)) ?_;conv=>whnf
       exact⟨a,⟨hgo2,hN.mono⟩,(Wk.sub (by repeat' first|exact trivial|refine⟨?_,?_⟩|rfl|(simp only[List.length_map];rfl)|simp[PX.get]) (by repeat' first|exact trivial|refine⟨?_,?_⟩|rfl|(simp only[List.length_map];rfl)|simp[PX.get]))⟩
      ·conv=>whnf
       refine qh (fun o2=>?_) (fun o2=>?_)
       ·have e:tdE x y i k b.set z a=a:=by unfold tdE;rw[hout,decide_eq_true (of_decide_eq_true o2),Bool.true_or,Bool.or_true];rfl
        rw[e]at hgo2;conv=>whnf
        refine qc (qa (by(try dsimp only);omega)) ?_;conv=>whnf
        exact⟨a,⟨hgo2,hN.mono⟩,(Wk.sub (by repeat' first|exact trivial|refine⟨?_,?_⟩|rfl|(simp only[List.length_map];rfl)|simp[PX.get]) (by repeat' first|exact trivial|refine⟨?_,?_⟩|rfl|(simp only[List.length_map];rfl)|simp[PX.get]))⟩
       ·conv=>whnf
        refine qh (fun o3=>?_) (fun o3=>?_)
        ·have e:tdE x y i k b.set z a=a:=by unfold tdE;rw[hout,decide_eq_true (show 20000<to+a.off from of_decide_eq_true o3),Bool.or_true,Bool.or_true];rfl
         rw[e]at hgo2;conv=>whnf
         refine qc (qa (by(try dsimp only);omega)) ?_;conv=>whnf
         exact⟨a,⟨hgo2,hN.mono⟩,(Wk.sub (by repeat' first|exact trivial|refine⟨?_,?_⟩|rfl|(simp only[List.length_map];rfl)|simp[PX.get]) (by repeat' first|exact trivial|refine⟨?_,?_⟩|rfl|(simp only[List.length_map];rfl)|simp[PX.get]))⟩
        ·have hin:qkp y i k z a=false:=by rw[hout,decide_eq_false (of_decide_eq_false o1),decide_eq_false (of_decide_eq_false o2),decide_eq_false (show ¬ 20000<to+a.off from of_decide_eq_false o3)];rfl
         conv=>whnf
         refine qh (fun _=>?_) (fun h=>absurd h (by simp;omega));conv=>whnf
         refine zo [i64 (atW a.w z.number)] hcell ?_;conv=>whnf
         refine qd rfl ?_;conv=>whnf
         refine qd (by simp[Els.len]) ?_;conv=>whnf
         refine qV (decide_eq_true (by
          show((a.ents.map PEnt.cells).length+1)*40<=140737488355328;rw[List.length_map];omega)) ?_
         conv=>whnf
         refine qd rfl ?_;conv=>whnf
         refine qd (by simp[Els.len,je]) ?_;conv=>whnf
         refine qV (decide_eq_true (by
          show((je a.times).length+1)*8<=140737488355328;rw[qbH];omega)) ?_
         conv=>whnf
         refine qh (fun k2=>?_) (fun k2=>?_)
         ·have k2:z.kind=2:=of_decide_eq_true k2
          have c3:FnV Tryz.prog 103 [zC x,i64 (7*i+k+1:Nat)] (i64 (zj x (7*i+k+1))):=qkT x hx (7*i+k+1);have c4:FnV Tryz.prog 53 [b.set.d,i64 (zj x (7*i+k+1))] (i64 (qaf b.set (zj x (7*i+k+1)))):=qpu b.set (zj x (7*i+k+1)) hset.2.1 (by omega) (by omega) (htx _);have hM:=qaR hset.2.1 (zj x (7*i+k+1));have e:=qki (x:=x) (set:=b.set) hin hto2 hF fun _=>rfl;generalize qaf b.set (zj x (7*i+k+1))=M at hM c4 e;generalize zj x (7*i+k+1)=T3 at c3 c4;rw[e]at hgo2;conv=>whnf
          refine qg ((7*i:Nat):Int) (by omega) (qa (by omega)) ?_;conv=>whnf
          refine qg ((7*i+k:Nat):Int) (by omega) (qa (by omega)) ?_;conv=>whnf
          refine qg ((7*i+k+1:Nat):Int) (by omega) (qa (by omega)) ?_;conv=>whnf
          refine ql (ds:=[zC x,i64 (7*i+k+1:Nat)]) c3 rfl rfl ?_;conv=>whnf
          refine ql (ds:=[b.set.d,i64 T3]) c4 rfl rfl ?_;conv=>whnf
          refine qd rfl ?_;conv=>whnf
          refine qd (by simp[Els.len,je]) ?_;conv=>whnf
          refine qV (decide_eq_true (by
           show((je a.mine).length+1)*8<=140737488355328;rw[qbH];omega)) ?_
          conv=>whnf
          refine qc (qa (by(try dsimp only);omega)) ?_;conv=>whnf
          have e2:tdX a z F to M=⟨a.ents ++ [{ z with shown:=to+a.off }],a.times ++ [to],a.mine ++ [M],M,to,if F then a.w.set z.number.toNat to else a.w⟩:=by unfold tdX;rw[if_pos k2,if_pos k2]
          have hN2:=qbI (F:=F) hN hnum hto3 (M:=M) (by omega);rw[e2]at hgo2 hN2;refine⟨_,⟨hgo2,hN2⟩,Wk.sub ⟨rfl,rfl,rfl,rfl,rfl,rfl,rfl,rfl,rfl,rfl,rfl,rfl,?_,?_,rfl,rfl,trivial⟩ ⟨rfl,rfl,rfl,rfl,?_,?_,?_,?_,?_,rfl,rfl,rfl,trivial⟩⟩
          ·show some (V.sl 159 1 0 ((je a.mine).length+1))=_
           simp[je]
          ·show some (V.sl 141 1 0 ((je a.times).length+1))=_
           simp[je]
          ·show some (Obj.box (.vv [.d (.str b.name),.d (i64 b.off.lo),.d (i64 b.off.hi),.d (i64 b.set.lo),.d (i64 b.set.hi),.sl 137 4 0 ((a.ents.map PEnt.cells).length+1)]))=_
           simp
          ·show some (Obj.arr 1 (.dd ((je a.w).set (0+z.number.toNat) [i64 to])))=_
           rw[hFf,qfH];rfl
          ·show some (Obj.arr 4 (.dd (a.ents.map PEnt.cells ++ [({ z with shown:=to+a.off }:PEnt).cells])))=_
           simp
          ·show some (Obj.arr 1 (.dd (je a.times ++ [[i64 to]])))=_
           rw[jn]
          ·show some (Obj.arr 1 (.dd (je a.mine ++ [[i64 M]])))=_
           rw[jn]
         ·have k2:¬ z.kind=2:=of_decide_eq_false k2
          have e:=qki (x:=x) (set:=b.set) (M:=0) hin hto2 hF fun h=>absurd h k2;have e2:tdX a z F to 0=⟨a.ents ++ [{ z with shown:=to+a.off }],a.times ++ [to],a.mine,a.off,to,if F then a.w.set z.number.toNat to else a.w⟩:=by unfold tdX;rw[if_neg k2,if_neg k2]
          have hN2:=qbI (F:=F) hN hnum hto3 (M:=0) (by omega);rw[e,e2]at hgo2;rw[e2]at hN2;conv=>whnf
          refine qc (qa (by(try dsimp only);omega)) ?_;conv=>whnf
          refine⟨_,⟨hgo2,hN2⟩,Wk.sub ⟨rfl,rfl,rfl,rfl,rfl,rfl,rfl,rfl,rfl,rfl,rfl,rfl,rfl,?_,rfl,rfl,trivial⟩ ⟨rfl,rfl,rfl,rfl,?_,?_,?_,?_,rfl,rfl,rfl,rfl,trivial⟩⟩
          ·show some (V.sl 141 1 0 ((je a.times).length+1))=_
           simp[je]
          ·show some (Obj.box (.vv [.d (.str b.name),.d (i64 b.off.lo),.d (i64 b.off.hi),.d (i64 b.set.lo),.d (i64 b.set.hi),.sl 137 4 0 ((a.ents.map PEnt.cells).length+1)]))=_
           simp
          ·show some (Obj.arr 1 (.dd ((je a.w).set (0+z.number.toNat) [i64 to])))=_
           rw[hFf,qfH];rfl
          ·show some (Obj.arr 4 (.dd (a.ents.map PEnt.cells ++ [({ z with shown:=to+a.off }:PEnt).cells])))=_
           simp
          ·show some (Obj.arr 1 (.dd (je a.times ++ [[i64 to]])))=_
           rw[jn]
   ·have h3:¬ z.kind=3:=of_decide_eq_false h3
    conv=>whnf
    have hF:qnl a z=false:=by rw[hfb,decide_eq_false h3];rfl
    have hto2:toF y i k z a=a.now+T2%60:=by rw[hto,hF];rfl
    have hto3:0<=a.now+T2%60/\a.now+T2%60<=1100+60*(8*i+(k+1:Nat)):=by omega
    generalize a.now+T2%60=to at hto2 hto3 ⊢;obtain⟨F,hFf⟩:∃ F,F=false:=⟨_,rfl⟩;rw[<- hFf]at hF;refine qg (to+a.off) rfl (qa (by omega)) ?_;conv=>whnf
    have hout:qkp y i k z a=(decide (to<a.now)||(decide (to+a.off<0)||decide (20000<to+a.off))):=by unfold qkp;rw[hto2]
    refine qh (fun o1=>?_) (fun o1=>?_)
    ·have e:tdE x y i k b.set z a=a:=by unfold tdE;rw[hout,decide_eq_true (of_decide_eq_true o1),Bool.true_or];rfl
     rw[e]at hgo2;conv=>whnf
     refine qc (qa (by(try dsimp only);omega)) ?_;conv=>whnf
     exact⟨a,⟨hgo2,hN.mono⟩,(Wk.sub (by repeat' first|exact trivial|refine⟨?_,?_⟩|rfl|(simp only[List.length_map];rfl)|simp[PX.get]) (by repeat' first|exact trivial|refine⟨?_,?_⟩|rfl|(simp only[List.length_map];rfl)|simp[PX.get]))⟩
    ·conv=>whnf
     refine qh (fun o2=>?_) (fun o2=>?_)
     ·have e:tdE x y i k b.set z a=a:=by unfold tdE;rw[hout,decide_eq_true (of_decide_eq_true o2),Bool.true_or,Bool.or_true];rfl
      rw[e]at hgo2;conv=>whnf
      refine qc (qa (by(try dsimp only);omega)) ?_;conv=>whnf
      exact⟨a,⟨hgo2,hN.mono⟩,(Wk.sub (by repeat' first|exact trivial|refine⟨?_,?_⟩|rfl|(simp only[List.length_map];rfl)|simp[PX.get]) (by repeat' first|exact trivial|refine⟨?_,?_⟩|rfl|(simp only[List.length_map];rfl)|simp[PX.get]))⟩
     ·conv=>whnf
      refine qh (fun o3=>?_) (fun o3=>?_)
      ·have e:tdE x y i k b.set z a=a:=by unfold tdE;rw[hout,decide_eq_true (show 20000<to+a.off from of_decide_eq_true o3),Bool.or_true,Bool.or_true];rfl
       rw[e]at hgo2;conv=>whnf
       refine qc (qa (by(try dsimp only);omega)) ?_;conv=>whnf
       exact⟨a,⟨hgo2,hN.mono⟩,(Wk.sub (by repeat' first|exact trivial|refine⟨?_,?_⟩|rfl|(simp only[List.length_map];rfl)|simp[PX.get]) (by repeat' first|exact trivial|refine⟨?_,?_⟩|rfl|(simp only[List.length_map];rfl)|simp[PX.get]))⟩
      ·have hin:qkp y i k z a=false:=by rw[hout,decide_eq_false (of_decide_eq_false o1),decide_eq_false (of_decide_eq_false o2),decide_eq_false (show ¬ 20000<to+a.off from of_decide_eq_false o3)];rfl
       conv=>whnf
       refine qd rfl ?_;conv=>whnf
       refine qd (by simp[Els.len]) ?_;conv=>whnf
       refine qV (decide_eq_true (by
        show((a.ents.map PEnt.cells).length+1)*40<=140737488355328;rw[List.length_map];omega)) ?_
       conv=>whnf
       refine qd rfl ?_;conv=>whnf
       refine qd (by simp[Els.len,je]) ?_;conv=>whnf
       refine qV (decide_eq_true (by
        show((je a.times).length+1)*8<=140737488355328;rw[qbH];omega)) ?_
       conv=>whnf
       refine qh (fun k2=>?_) (fun k2=>?_)
       ·have k2:z.kind=2:=of_decide_eq_true k2
        have c3:FnV Tryz.prog 103 [zC x,i64 (7*i+k+1:Nat)] (i64 (zj x (7*i+k+1))):=qkT x hx (7*i+k+1);have c4:FnV Tryz.prog 53 [b.set.d,i64 (zj x (7*i+k+1))] (i64 (qaf b.set (zj x (7*i+k+1)))):=qpu b.set (zj x (7*i+k+1)) hset.2.1 (by omega) (by omega) (htx _);have hM:=qaR hset.2.1 (zj x (7*i+k+1));have e:=qki (x:=x) (set:=b.set) hin hto2 hF fun _=>rfl;generalize qaf b.set (zj x (7*i+k+1))=M at hM c4 e;generalize zj x (7*i+k+1)=T3 at c3 c4;rw[e]at hgo2;conv=>whnf
        refine qg ((7*i:Nat):Int) (by omega) (qa (by omega)) ?_;conv=>whnf
        refine qg ((7*i+k:Nat):Int) (by omega) (qa (by omega)) ?_;conv=>whnf
        refine qg ((7*i+k+1:Nat):Int) (by omega) (qa (by omega)) ?_;conv=>whnf
        refine ql (ds:=[zC x,i64 (7*i+k+1:Nat)]) c3 rfl rfl ?_;conv=>whnf
        refine ql (ds:=[b.set.d,i64 T3]) c4 rfl rfl ?_;conv=>whnf
        refine qd rfl ?_;conv=>whnf
        refine qd (by simp[Els.len,je]) ?_;conv=>whnf
        refine qV (decide_eq_true (by
         show((je a.mine).length+1)*8<=140737488355328;rw[qbH];omega)) ?_
        conv=>whnf
        refine qc (qa (by(try dsimp only);omega)) ?_;conv=>whnf
        have e2:tdX a z F to M=⟨a.ents ++ [{ z with shown:=to+a.off }],a.times ++ [to],a.mine ++ [M],M,to,if F then a.w.set z.number.toNat to else a.w⟩:=by unfold tdX;rw[if_pos k2,if_pos k2]
        have hN2:=qbI (F:=F) hN hnum hto3 (M:=M) (by omega);rw[e2]at hgo2 hN2;refine⟨_,⟨hgo2,hN2⟩,Wk.sub ⟨rfl,rfl,rfl,rfl,rfl,rfl,rfl,rfl,rfl,rfl,rfl,rfl,?_,?_,rfl,rfl,trivial⟩ ⟨rfl,rfl,rfl,rfl,?_,?_,?_,?_,?_,rfl,rfl,rfl,trivial⟩⟩
        ·show some (V.sl 159 1 0 ((je a.mine).length+1))=_
         simp[je]
        ·show some (V.sl 141 1 0 ((je a.times).length+1))=_
         simp[je]
        ·show some (Obj.box (.vv [.d (.str b.name),.d (i64 b.off.lo),.d (i64 b.off.hi),.d (i64 b.set.lo),.d (i64 b.set.hi),.sl 137 4 0 ((a.ents.map PEnt.cells).length+1)]))=_
         simp
        ·rw[hFf];rfl
        ·show some (Obj.arr 4 (.dd (a.ents.map PEnt.cells ++ [({ z with shown:=to+a.off }:PEnt).cells])))=_
         simp
        ·show some (Obj.arr 1 (.dd (je a.times ++ [[i64 to]])))=_
         rw[jn]
        ·show some (Obj.arr 1 (.dd (je a.mine ++ [[i64 M]])))=_
         rw[jn]
       ·have k2:¬ z.kind=2:=of_decide_eq_false k2
        have e:=qki (x:=x) (set:=b.set) (M:=0) hin hto2 hF fun h=>absurd h k2;have e2:tdX a z F to 0=⟨a.ents ++ [{ z with shown:=to+a.off }],a.times ++ [to],a.mine,a.off,to,if F then a.w.set z.number.toNat to else a.w⟩:=by unfold tdX;rw[if_neg k2,if_neg k2]
        have hN2:=qbI (F:=F) hN hnum hto3 (M:=0) (by omega);rw[e,e2]at hgo2;rw[e2]at hN2;conv=>whnf
        refine qc (qa (by(try dsimp only);omega)) ?_;conv=>whnf
        refine⟨_,⟨hgo2,hN2⟩,Wk.sub ⟨rfl,rfl,rfl,rfl,rfl,rfl,rfl,rfl,rfl,rfl,rfl,rfl,rfl,?_,rfl,rfl,trivial⟩ ⟨rfl,rfl,rfl,rfl,?_,?_,?_,?_,rfl,rfl,rfl,rfl,trivial⟩⟩
        ·show some (V.sl 141 1 0 ((je a.times).length+1))=_
         simp[je]
        ·show some (Obj.box (.vv [.d (.str b.name),.d (i64 b.off.lo),.d (i64 b.off.hi),.d (i64 b.set.lo),.d (i64 b.set.hi),.sl 137 4 0 ((a.ents.map PEnt.cells).length+1)]))=_
         simp
        ·rw[hFf];rfl
        ·show some (Obj.arr 4 (.dd (a.ents.map PEnt.cells ++ [({ z with shown:=to+a.off }:PEnt).cells])))=_
         simp
        ·show some (Obj.arr 1 (.dd (je a.times ++ [[i64 to]])))=_
         rw[jn]
  ·rintro a ⟨hgo2,hN⟩
   have hgo2:a=E:=hgo2;rw[<- hgo2]at hgo;have nel:=hN.el;have ntl:=hN.tl;have nml:=hN.ml;conv=>whnf
   refine qh (fun h=>absurd h (by simp)) (fun _=>?_);conv=>whnf
   have hAl:(s.books.map PBook.cells).length=i:=by simp;omega
   have hTl:(intss s.times).length=i:=by simp[intss];omega
   have hOl:(intss s.offs).length=i:=by simp[intss];omega
   generalize hA:s.books.map PBook.cells=A at hAl ⊢;generalize hT:intss s.times=T at hTl ⊢;generalize hO:intss s.offs=O at hOl ⊢;refine qd rfl ?_;conv=>whnf
   refine qd (by show s.books.length=A.length;omega) ?_;conv=>whnf
   refine qV (by
    show(true && !jj 164 (List.flatten (qM A ++ [[.d (.str b.name),.d (i64 b.off.lo),.d (i64 b.off.hi),.d (i64 b.set.lo),.d (i64 b.set.hi),.sl 137 4 0 a.ents.length]])))=true;rw[jW];rfl) ?_
   conv=>whnf
   refine qV (decide_eq_true (by
    show(A.length+1)*72<=140737488355328;omega)) ?_
   conv=>whnf
   refine qd rfl ?_;conv=>whnf
   refine qd (by show s.times.length=T.length;omega) ?_;conv=>whnf
   refine qV (by
    show(true && !jj 168 (List.flatten (qM T ++ [[V.sl 141 1 0 a.times.length]])))=true;rw[jW];rfl) ?_
   conv=>whnf
   refine qV (decide_eq_true (by
    show(T.length+1)*24<=140737488355328;omega)) ?_
   conv=>whnf
   refine qd rfl ?_;conv=>whnf
   refine qd (by show s.offs.length=O.length;omega) ?_;conv=>whnf
   refine qV (by
    show(true && !jj 172 (List.flatten (qM O ++ [[V.sl 159 1 0 a.mine.length]])))=true;rw[jW];rfl) ?_
   conv=>whnf
   refine qV (decide_eq_true (by
    show(O.length+1)*24<=140737488355328;omega)) ?_
   conv=>whnf
   refine qc (qa (by(try dsimp only);omega)) ?_;conv=>whnf
   have hkk:∀ f X,qt f (qM A++X)=qM A++qt f X:=fun f X=>qi ..;refine⟨⟨s.books ++ [{ b with ents:=a.ents }],s.times ++ [a.times],s.offs ++ [a.mine],a.w⟩,⟨hgo,by simp;omega,by simp;omega,by simp;omega,hN.wl,fun n=>by have:=hN.w n;simp only;omega⟩,?_⟩;refine(Wk.sub (e':=[(1,.d (zC x)),(2,.d (zC y)),(3,.ptr 3 0),(6,.ptr 6 0),(9,.ptr 9 0),(10,.sl 168 1 0 (T.length+1)),(11,.sl 172 1 0 (O.length+1)),(12,.sl 28 1 0 100),(13,.d (i64 (i+1:Nat)))])
    (h':=[(3,.box (.dd l.cells)),(6,.box (.dd [i64 0,.nils])),(9,.box (.vv [.d (i64 l.near),.sl 164 6 0 (A.length+1)])),(28,.arr 1 (.dd (je a.w))),(137,.arr 4 (.dd (a.ents.map PEnt.cells))),(141,.arr 1 (.dd (je a.times))),(159,.arr 1 (.dd (je a.mine))),(164,.arr 6 (.vv (qM A ++ [[.d (.str b.name),.d (i64 b.off.lo),.d (i64 b.off.hi),.d (i64 b.set.lo),.d (i64 b.set.hi),.sl 137 4 0 a.ents.length]]))),(168,.arr 1 (.vv (qM T ++ [[.sl 141 1 0 a.times.length]]))),(172,.arr 1 (.vv (qM O ++ [[.sl 159 1 0 a.mine.length]])))])
    ⟨rfl,rfl,rfl,rfl,rfl,rfl,rfl,rfl,rfl,trivial⟩ ⟨rfl,rfl,rfl,rfl,rfl,rfl,rfl,?_,?_,rfl,trivial⟩).trans ?_
   ·show some (Obj.arr 6 (.vv (qt _ (qt _ (qt _ (qt _ (qM A++_)))))))=_
    rw[qi,qi,qi,qi];rfl
   ·show some (Obj.arr 1 (.vv (qt _ (qt _ (qM T++_)))))=_
    rw[qi,qi];rfl
   refine(Wk.frzArr 1 [137] 164 (sz:=6) (vs:=qM A ++ [[.d (.str b.name),.d (i64 b.off.lo),.d (i64 b.off.hi),.d (i64 b.set.lo),.d (i64 b.set.hi),.sl 137 4 0 a.ents.length]]) (ds:=A ++ [({ b with ents:=a.ents }:PBook).cells]) rfl (qae (qaH (qm rfl (qm rfl (qm rfl (qm rfl (qm rfl (qm (zZ (es':=a.ents.map PEnt.cells) rfl rfl (by simp)) rfl))))))) _)).trans ?_;refine(Wk.frzArr 1 [141] 168 (sz:=1) (vs:=qM T ++ [[.sl 141 1 0 a.times.length]]) (ds:=T ++ [[zd a.times]]) rfl (qae (qaH (qm (zZ (es':=je a.times) rfl rfl (by simp[je])) rfl)) _)).trans ?_;refine(Wk.frzArr 1 [159] 172 (sz:=1) (vs:=qM O ++ [[.sl 159 1 0 a.mine.length]]) (ds:=O ++ [[zd a.mine]]) rfl (qae (qaH (qm (zZ (es':=je a.mine) rfl rfl (by simp[je])) rfl)) _)).trans ?_;subst hA hT hO;refine Wk.sub ⟨rfl,rfl,rfl,rfl,rfl,?_,?_,rfl,rfl,trivial⟩ ⟨rfl,rfl,?_,rfl,?_,?_,?_,trivial⟩
   ·show some (V.sl 168 1 0 ((intss s.times).length+1))=_
    simp[intss]
   ·show some (V.sl 172 1 0 ((intss s.offs).length+1))=_
    simp[intss]
   ·show some (Obj.box (.vv [.d (i64 l.near),.sl 164 6 0 ((s.books.map PBook.cells).length+1)]))=_
    simp
   ·show some (Obj.arr 6 (.dd (s.books.map PBook.cells ++ [({ b with ents:=a.ents }:PBook).cells])))=_
    simp
   ·show some (Obj.arr 1 (.dd (intss s.times ++ [[zd a.times]])))=_
    simp[intss]
   ·show some (Obj.arr 1 (.dd (intss s.offs ++ [[zd a.mine]])))=_
    simp[intss]
 ·rintro s ⟨hgo,hbl,htl,hol,hwl,hwb⟩
  have hgo:s=S:=hgo;subst hgo;conv=>whnf
  refine qh (fun h=>absurd h (by simp)) (fun _=>?_);conv=>whnf
  refine qb 1 (ds:=[(⟨l.near,s.books⟩:PLog).d,.vs (intss s.times),.vs (intss s.offs)]) (qm (show jk _ (.agg [.d (i64 l.near),.sl 164 6 0 s.books.length])=_ from by
   rw[jk,qm rfl (qm (zZ (es':=s.books.map PBook.cells) rfl rfl (by simp)) rfl)];rfl) (qm (zZ (es':=intss s.times) rfl rfl (by simp[intss])) (qm (zZ (es':=intss s.offs) rfl rfl (by simp[intss])) rfl))) ⟨⟨rfl,rfl⟩,rfl⟩
end Go.PX
namespace Go.PX
open Go.Proofs
structure ToldO(l:PLog)(z:TdS):Prop where
 R:ToldR l.books z
 check:qB ⟨l.near,z.books⟩=0
 truth:TruthX ⟨l.near,z.books⟩ 0 [] (qnM z.offs)
theorem told_o{l:PLog}(h:qB l=0){x y:List Int}(hy:∀ n∈y,0<=n):ToldO l (qeZ l x y):=by
 have hR:ToldR l.books (qeZ l x y):=told_R (fun bk hbk=>by
  obtain⟨h1,h2,_,h4⟩:=qaJ h hbk;exact⟨h1.2.1,h2.2.1,h4⟩) hy
 refine⟨hR,?_,told_truth hR rfl⟩;generalize qeZ l x y=z at hR;refine check_of h rfl ?_ fun b hb=>?_
 ·refine List.ext_getElem? fun i=>?_
  rw[List.getElem?_map,List.getElem?_map];show Option.map PBook.name z.books[i]?=_
  cases hz:z.books[i]? with
  | none=>
   rw[List.getElem?_eq_none_iff]at hz;have hbl:=hR.bl;rw[List.getElem?_eq_none (by omega)]
  | some b=>
   obtain⟨b0,_,_,h1,h2,_⟩:=hR.book i b hz;rw[h1,Option.map_some,Option.map_some,h2]
 ·have hb:b∈z.books:=hb
  obtain⟨i,hi⟩:=List.getElem?_of_mem hb;obtain⟨b0,T,O,h1,_,h3,h4,_,_,h5,h6⟩:=hR.book i b hi;obtain⟨k1,k2,k3,_⟩:=qaJ h (List.mem_of_getElem? h1);exact⟨by rw[h3];exact k1,by rw[h4];exact k2,by omega,h5.ent⟩
section
variable {l : PLog} {z : TdS}
theorem ToldO.fit(h:ToldO l z):qaV ⟨l.near,z.books⟩ 0 []=true:=qdh.2 ⟨_,h.truth⟩
theorem ToldO.fits(h:ToldO l z):qjS ⟨l.near,z.books⟩=(true,0):=by unfold qjS;rw[if_pos h.check,h.fit]
theorem fit_need{l:PLog}(h:qB l=0)(hf:qaV l 0 []=true):qdy l=(0,0):=by
 have hw:qaV l 1048576 []=true:=by
  obtain⟨t,ht⟩:=qdh.1 hf;refine qdh.2 ⟨t,ht.right,fun i b hb=>?_,fun i b n hb h1 h2=>?_,ht.ord,ht.rep⟩
  ·have:=ht.off i b hb;omega
  ·have:=ht.set i b n hb h1 h2;omega
 obtain⟨h1,_,h3,_,h5⟩:=need_ok h hw;have h0:(qdy l).1=0:=by
  rcases Int.lt_or_le 0 (qdy l).1 with hlt | hle
  ·have:=h5 0 (Int.le_refl _) hlt
   rw[hf]at this;cases this
  ·omega
 exact Prod.ext h0 h3
theorem ToldO.need(h:ToldO l z):qdy ⟨l.near,z.books⟩=(0,0):=fit_need h.check h.fit
theorem fit_conf{l:PLog}(h:qB l=0)(hf:qaV l 0 []=true):qex l=([],0):=by
 rcases conf_ok h with⟨h1,_,_,_,h5⟩ | ⟨_,h2⟩
 ·have h6:=h5 [] hf
  have h7:(qex l).1 = []:=List.eq_nil_of_length_eq_zero (by simpa using h6);exact Prod.ext h7 h1
 ·have:=h2 []
  rw[hf]at this;cases this
theorem ToldO.conf(h:ToldO l z):qex ⟨l.near,z.books⟩=([],0):=fit_conf h.check h.fit
theorem ToldO.offs(h:ToldO l z){i:Nat}{b:PBook}(hb:z.books[i]?=some b):qiL ⟨l.near,z.books⟩ i=(qhi ⟨l.near,z.books⟩ i,0):=by
 have hl:=(List.getElem?_eq_some_iff.1 hb).1;unfold qiL;rw[if_pos h.check,if_neg (by unfold qbP inB;simp;omega),if_pos h.fit]
theorem ToldO.offs_in(h:ToldO l z){i:Nat}{b:PBook}(hb:z.books[i]?=some b){O:List Int}(hO:z.offs[i]?=some O):(qhi ⟨l.near,z.books⟩ i).length=O.length /\ ∀ (n:Nat) s o,(qhi ⟨l.near,z.books⟩ i)[n]?=some s->O[n]?=some o->s.lo<=o/\o<=s.hi:=by
 obtain⟨b0,T,O',_,_,_,_,_,h2,h3,_⟩:=h.R.book i b hb;rw[hO]at h2
 cases h2
 have hbk:qcF ⟨l.near,z.books⟩ i=b:=by unfold qcF;simp only[Int.toNat_natCast,hb,Option.getD_some]
 refine⟨by unfold qhi;rw[List.length_map,List.length_range,hbk,h3.ol],fun n s o hs ho=>?_⟩;have hn:=(List.getElem?_eq_some_iff.1 ho).1;rw[h3.ol]at hn;unfold qhi at hs;rw[List.getElem?_map,hbk,List.getElem?_range hn]at hs
 cases hs
 have hp:(⟨(i:Nat),(n:Nat)⟩:Per)∈jL ⟨l.near,z.books⟩:=qiO hb (by omega);have hr:=qcf ⟨l.near,z.books⟩;have e1:=qhW h.truth hp hr;have e2:=qhW h.truth hr hp;have h0:=h.truth.right;have ht:qnM z.offs ⟨(i:Nat),(n:Nat)⟩=o:=by
  unfold qnM;rw[if_neg (by simp only;omega)];simp only[Int.toNat_natCast,hO,Option.getD_some,ho]
 rw[h0,ht]at e1 e2;unfold zq;unfold qof at e1 e2;simp only;omega
theorem ToldO.ent(h:ToldO l z){i k:Nat}{T:List Int}{u:Int}(hT:z.times[i]?=some T)(hu:T[k]?=some u):∃ b e,At ⟨l.near,z.books⟩ i k b e/\qgT ⟨l.near,z.books⟩ (qnM z.offs) ⟨i,k⟩=u:=by
 have hl:=(List.getElem?_eq_some_iff.1 hT).1;have h1:=h.R.bl;have h2:=h.R.tl;obtain⟨b,hb⟩:∃ b,z.books[i]?=some b:=⟨_,List.getElem?_eq_getElem (by omega)⟩;obtain⟨b0,T',O,_,_,_,_,h3,_,h5,_⟩:=h.R.book i b hb;rw[hT]at h3
 cases h3
 have hk:=(List.getElem?_eq_some_iff.1 hu).1;rw[h5.tl]at hk;obtain⟨e,he⟩:∃ e,b.ents[k]?=some e:=⟨_,List.getElem?_eq_getElem hk⟩;have hA:At ⟨l.near,z.books⟩ i k b e:=⟨hb,he⟩;obtain⟨T',u',h6,h7,h8⟩:=told_inst h.R rfl hA;rw[hT]at h6
 cases h6
 rw[hu]at h7
 cases h7
 exact⟨b,e,hA,h8⟩
theorem qnz(h:ToldO l z){xs:List PAt}(hx:∀ x∈xs,qkn ⟨l.near,z.books⟩ x=true):qgO ⟨l.near,z.books⟩ xs=0:=by
 unfold qgO qbf;rw[if_pos h.check,if_pos (List.all_eq_true.2 hx),if_pos rfl,if_pos h.fit]
theorem ToldO.inst(h:ToldO l z){i k:Nat}{T:List Int}{u:Int}(hT:z.times[i]?=some T)(hu:T[k]?=some u):qgP ⟨l.near,z.books⟩ ⟨i,k⟩=(qeY ⟨l.near,z.books⟩ ⟨i,k⟩,0)/\(qeY ⟨l.near,z.books⟩ ⟨i,k⟩).lo<=u/\u<=(qeY ⟨l.near,z.books⟩ ⟨i,k⟩).hi:=by
 obtain⟨b,e,hA,hi⟩:=h.ent hT hu;have hx:qkn ⟨l.near,z.books⟩ ⟨i,k⟩=true:=qar.2 ⟨i,k,b,e,rfl,hA⟩;have:=inst_in h.truth hx;rw[hi]at this;refine⟨?_,this⟩;unfold qgP;rw[if_pos (qnz h fun x hx2=>by rw[List.mem_singleton]at hx2;rw[hx2];exact hx)]
theorem order_zero(s:Span):(qgQ s=1->0<s.lo)/\(qgQ s=2->s.hi<0)/\(qgQ s=3->s=⟨0,0⟩):=by
 unfold qgQ
 split
 ·rename_i h;exact⟨fun h=>by omega,fun h=>by omega,fun _=>h⟩
 ·split
  ·rename_i h;exact⟨fun _=>h,fun h=>by omega,fun h=>by omega⟩
  ·split
   ·rename_i h;exact⟨fun h=>by omega,fun _=>h,fun h=>by omega⟩
   ·exact⟨fun h=>by omega,fun h=>by omega,fun h=>by omega⟩
theorem ToldO.apart(h:ToldO l z){i k j m:Nat}{T T':List Int}{u v:Int}(hT:z.times[i]?=some T)(hu:T[k]?=some u)(hT':z.times[j]?=some T')(hv:T'[m]?=some v) :
  ∃ s o,qde ⟨l.near,z.books⟩ ⟨i,k⟩ ⟨j,m⟩=(s,o,0)/\qay ⟨l.near,z.books⟩ ⟨i,k⟩ ⟨j,m⟩=s/\s.lo<=v-u/\v-u<=s.hi/\(o=1->0<v-u)/\(o=2->v-u<0)/\(o=3->v-u=0):=by
 obtain⟨b,e,hA,hi⟩:=h.ent hT hu;obtain⟨c,f,hA',hi'⟩:=h.ent hT' hv;have hx:qkn ⟨l.near,z.books⟩ ⟨i,k⟩=true:=qar.2 ⟨i,k,b,e,rfl,hA⟩;have hx':qkn ⟨l.near,z.books⟩ ⟨j,m⟩=true:=qar.2 ⟨j,m,c,f,rfl,hA'⟩;have:=apart_in h.truth hx hx';rw[hi,hi']at this;obtain⟨o1,o2,o3⟩:=order_zero (qay ⟨l.near,z.books⟩ ⟨i,k⟩ ⟨j,m⟩);refine⟨_,_,by unfold qde;rw[if_pos (qnz h fun x hx2=>by
  simp only[List.mem_cons,List.not_mem_nil,or_false]at hx2
  rcases hx2 with rfl | rfl<;>assumption)],rfl,this.1,this.2,fun ho=>?_,fun ho=>?_,fun ho=>?_⟩
 ·have:=o1 ho;omega
 ·have:=o2 ho;omega
 ·have h3:=o3 ho
  rw[h3]at this;simp only at this;omega
theorem qkj{l:PLog}{x:PAt}{i:Nat}{y:PEnt}:∀ {r:List PEnt} {k j:Nat},r[j]?=some y->qmg l x i (k+j) y=true->(⟨i,(k+j:Nat)⟩:PAt)∈qgR l x i k r
 | [],k,j,h,_=>by simp at h
 | z::r,k,0,h,hs=>by
  rw[List.getElem?_cons_zero]at h
  cases h
  rw[qgR,if_pos (by simpa using hs)];exact List.mem_cons_self ..
 | z::r,k,j+1,h,hs=>by
  rw[List.getElem?_cons_succ]at h;have e:k+(j+1)=k+1+j:=by omega
  rw[e]at hs ⊢;have:=qkj (k:=k+1) h hs;rw[qgR]
  split
  ·exact List.mem_cons_of_mem _ this
  ·exact this
theorem qij{l:PLog}{x:PAt}{b:PBook}{k:Nat}{y:PEnt}:∀ {r:List PBook} {i j:Nat},r[j]?=some b->b.ents[k]?=some y->qmg l x (i+j) k y=true->(⟨(i+j:Nat),k⟩:PAt)∈qcd l x i r
 | [],i,j,h,_,_=>by simp at h
 | c::r,i,0,h,hy,hs=>by
  rw[List.getElem?_cons_zero]at h
  cases h
  rw[qcd];refine List.mem_append_left _ ?_;have:=qkj (l:=l) (x:=x) (i:=i) (k:=0) (j:=k) hy (by simpa using hs);simpa using this
 | c::r,i,j+1,h,hy,hs=>by
  rw[List.getElem?_cons_succ]at h;have e:i+(j+1)=i+1+j:=by omega
  rw[e]at hs ⊢;rw[qcd];exact List.mem_append_right _ (qij (i:=i+1) h hy hs)
theorem qkk{l:PLog}{x:PAt}{i:Nat}:∀ (r:List PEnt) (k:Nat),(qgR l x i k r).length<=r.length
 | [],k=>Nat.le_refl _
 | z::r,k=>by
  have:=qkk (l:=l) (x:=x) (i:=i) r (k+1);rw[qgR]
  split
  ·rw[List.length_cons,List.length_cons];omega
  ·rw[List.length_cons];omega
theorem qik{l:PLog}{x:PAt}:∀ (r:List PBook) (i:Nat),(∀ b∈r,b.ents.length<=8)->(qcd l x i r).length<=8*r.length
 | [],i,_=>Nat.le_refl _
 | b::r,i,h=>by
  have h1:=qik (l:=l) (x:=x) r (i+1) fun c hc=>h c (List.mem_cons_of_mem _ hc);have h2:=qkk (l:=l) (x:=x) (i:=i) b.ents 0;have h3:=h b (List.mem_cons_self ..);rw[qcd,List.length_append,List.length_cons];omega
theorem at_eq(p:PAt)(a b:Int):decide (p=⟨a,b⟩)=(decide (p.book=a)&&(decide (p.entry=b)&&true)):=by
 obtain⟨x,y⟩:=p;rw[Bool.eq_iff_iff];simp
theorem ToldO.same(h:ToldO l z){i k j m:Nat}{b c:PBook}{e f:PEnt}(hA:At ⟨l.near,z.books⟩ i k b e)(hB:At ⟨l.near,z.books⟩ j m c f)(h1:e.kind=1)(h2:f.kind=1)(hw:e.word=f.word)(hij:i≠j){s:Span}(hs:qay ⟨l.near,z.books⟩ ⟨i,k⟩ ⟨j,m⟩=s)(h3:s.lo<=l.near)(h4 : -l.near<=s.hi) :
  ∃ q,qmh ⟨l.near,z.books⟩ ⟨i,k⟩=(q,0)/\(⟨j,m⟩:PAt)∈q/\q.length<=24:=by
 have hx:qkn ⟨l.near,z.books⟩ ⟨i,k⟩=true:=qar.2 ⟨i,k,b,e,rfl,hA⟩;have he:=zT hA;have hl:=qik (l:=⟨l.near,z.books⟩) (x:=⟨i,k⟩) z.books 0 fun b hb=>(qaJ h.check hb).2.2.1;have hR:=(zX h.check).books;simp only at hR;refine⟨qcd ⟨l.near,z.books⟩ ⟨i,k⟩ 0 z.books,?_,?_,by omega⟩
 ·unfold qmh qbf
  rw[if_pos h.check,if_pos (by simp[hx]),if_pos (by rw[he];exact h1),if_pos h.fit]
 ·have:=qij (l:=⟨l.near,z.books⟩) (x:=⟨i,k⟩) (i:=0) (j:=j) (k:=m) hB.book hB.ent (by
   unfold qmg;rw[he,Nat.zero_add,hs];simp only;rw[decide_eq_false (by omega),decide_eq_true h2,decide_eq_true hw.symm,decide_eq_true h3,decide_eq_true h4];rfl)
  rw[Nat.zero_add]at this;exact this
end
theorem ToldO.time{l:PLog}{z:TdS}(h:ToldO l z){i k:Nat}{T:List Int}{u:Int}(hT:z.times[i]?=some T)(hu:T[k]?=some u) : -1000<=u/\u<=21000:=by
 obtain⟨b,e,hA,_⟩:=h.ent hT hu;obtain⟨b0,T',O,_,_,_,_,h3,_,h5,_⟩:=h.R.book i b hA.book;rw[hT]at h3
 cases h3
 obtain⟨o,h6,h7⟩:=h5.time k e hA.ent;rw[hu]at h7
 cases h7
 obtain⟨k1,k2,_,k4⟩:=qaJ h.check (List.mem_of_getElem? hA.book);have h8:=(k4 e (List.mem_of_getElem? hA.ent)).shown;have h9 : -720<=o/\o<=720:=by
  cases hp:qK b k with
  | zero=>
   rw[hp]at h6;have:=h5.off o h6;omega
  | succ n=>
   rw[hp]at h6;have:=h5.set (n+1) o (by omega) h6;omega
 omega
end Go.PX
