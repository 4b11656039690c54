import Derived.Test.YtgpmlbbkfmkmkaaGreatDoorPxQ
import Derived.Test.YtgpmlbbkfmkmkaaGreatDoorPxM
import Derived.Test.YtgpmlbbkfmkmkaaGreatDoorPxP
import Derived.Test.YtgpmlbbkfmkmkaaGreatDoorPxJ
import Derived.Lib.AtoiAllCases
import Derived.Laws.IdiomStrings
import Derived.Test.YtgpmlbbkfmkmkaaGreatDoorPxO
set_option linter.all false
set_option maxRecDepth 10000
namespace Go.PX
open Go.Proofs
open Go.RowKit
theorem pa67(x:PEnt):FnV Tryz.prog 67 [x.d] (i64 (qlB x)):=by
 obtain⟨sh,kd,wd,nm⟩:=x;refine qG mixed ql Tryz.func67 rfl (ft:=ft67) 1 (by decide +kernel) (by rfl) fun {σ} Y st=>?_;conv=>whnf
 refine qk (ds:=[i64 sh,i64 0,i64 20000]) (qpP sh 0 20000) rfl rfl ?_;unfold qlB qcp
 cases h0:inB sh 0 20000 with
 | false=>
  conv=>whnf
  exact qc 0 rfl ⟨⟨rfl,rfl⟩,rfl⟩
 | true=>
 conv=>whnf
 refine qk (ds:=[i64 kd,i64 1,i64 3]) (qpP kd 1 3) rfl rfl ?_
 cases h1:inB kd 1 3 with
 | false=>
  have hk:¬ (kd=1)/\¬ (kd=2)/\¬ (kd=3):=by
   refine⟨?_,?_,?_⟩<;>rintro rfl<;>simp[inB]at h1
  conv=>whnf
  simp only[Bool.not_true,Bool.false_eq_true,if_false,if_neg hk.1,if_neg hk.2.1,if_neg hk.2.2];exact qc 0 rfl ⟨⟨rfl,rfl⟩,rfl⟩
 | true=>
 have hk:kd=1\/kd=2\/kd=3:=by
  unfold inB at h1;simp at h1;omega
 simp only[Bool.not_true,Bool.false_eq_true,if_false];conv=>whnf
 rcases hk with rfl | rfl | rfl
 ·refine qj (fun hA=>?_) (fun hA=>?_)
  ·conv=>whnf
   refine qk (ds:=[.str wd]) (qoB wd) rfl rfl ?_
   cases hn:qaJ wd with
   | false=>
    conv=>whnf
    exact qc 0 rfl ⟨⟨rfl,rfl⟩,rfl⟩
   | true=>
    conv=>whnf
    refine qj (fun hB=>?_) (fun hB=>?_)
    ·have hB:¬ nm=0:=by simpa using hB
     conv=>whnf
     rw[decide_eq_false hB];exact qc 0 rfl ⟨⟨rfl,rfl⟩,rfl⟩
    ·have hB:nm=0:=by simpa using hB
     conv=>whnf
     rw[decide_eq_true hB];exact qc 0 rfl ⟨⟨rfl,rfl⟩,rfl⟩
  ·conv=>whnf
   refine qk (ds:=[.str wd]) (qoB wd) rfl rfl ?_
   cases hn:qaJ wd with
   | false=>
    conv=>whnf
    exact qc 0 rfl ⟨⟨rfl,rfl⟩,rfl⟩
   | true=>
    conv=>whnf
    refine qj (fun hB=>?_) (fun hB=>?_)
    ·have hB:¬ nm=0:=by simpa using hB
     conv=>whnf
     rw[decide_eq_false hB];exact qc 0 rfl ⟨⟨rfl,rfl⟩,rfl⟩
    ·have hB:nm=0:=by simpa using hB
     conv=>whnf
     rw[decide_eq_true hB];exact qc 0 rfl ⟨⟨rfl,rfl⟩,rfl⟩
 ·have hw1:decide (wd = .empty)=decide (wd=(⟨#[]⟩:ByteArray)):=rfl
  simp only[if_neg (show ¬ (2:Int)=1 by decide),if_pos,hw1];refine qj (fun hA=>?_) (fun hA=>?_)
  ·rw[hA]
   conv=>whnf
   refine qj (fun hB=>?_) (fun hB=>?_)
   ·have hB:¬ nm=0:=by simpa using hB
    conv=>whnf
    rw[decide_eq_false hB];exact qc 0 rfl ⟨⟨rfl,rfl⟩,rfl⟩
   ·have hB:nm=0:=by simpa using hB
    conv=>whnf
    rw[decide_eq_true hB];exact qc 0 rfl ⟨⟨rfl,rfl⟩,rfl⟩
  ·rw[hA]
   conv=>whnf
   exact qc 0 rfl ⟨⟨rfl,rfl⟩,rfl⟩
 ·simp only[if_neg (show ¬ (3:Int)=1 by decide),if_neg (show ¬ (3:Int)=2 by decide),if_pos,Bool.not_not]
  refine qj (fun hA=>?_) (fun hA=>?_)
  ·conv=>whnf
   refine qk (ds:=[.str wd]) (qoB wd) rfl rfl ?_
   cases hn:qaJ wd with
   | false=>
    conv=>whnf
    exact qc 0 rfl ⟨⟨rfl,rfl⟩,rfl⟩
   | true=>
    conv=>whnf
    refine qk (ds:=[i64 nm,i64 1,i64 99]) (qpP nm 1 99) rfl rfl ?_
    cases h4:inB nm 1 99 with
    | false=>
     conv=>whnf
     exact qc 0 rfl ⟨⟨rfl,rfl⟩,rfl⟩
    | true=>
     conv=>whnf
     exact qc 0 rfl ⟨⟨rfl,rfl⟩,rfl⟩
  ·conv=>whnf
   refine qk (ds:=[.str wd]) (qoB wd) rfl rfl ?_
   cases hn:qaJ wd with
   | false=>
    conv=>whnf
    exact qc 0 rfl ⟨⟨rfl,rfl⟩,rfl⟩
   | true=>
    conv=>whnf
    refine qk (ds:=[i64 nm,i64 1,i64 99]) (qpP nm 1 99) rfl rfl ?_
    cases h4:inB nm 1 99 with
    | false=>
     conv=>whnf
     exact qc 0 rfl ⟨⟨rfl,rfl⟩,rfl⟩
    | true=>
     conv=>whnf
     exact qc 0 rfl ⟨⟨rfl,rfl⟩,rfl⟩
def qaR(l:List PBook):List ByteArray:=l.map (·.name)
theorem headE_eq(pre:List PBook)(b:PBook):qhH pre b=if qgi b.name (qaR pre)=0 then (if spread (-720) 720 [b.off,b.set] 0=0 then (if b.ents.length>8 then 3 else 0) else spread (-720) 720 [b.off,b.set] 0) else qgi b.name (qaR pre):=by
 have h:((qaR pre).any fun y=>decide (y=b.name))=pre.any fun y=>decide (y.name=b.name):=by
  unfold qaR;rw[List.any_map];rfl
 unfold qhH qgi spread spread spread qcp;rw[h]
 cases qaJ b.name<;>cases (pre.any fun y=>decide (y.name=b.name))<;>cases inB b.off.lo (-720) 720<;>cases inB b.off.hi (-720) 720<;>cases inB b.set.lo (-720) 720<;>cases inB b.set.hi (-720) 720<;>simp
 by_cases h1:b.off.hi<b.off.lo<;>by_cases h2:b.set.hi<b.set.lo<;>simp[h1,h2]
set_option maxHeartbeats 2000000 in
theorem pa18(l:PLog):FnV Tryz.prog 18 [l.d] (qsd (qaM l)):=by
 refine qG mixed ql Tryz.func18 rfl (ft:=ft18) 1 (by decide +kernel) (by rfl) fun {σ} Y st=>?_;conv=>whnf
 unfold qaM;refine qk (ds:=[i64 l.near,i64 0,i64 60]) (qpP l.near 0 60) rfl rfl ?_;unfold qcp
 cases h0:inB l.near 0 60 with
 | false=>
  conv=>whnf
  exact qc 0 rfl ⟨⟨rfl,rfl⟩,rfl⟩
 | true=>
  conv=>whnf
  rw[List.length_map];refine qk (ds:=[i64 l.books.length,i64 1,i64 3]) (qpP l.books.length 1 3) rfl rfl ?_
  cases h1:inB l.books.length 1 3 with
  | false=>
   conv=>whnf
   exact qc 0 rfl ⟨⟨rfl,rfl⟩,rfl⟩
  | true=>
   have hlen:l.books.length<=3:=by
    have h1:=h1;unfold inB at h1;simp at h1;omega
   simp only[Bool.not_true,if_false,Bool.false_eq_true];conv=>whnf
   generalize hK:qbu [] l.books 0=K;refine zr (T:=tys) ql (by exact qi mixed ql (by decide +kernel)) l.books (fun i (_:Unit)=>⟨[(1,.ptr 1 0),(5,.sl 40 1 0 i),(6,.d (i64 i))],[(1,.box (.dd l.cells)),(40,.arr 1 (.dd ((qaR (l.books.take i)).map fun s=>[.str s])))],st⟩)
    (fun i r _=>qbu (l.books.take i) r i=K) () ((Wk.born 5 40 1 rfl rfl rfl).trans (Wk.sub (by repeat' first|exact trivial|refine⟨?_,?_⟩|rfl|(simp only[List.length_map];rfl)|simp[PX.get]) (by repeat' first|exact trivial|refine⟨?_,?_⟩|rfl|(simp only[List.length_map];rfl)|simp[PX.get]))) hK ?_ ?_
   ·rintro i b r _ hx hi hr he
    rw[qbu,headE_eq]at he;have htk:l.books.take (i+1)=l.books.take i ++ [b]:=by rw[List.take_succ,hx];rfl
    have hnl:(qaR (l.books.take i)).length=i:=by unfold qaR;simp;omega
    conv=>whnf
    refine qj (fun _=>?_) (fun h=>absurd hi (by have:=of_decide_eq_false h;simp at this;omega));conv=>whnf
    refine qw hx ?_;conv=>whnf
    refine qs (ds:=[.str b.name,qoA (qaR (l.books.take i))]) (fn91 b.name (qaR (l.books.take i)) (by omega)) rfl 1 (qH rfl (qH (jq rfl (by simp[hnl])) rfl)) ?_;conv=>whnf
    refine qn rfl ?_;conv=>whnf
    refine qn (by simp[Els.len,hnl]) ?_;conv=>whnf
    refine zL (decide_eq_true (by
     show(((qaR (l.books.take i)).map fun s=>[D.str s]).length+1)*16<=140737488355328;rw[List.length_map];omega)) ?_
    conv=>whnf
    generalize qgi b.name (qaR (l.books.take i))=F at he ⊢;have hnext:(qaR (l.books.take i)).map (fun s=>[D.str s]) ++ [[.str b.name]]=(qaR (l.books.take (i+1))).map fun s=>[.str s]:=by
     rw[htk];simp[qaR]
    have hnl1:((qaR (l.books.take i)).map fun s=>[D.str s]).length+1=i+1:=by rw[List.length_map,hnl]
    refine qj (fun h2=>?_) (fun h2=>?_)
    ·have h2:F=0:=of_decide_eq_true h2
     subst h2;simp only[if_true]at he;conv=>whnf
     refine qs (ds:=[qbt [b.off,b.set],i64 (-720),i64 720]) (fn111 [b.off,b.set] (-720) 720 (by simp)) rfl 1 (qH (jq rfl rfl) rfl) ?_;generalize spread (-720) 720 [b.off,b.set] 0=S at he ⊢;conv=>whnf
     refine qj (fun h3=>?_) (fun h3=>?_)
     ·have h3:S=0:=by simpa using h3
      subst h3;simp only[if_true]at he;conv=>whnf
      refine qj (fun h8=>?_) (fun h8=>?_)
      ·have h8:b.ents.length>8:=by have:=of_decide_eq_true h8;simp at this;omega
       rw[if_pos h8,if_neg (by decide)]at he;conv=>whnf
       refine qf (qb (by(try dsimp only);omega)) ?_;conv=>whnf
       rw[<- he];exact qc 0 rfl ⟨⟨rfl,rfl⟩,rfl⟩
      ·have h8:¬ b.ents.length>8:=by have:=of_decide_eq_false h8;simp at this;omega
       rw[if_neg h8,if_pos rfl]at he;conv=>whnf
       generalize hE:qef b.ents 0=E at he;refine zr (T:=tys) ql (by exact qi mixed ql (by decide +kernel)) b.ents (fun k (_:Unit)=>⟨[(1,.ptr 1 0),(5,.sl 40 1 0 (i+1)),(6,.d (i64 i)),(7,.ptr 7 0),(9,.d (i64 k))],[(1,.box (.dd l.cells)),(40,.arr 1 (.dd ((qaR (l.books.take (i+1))).map fun s=>[.str s]))),(7,.box (.dd b.cells))],st⟩)
        (fun k r _=>qef r k=E) () (Wk.sub ⟨rfl,(by
         show some (V.sl 40 1 0 (((qaR (l.books.take i)).map fun s=>[D.str s]).length+1))=_;rw[hnl1]),rfl,rfl,rfl,trivial⟩ ⟨rfl,(by
         show some (Obj.arr 1 (Els.dd ((qaR (l.books.take i)).map (fun s=>[D.str s]) ++ [[.str b.name]])))=_;rw[hnext]),rfl,trivial⟩) hE ?_ ?_
       ·rintro k y r2 _ hy hk hr2 he2
        rw[qef]at he2;conv=>whnf
        refine qj (fun _=>?_) (fun h=>absurd hk (by have:=of_decide_eq_false h;simp at this;omega));conv=>whnf
        refine qw hy ?_;conv=>whnf
        refine qk (pa67 y) rfl rfl ?_;conv=>whnf
        refine qj (fun h4=>?_) (fun h4=>?_)
        ·have h4:¬ qlB y=0:=by simpa using h4
         rw[if_neg h4]at he2;subst he2;rw[if_neg h4]at he;conv=>whnf
         refine qf (qb (by(try dsimp only);omega)) ?_;conv=>whnf
         rw[<- he];exact qc 0 rfl ⟨⟨rfl,rfl⟩,rfl⟩
        ·have h4:qlB y=0:=by simpa using h4
         rw[if_pos h4]at he2;conv=>whnf
         refine qf (qb (by(try dsimp only);omega)) ?_;conv=>whnf
         exact⟨(),he2,(Wk.sub (by repeat' first|exact trivial|refine⟨?_,?_⟩|rfl|(simp only[List.length_map];rfl)|simp[PX.get]) (by repeat' first|exact trivial|refine⟨?_,?_⟩|rfl|(simp only[List.length_map];rfl)|simp[PX.get]))⟩
       ·rintro _ he2
        have he2:((0,0):Int×Int)=E:=he2;subst he2;rw[if_pos rfl,<- htk]at he;conv=>whnf
        refine qj (fun h=>absurd h (by simp)) (fun _=>?_);conv=>whnf
        refine qf (qb (by(try dsimp only);omega)) ?_;conv=>whnf
        exact⟨(),he,(Wk.sub (by repeat' first|exact trivial|refine⟨?_,?_⟩|rfl|(simp only[List.length_map];rfl)|simp[PX.get]) (by repeat' first|exact trivial|refine⟨?_,?_⟩|rfl|(simp only[List.length_map];rfl)|simp[PX.get]))⟩
     ·have h3:¬ S=0:=by simpa using h3
      conv=>whnf
      refine qj (fun _=>?_) (fun h=>absurd h (by simp[h3]));rw[if_neg h3,if_neg h3]at he;conv=>whnf
      refine qf (qb (by(try dsimp only);omega)) ?_;conv=>whnf
      rw[<- he];exact qc 0 rfl ⟨⟨rfl,rfl⟩,rfl⟩
    ·have h2:¬ F=0:=of_decide_eq_false h2
     conv=>whnf
     refine qj (fun h=>absurd (of_decide_eq_true h) h2) (fun _=>?_);conv=>whnf
     refine qj (fun _=>?_) (fun h=>absurd h (by simp[h2]));rw[if_neg h2,if_neg h2]at he;conv=>whnf
     refine qf (qb (by(try dsimp only);omega)) ?_;conv=>whnf
     rw[<- he];exact qc 0 rfl ⟨⟨rfl,rfl⟩,rfl⟩
   ·rintro _ he
    rw[qbu]at he;subst he;conv=>whnf
    refine qj (fun h=>absurd h (by simp)) (fun _=>?_);conv=>whnf
    exact qc 0 rfl ⟨⟨rfl,rfl⟩,rfl⟩
end Go.PX
namespace Go.PX
open Go.Proofs
open Go.RowKit
theorem qnJ(b:PBook)(k:Nat)(hk:k<=b.ents.length)(hb:b.ents.length<=1000):FnV Tryz.prog 105 [.agg b.cells,i64 k] (i64 (zm (b.ents.take k))):=by
 refine qG mixed ql Tryz.func105 rfl (ft:=ft105) 2 (by decide +kernel) (by rfl) fun {σ} Y st=>?_;conv=>whnf
 refine zP (T:=tys) ql (by exact qi mixed ql (by decide +kernel)) (α:=Nat) (fun i=>⟨[(1,.d (i64 k)),(2,.ptr 2 0),(5,.d (i64 (zm (b.ents.take i)))),(6,.d (i64 i))],[(2,.box (.dd b.cells))],st⟩) (fun i=>i<=k) (fun i=>k-i) 0 (Wk.sub (by repeat' first|exact trivial|refine⟨?_,?_⟩|rfl|(simp only[List.length_map];rfl)|simp[PX.get]) ⟨(by first | rfl | (simp only[List.length_map];rfl) | simp[PX.get]),trivial⟩) (by simp) ?_;rintro i hi;conv=>whnf
 refine qj (fun h=>?_) (fun h=>?_)
 ·have hik:i<k:=by have:=of_decide_eq_true h;omega
  have hx:b.ents[i]?=some b.ents[i]:=List.getElem?_eq_getElem (by omega);have htk:zm (b.ents.take (i+1))=zm (b.ents.take i)+zm [b.ents[i]]:=by
   rw[<- setsN_app,List.take_succ,hx];rfl
  have hs1:zm (b.ents.take i)<=1000:=by
   have:zm (b.ents.take i)<=(b.ents.take i).length:=by unfold zm;exact List.length_filter_le _ _
   simp at this;omega
  generalize b.ents[i]=y at *;conv=>whnf
  refine qj (fun _=>?_) (fun h2=>absurd (of_decide_eq_false h2) (by simp;omega));conv=>whnf
  refine qw hx ?_;conv=>whnf
  refine qj (fun h3=>?_) (fun h3=>?_)
  ·have h3:y.kind=2:=of_decide_eq_true h3
   have h4:zm [y]=1:=by simp[zm,h3]
   conv=>whnf
   refine qm (((zm (b.ents.take i)+1:Nat):Int)) (by(try dsimp only);omega) (qb (by(try dsimp only);omega)) ?_;conv=>whnf
   refine qf (qb (by(try dsimp only);omega)) ?_;conv=>whnf
   exact⟨i+1,by omega,hik,Wk.sub ⟨rfl,rfl,by rw[htk,h4];rfl,rfl,trivial⟩ ⟨rfl,trivial⟩⟩
  ·have h3:¬ y.kind=2:=of_decide_eq_false h3
   have h4:zm [y]=0:=by simp[zm,h3]
   conv=>whnf
   refine qf (qb (by(try dsimp only);omega)) ?_;conv=>whnf
   exact⟨i+1,by omega,hik,Wk.sub ⟨rfl,rfl,by rw[htk,h4];rfl,rfl,trivial⟩ ⟨rfl,trivial⟩⟩
 ·have hik:i=k:=by have:=of_decide_eq_false h;omega
  subst hik;conv=>whnf
  exact qc 0 rfl ⟨⟨rfl,rfl⟩,rfl⟩
theorem qsr(b:PBook)(hb:b.ents.length<=1000):FnV Tryz.prog 51 [.agg b.cells] (i64 (zm b.ents+1:Nat)):=by
 have h105:FnV Tryz.prog 105 [.agg b.cells,i64 b.ents.length] (i64 (zm b.ents)):=FnV.cast (qnJ b b.ents.length (Nat.le_refl _) hb) (by rw[List.take_length]);have hs1:zm b.ents<=1000:=by
  have:zm b.ents<=b.ents.length:=by unfold zm;exact List.length_filter_le _ _
  omega
 show FnV Tryz.prog 51 [.agg b.cells] _;refine qG mixed ql Tryz.func51 rfl (ft:=ft51) 1 (by decide +kernel) (by rfl) fun {σ} Y st=>?_;conv=>whnf
 refine qk (ds:=[.agg b.cells,i64 b.ents.length]) h105 (by
  show [_,_]=_;simp[List.length_map];rfl) rfl ?_
 conv=>whnf
 refine qm (((zm b.ents+1:Nat):Int)) (by(try dsimp only);omega) (qb (by(try dsimp only);omega)) ?_;conv=>whnf
 exact qc 0 rfl ⟨⟨rfl,rfl⟩,rfl⟩
end Go.PX
namespace Go.PX
open Go.Proofs
open Go.RowKit
theorem pa57(l:List Int)(n:Int)(hl:l.length<1000000):FnV Tryz.prog 57 [qU l,i64 n] (.bool (decide (n∈l))):=by
 refine qG mixed ql Tryz.func57 rfl (ft:=ft57) 2 (by decide +kernel) (by rfl) fun {σ} Y st=>?_;conv=>whnf
 refine zr (T:=tys) ql (by exact qi mixed ql (by decide +kernel)) l (fun i (_:Unit)=>⟨[(0,.d (qU l)),(1,.d (i64 n)),(5,.d (i64 i))],[],st⟩) (fun i r _=>decide (n∈l)=decide (n∈r)) () (Wk.sub (by repeat' first|exact trivial|refine⟨?_,?_⟩|rfl|(simp only[List.length_map];rfl)|simp[PX.get]) trivial) rfl ?_ ?_
 ·intro i x r _ hx hi hr he
  conv=>whnf
  refine qj (fun _=>?_) (fun h=>absurd hi (by have:=of_decide_eq_false h;simp at this;omega));conv=>whnf
  refine qw hx ?_;conv=>whnf
  refine qj (fun h=>?_) (fun h=>?_)
  ·have h:x=n:=of_decide_eq_true h
   have e:decide (n∈l)=true:=by rw[he,h];simp
   conv=>whnf
   rw[e];exact qc 0 rfl ⟨⟨rfl,rfl⟩,rfl⟩
  ·have h:¬ x=n:=of_decide_eq_false h
   have e:decide (n∈l)=decide (n∈r):=by rw[he];simp[Ne.symm h]
   conv=>whnf
   refine qf (qb (by(try dsimp only);omega)) ?_;conv=>whnf
   exact⟨(),e,(Wk.sub (by repeat' first|exact trivial|refine⟨?_,?_⟩|rfl|(simp only[List.length_map];rfl)|simp[PX.get]) trivial)⟩
 ·intro _ he
  conv=>whnf
  refine qj (fun h=>absurd h (by simp)) (fun _=>?_);conv=>whnf
  rw[he];exact qc 0 rfl ⟨⟨rfl,rfl⟩,rfl⟩
def qoW(b:PBook)(n:Int):Int:=match zM b.ents n 0 with
 | some k=>k
 | none=>-1
theorem qss(b:PBook)(n:Int)(hb:b.ents.length<1000000):FnV Tryz.prog 58 [.agg b.cells,i64 n] (i64 (qoW b n)):=by
 unfold qoW;refine qG mixed ql Tryz.func58 rfl (ft:=ft58) 2 (by decide +kernel) (by rfl) fun {σ} Y st=>?_;conv=>whnf
 refine zr (T:=tys) ql (by exact qi mixed ql (by decide +kernel)) b.ents (fun i (_:Unit)=>⟨[(1,.d (i64 n)),(2,.ptr 2 0),(5,.d (i64 i))],[(2,.box (.dd b.cells))],st⟩) (fun i r _=>zM b.ents n 0=zM r n i) () (Wk.sub (by repeat' first|exact trivial|refine⟨?_,?_⟩|rfl|(simp only[List.length_map];rfl)|simp[PX.get]) ⟨(by first | rfl | (simp only[List.length_map];rfl) | simp[PX.get]),trivial⟩) rfl ?_ ?_
 ·intro i x r _ hx hi hr he
  rw[zM]at he;conv=>whnf
  refine qj (fun _=>?_) (fun h=>absurd hi (by have:=of_decide_eq_false h;simp at this;omega));conv=>whnf
  refine qw hx ?_;conv=>whnf
  refine qj (fun h=>?_) (fun h=>?_)
  ·have h:x.kind=3:=of_decide_eq_true h
   conv=>whnf
   refine qw hx ?_;conv=>whnf
   refine qj (fun h2=>?_) (fun h2=>?_)
   ·have h2:x.number=n:=of_decide_eq_true h2
    rw[if_pos ⟨h,h2⟩]at he;conv=>whnf
    rw[he];exact qc 0 rfl ⟨⟨rfl,rfl⟩,rfl⟩
   ·have h2:¬ x.number=n:=of_decide_eq_false h2
    rw[if_neg fun h3=>h2 h3.2]at he;conv=>whnf
    refine qf (qb (by(try dsimp only);omega)) ?_;conv=>whnf
    exact⟨(),he,(Wk.sub (by repeat' first|exact trivial|refine⟨?_,?_⟩|rfl|(simp only[List.length_map];rfl)|simp[PX.get]) ⟨(by first | rfl | (simp only[List.length_map];rfl) | simp[PX.get]),trivial⟩)⟩
  ·have h:¬ x.kind=3:=of_decide_eq_false h
   rw[if_neg fun h3=>h h3.1]at he;conv=>whnf
   refine qf (qb (by(try dsimp only);omega)) ?_;conv=>whnf
   exact⟨(),he,(Wk.sub (by repeat' first|exact trivial|refine⟨?_,?_⟩|rfl|(simp only[List.length_map];rfl)|simp[PX.get]) ⟨(by first | rfl | (simp only[List.length_map];rfl) | simp[PX.get]),trivial⟩)⟩
 ·intro _ he
  conv=>whnf
  refine qj (fun h=>absurd h (by simp)) (fun _=>?_);conv=>whnf
  rw[he];exact qc 0 rfl ⟨⟨rfl,rfl⟩,rfl⟩
end Go.PX
namespace Go.PX
open Go.Proofs
open Go.RowKit
def qW(l:List Int):List (List D):=l.map fun x=>[i64 x]
theorem intC_push(w:List Int)(v:Int):qW w ++ [[i64 v]]=qW (w ++ [v]):=by
 unfold qW;rw[List.map_append];rfl
theorem zk(w:List Int):(qW w).length=w.length:=by unfold qW;rw[List.length_map]
end Go.PX
namespace Go.PX
open Go.Proofs
section
variable {l : PLog}
theorem qlp{l:PLog}{x:PAt}{i:Nat}:∀ (r:List PEnt) (k:Nat),(qia l x i k r).length<=r.length
 | [],k=>Nat.le_refl _
 | z::r,k=>by
  have:=qlp (l:=l) (x:=x) (i:=i) r (k+1);rw[qia]
  split
  ·rw[List.length_cons,List.length_cons];omega
  ·rw[List.length_cons];omega
theorem qiY{l:PLog}{x:PAt}:∀ (r:List PBook) (i:Nat),(∀ b∈r,b.ents.length<=8)->(qbT l x i r).length<=8*r.length
 | [],i,_=>Nat.le_refl _
 | b::r,i,h=>by
  have h1:=qiY (l:=l) (x:=x) r (i+1) fun c hc=>h c (List.mem_cons_of_mem _ hc);have h2:=qlp (l:=l) (x:=x) (i:=i) b.ents 0;have h3:=h b (List.mem_cons_self ..);rw[qbT,List.length_append,List.length_cons];omega
end
end Go.PX
namespace Go.PX
open Go.Proofs
open Go.RowKit
theorem qrv{l:PLog}{i k:Nat}{b:PBook}{e:PEnt}(h:At l i k b e):FnV Tryz.prog 50 [l.d,PAt.d ⟨i,k⟩] e.d:=by
 have h1:=h.book;have h2:=h.ent;show FnV Tryz.prog 50 [l.d,PAt.d ⟨i,k⟩] _;refine qG mixed ql Tryz.func50 rfl (ft:=ft50) 2 (by decide +kernel) (by rfl) fun {σ} Y st=>?_;conv=>whnf
 refine qw h1 ?_;conv=>whnf
 refine qw h2 ?_;conv=>whnf
 exact qc 0 rfl ⟨⟨rfl,rfl⟩,rfl⟩
end Go.PX
namespace Go.PX
open Go.Proofs
abbrev nvr:Int:=1099511627776
abbrev Rws:=List (List Int)
def tAt(t:Rws)(i j:Nat):Int:=(((t[i]?).getD [])[j]?).getD nvr
def qpg(t:Rws)(i j:Nat)(x:Int):Rws:=t.set i (((t[i]?).getD []).set j x)
def qfw(t:Rws)(e:PG.Step Nat):Rws:=qpg t e.a e.b (min (tAt t e.a e.b) e.w)
structure Sq(n:Nat)(t:Rws):Prop where
 len:t.length=n
 row:∀ (i:Nat) r,t[i]?=some r->r.length=n
theorem Sq.get{n:Nat}{t:Rws}(h:Sq n t){i:Nat}(hi:i<n):∃ r,t[i]?=some r/\r.length=n:=by
 have:=h.len;obtain⟨r,hr⟩:∃ r,t[i]?=some r:=⟨_,List.getElem?_eq_getElem (by omega)⟩;exact⟨r,hr,h.row i r hr⟩
theorem qdi{n:Nat}{t:Rws}(h:Sq n t){i:Nat}(hi:i<n)(j:Nat)(x:Int):Sq n (qpg t i j x):=by
 obtain⟨r,h1,h2⟩:=h.get hi;refine⟨by unfold qpg;rw[List.length_set,h.len],fun k q hq=>?_⟩;unfold qpg at hq;rw[List.getElem?_set]at hq
 split at hq
 ·split at hq
  ·cases hq
   rw[List.length_set,h1];exact h2
  ·cases hq
 ·exact h.row k q hq
theorem qfT{n:Nat}{t:Rws}(h:Sq n t){i j:Nat}(hi:i<n)(hj:j<n)(x:Int)(a b:Nat):tAt (qpg t i j x) a b=if a=i/\b=j then x else tAt t a b:=by
 obtain⟨r,h1,h2⟩:=h.get hi;have hl:=h.len;unfold tAt qpg;rw[List.getElem?_set]
 by_cases ha:i=a
 ·subst ha
  rw[if_pos rfl,if_pos (by omega),h1];simp only[Option.getD_some];rw[List.getElem?_set]
  by_cases hb:j=b
  ·subst hb
   rw[if_pos rfl,if_pos (by omega)];simp
  ·rw[if_neg hb,if_neg (fun h=>hb h.2.symm)]
 ·rw[if_neg ha,if_neg (fun h=>ha h.1.symm)]
def tbl(t:Rws):PG.Tb:=fun a b=>tAt t a b
theorem tbl_set{n:Nat}{t:Rws}(h:Sq n t){i j:Nat}(hi:i<n)(hj:j<n)(x:Int):tbl (qpg t i j x)=PG.updT (tbl t) i j x:=by
 funext a b
 exact qfT h hi hj x a b
def spE(w:Int)(n:Nat)(s:Span):List (PG.Step Nat):=[⟨0,n,s.hi+w⟩,⟨n,0,w-s.lo⟩]
def qph(l:PLog)(w:Int)(i:Nat)(b:PBook)(p:Nat):List (PG.Step Nat):=spE w (jp l i p) (if p=0 then b.off else b.set)
def qlq(b:PBook)(k:Nat):Int:=((b.ents[k]?).map (·.shown)).getD 0
def qpA(l:PLog)(i:Nat)(b:PBook)(k:Nat):PG.Step Nat:=⟨jp l i (qJ b k),jp l i (qJ b (k+1)),qlq b (k+1)-qlq b k⟩
def qpZ(l:PLog)(conf:List Int)(i:Nat)(b:PBook)(j:Nat)(c:PBook)(num:Int):List (PG.Step Nat):=
 match zM b.ents num 0,zM c.ents num 0 with
 | some m,some n=>if num∈conf then [] else [⟨jp l i (qJ b m),jp l j (qJ c n),qlq c n-qlq b m⟩]
 | _,_=>[]
def qlr(l:PLog)(i:Nat):PBook:=(l.books[i]?).getD ⟨.empty,⟨0,0⟩,⟨0,0⟩,[]⟩
def qnK(l:PLog)(conf:List Int)(i j:Nat):List (PG.Step Nat):=(List.range' 1 99).flatMap fun num=>qpZ l conf i (qlr l i) j (qlr l j) (num:Nat)
def qnL(l:PLog)(w:Int)(conf:List Int)(i:Nat):List (PG.Step Nat):=
 (List.range (zm (qlr l i).ents+1)).flatMap (qph l w i (qlr l i))++(List.range ((qlr l i).ents.length-1)).map (qpA l i (qlr l i))++(List.range l.books.length).flatMap (qnK l conf i)
def qls(l:PLog)(w:Int)(conf:List Int):List (PG.Step Nat):=(List.range l.books.length).flatMap (qnL l w conf)
structure SameE(l:PLog)(e:PG.Step Nat)(e':zt):Prop where
 a:(qV l)[e.a]?=some e'.a
 b:(qV l)[e.b]?=some e'.b
 w:e.w=e'.w
theorem qba{l:PLog}{i:Nat}{b:PBook}(h:l.books[i]?=some b):qlr l i=b:=by unfold qlr;rw[h];rfl
theorem qdo{b:PBook}{k:Nat}{x:PEnt}(h:b.ents[k]?=some x):qlq b k=x.shown:=by unfold qlq;rw[h];rfl
theorem jh(l:PLog):(qV l)[0]?=some .right:=rfl
theorem rep_some{l:PLog}{conf:List Int}{i j:Nat}{b c:PBook}{num:Int}{e:PG.Step Nat}(hb:l.books[i]?=some b)(hc:l.books[j]?=some c)(h:e∈qpZ l conf i b j c num):∃ m n x y,Rep l conf i j m n b c x y num/\e=⟨jp l i (qJ b m),jp l j (qJ c n),y.shown-x.shown⟩:=by
 unfold qpZ at h
 cases h1:zM b.ents num 0 with
 | none=>rw[h1]at h;cases h
 | some m=>
  cases h2:zM c.ents num 0 with
  | none=>rw[h1,h2]at h;cases h
  | some n=>
   rw[h1,h2]at h;simp only at h
   split at h
   ·cases h
   ·rename_i hn
    rw[List.mem_singleton]at h;obtain⟨x,_,hx,_⟩:=qam h1;obtain⟨y,_,hy,_⟩:=qam h2;rw[Nat.sub_zero]at hx hy;exact⟨m,n,x,y,⟨⟨hb,hx⟩,⟨hc,hy⟩,h1,h2,hn⟩,by rw[h,qdo hx,qdo hy]⟩
theorem qjU{l:PLog}{w:Int}{conf:List Int}{e:PG.Step Nat}(h:e∈qls l w conf):∃ e',Just l w conf e'/\SameE l e e':=by
 obtain⟨i,hi,h⟩:=List.mem_flatMap.1 h;rw[List.mem_range]at hi;obtain⟨b,hb⟩:∃ b,l.books[i]?=some b:=⟨_,List.getElem?_eq_getElem hi⟩;unfold qnL at h;rw[qba hb]at h
 rcases List.mem_append.1 h with h | h
 ·rcases List.mem_append.1 h with h | h
  ·obtain⟨p,hp,h⟩:=List.mem_flatMap.1 h
   rw[List.mem_range]at hp;have hn:=jC hb (n:=p) (by omega);unfold qph spE at h;simp only[List.mem_cons,List.not_mem_nil,or_false]at h
   cases p with
   | zero=>
    rw[if_pos rfl]at h
    rcases h with rfl | rfl
    ·exact⟨_,.off i b hb _ (List.mem_cons_self ..),jh l,hn,rfl⟩
    ·exact⟨⟨⟨i,0⟩,.right,w-b.off.lo⟩,.off i b hb _ (by simp[jl]),hn,jh l,rfl⟩
   | succ p=>
    rw[if_neg (by omega)]at h
    rcases h with rfl | rfl
    ·exact⟨_,.set i b hb (p+1) (by omega) (by omega) _ (List.mem_cons_self ..),jh l,hn,rfl⟩
    ·exact⟨⟨⟨i,(p+1:Nat)⟩,.right,w-b.set.lo⟩,.set i b hb (p+1) (by omega) (by omega) _ (by simp[jl]),hn,jh l,rfl⟩
  ·obtain⟨k,hk,rfl⟩:=List.mem_map.1 h
   rw[List.mem_range]at hk;obtain⟨x,hx⟩:∃ x,b.ents[k]?=some x:=⟨_,List.getElem?_eq_getElem (by omega)⟩;obtain⟨y,hy⟩:∃ y,b.ents[k+1]?=some y:=⟨_,List.getElem?_eq_getElem (by omega)⟩;exact⟨_,.ord i k b x y ⟨hb,hx⟩ ⟨hb,hy⟩,jC hb (zE b k),jC hb (zE b (k+1)),by unfold qpA qde;simp only;rw[qdo hx,qdo hy]⟩
 ·obtain⟨j,hj,h⟩:=List.mem_flatMap.1 h
  rw[List.mem_range]at hj;obtain⟨c,hc⟩:∃ c,l.books[j]?=some c:=⟨_,List.getElem?_eq_getElem hj⟩;obtain⟨num,_,h⟩:=List.mem_flatMap.1 h;rw[qba hb,qba hc]at h;obtain⟨m,n,x,y,hr,rfl⟩:=rep_some hb hc h;exact⟨_,.rep i j m n b c x y num hr,jC hb (zE b m),jC hc (zE c n),rfl⟩
theorem qjV{l:PLog}(hC:qK l=0){w:Int}{conf:List Int}{e':zt}(h:Just l w conf e'):∃ e∈qls l w conf,SameE l e e':=by
 have inB:∀ {i:Nat} {b:PBook} {e:PG.Step Nat},l.books[i]?=some b->e∈qnL l w conf i->e∈qls l w conf:=fun hb he=>
  List.mem_flatMap.2 ⟨_,List.mem_range.2 (List.getElem?_eq_some_iff.1 hb).1,he⟩
 have inP:∀ {i:Nat} {b:PBook} {p:Nat} {e:PG.Step Nat},l.books[i]?=some b->p<=zm b.ents->e∈qph l w i b p->e∈qls l w conf:=fun {i b p e} hb hp he=>by
  refine inB hb (List.mem_append_left _ (List.mem_append_left _ ?_));rw[qba hb];exact List.mem_flatMap.2 ⟨p,List.mem_range.2 (by omega),he⟩
 cases h with
 | off i b hb e he=>
  have hn:=jC hb (n:=0) (by omega);unfold jl at he;simp only[List.mem_cons,List.not_mem_nil,or_false]at he
  rcases he with rfl | rfl
  ·exact⟨⟨0,jp l i 0,b.off.hi+w⟩,inP hb (p:=0) (by omega) (by simp[qph,spE]),jh l,hn,rfl⟩
  ·exact⟨⟨jp l i 0,0,w-b.off.lo⟩,inP hb (p:=0) (by omega) (by simp[qph,spE]),hn,jh l,rfl⟩
 | set i b hb n h1 h2 e he=>
  have hn:=jC hb h2;unfold jl at he;simp only[List.mem_cons,List.not_mem_nil,or_false]at he
  rcases he with rfl | rfl
  ·exact⟨⟨0,jp l i n,b.set.hi+w⟩,inP hb h2 (by unfold qph;rw[if_neg (by omega)];simp[spE]),jh l,hn,rfl⟩
  ·exact⟨⟨jp l i n,0,w-b.set.lo⟩,inP hb h2 (by unfold qph;rw[if_neg (by omega)];simp[spE]),hn,jh l,rfl⟩
 | ord i k b x y hx hy=>
  refine⟨qpA l i b k,inB hx.book (List.mem_append_left _ (List.mem_append_right _ ?_)),jC hx.book (zE b k),jC hx.book (zE b (k+1)),by unfold qpA qde;simp only;rw[qdo hx.ent,qdo hy.ent]⟩;rw[qba hx.book];have:=(List.getElem?_eq_some_iff.1 hy.ent).1;exact List.mem_map.2 ⟨k,List.mem_range.2 (by omega),rfl⟩
 | rep i j m n b c x y num hr=>
  have hb:=hr.ha.book;have hc:=hr.hb.book;refine⟨⟨jp l i (qJ b m),jp l j (qJ c n),y.shown-x.shown⟩,inB hb (List.mem_append_right _ (List.mem_flatMap.2 ⟨j,List.mem_range.2 (List.getElem?_eq_some_iff.1 hc).1,?_⟩)),jC hb (zE b m),jC hc (zE c n),rfl⟩;have hx:=(qec hC (List.mem_of_getElem? hb)).2.2.2 x (List.mem_of_getElem? hr.ha.ent);obtain⟨x',_,hx',h3,h4,_⟩:=qam hr.fa;rw[Nat.sub_zero,hr.ha.ent]at hx'
  cases hx'
  have h5:=hx.number;have h6:=(hx.rep h3).2;unfold qnK;rw[qba hb,qba hc];refine List.mem_flatMap.2 ⟨num.toNat,List.mem_range'_1.2 (by omega),?_⟩;have hnum:((num.toNat:Nat):Int)=num:=by omega
  rw[hnum];unfold qpZ;rw[hr.fa,hr.fb];simp only;rw[if_neg hr.no,qdo hr.ha.ent,qdo hr.hb.ent];exact List.mem_singleton.2 rfl
def qrw(l:PLog)(p:Per):Nat:=if p.book<0 then 0 else jp l p.book.toNat p.n.toNat
theorem qlt{l:PLog}{k:Nat}{p:Per}(h:(qV l)[k]?=some p):qrw l p=k:=by
 unfold qrw
 rcases qdf h with⟨rfl,rfl⟩ | ⟨i,b,n,_,_,rfl,rfl⟩
 ·rfl
 ·rw[if_neg (by simp only;omega)];rfl
theorem qlu{l:PLog}(hC:qK l=0){w:Int}{conf:List Int}{t:Nat->Int}(h:PG.Pot (qls l w conf) t):TruthX l w conf fun p=>t (qrw l p)-t 0:=by
 refine qcE.1 ⟨by show t (qrw l .right)-t 0=0;rw[qlt (jh l)];omega,fun e' he'=>?_⟩;obtain⟨e,he,hs⟩:=qjV hC he';have:=h e he
 (try simp only)
 rw[qlt hs.a,qlt hs.b,<- hs.w];omega
theorem qfU{l:PLog}{w:Int}{conf:List Int}{t:Per->Int}(h:TruthX l w conf t):PG.Pot (qls l w conf) fun k=>t (((qV l)[k]?).getD .right):=by
 intro e he;obtain⟨e',he',hs⟩:=qjU he;have:=(qcE.2 h).ok e' he'
 (try simp only)
 rw[hs.a,hs.b,hs.w];exact this
def qpB(n i:Nat):List Int:=(List.replicate n nvr).set i 0
def qnp(n:Nat):Rws:=(List.range n).map (qpB n)
def qpC(l:PLog)(w:Int)(conf:List Int):Rws:=(qls l w conf).foldl qfw (qnp (1+zI l.books))
theorem qoX(n:Nat):Sq n (qnp n):=by
 refine⟨by unfold qnp;simp,fun i r hr=>?_⟩;unfold qnp at hr;rw[List.getElem?_map]at hr
 cases h:(List.range n)[i]? with
 | none=>rw[h]at hr;cases hr
 | some k=>rw[h]at hr;cases hr;unfold qpB;simp
theorem qmf(n a b:Nat):tAt (qnp n) a b=if a<n/\a=b then 0 else nvr:=by
 have hr:(qnp n)[a]?=if a<n then some (qpB n a) else none:=by
  unfold qnp;rw[List.getElem?_map]
  split
  ·rename_i h;rw[List.getElem?_range h];rfl
  ·rename_i h;rw[List.getElem?_eq_none (by simpa using h)];rfl
 have hz:∀ b,(qpB n a)[b]?=if a=b then (if b<n then some 0 else none) else (if b<n then some nvr else none):=fun b=>by
  unfold qpB;rw[List.getElem?_set,List.getElem?_replicate,List.length_replicate]
  split
  ·rename_i h;subst h;rfl
  ·rfl
 unfold tAt;rw[hr]
 by_cases ha:a<n
 ·rw[if_pos ha,Option.getD_some,hz]
  by_cases hb:a=b
  ·subst hb
   rw[if_pos rfl,if_pos ha,if_pos ⟨ha,rfl⟩];rfl
  ·rw[if_neg hb,if_neg (show ¬ (a<n/\a=b) from fun h=>hb h.2)]
   split<;>rfl
 ·rw[if_neg ha,if_neg (fun h=>ha h.1)]
  rfl
structure BegI(l:PLog)(w:Int)(conf:List Int)(n:Nat)(t:Rws):Prop where
 sq:Sq n t
 walks:PG.WalksT (qls l w conf) nvr (tbl t)
 diag:∀ i,i<n->tAt t i i<=0
 bd:∀ a b,-1100000<=tAt t a b/\tAt t a b<=nvr
theorem qhS{n:Nat}{t:Rws}(h:Sq n t){e:PG.Step Nat}(ha:e.a<n)(hb:e.b<n)(a b:Nat):tAt (qfw t e) a b=if a=e.a/\b=e.b then min (tAt t a b) e.w else tAt t a b:=by
 unfold qfw;rw[qfT h ha hb]
 split
 ·rename_i h1;rw[h1.1,h1.2]
 ·rfl
theorem begI_step{l:PLog}{w:Int}{conf:List Int}{n:Nat}{t:Rws}(h:BegI l w conf n t){e:PG.Step Nat}(he:e∈qls l w conf)(ha:e.a<n)(hb:e.b<n)(hw : -1100000<=e.w/\e.w<=1100000):BegI l w conf n (qfw t e):=by
 refine⟨qdi h.sq ha _ _,fun a b hab=>?_,fun i hi=>?_,fun a b=>?_⟩
 ·unfold tbl at hab ⊢
  rw[qhS h.sq ha hb]at hab ⊢
  split at hab
  ·rename_i h1
   rw[if_pos h1];obtain⟨rfl,rfl⟩:=h1
   by_cases h2:tAt t e.a e.b<=e.w
   ·rw[Int.min_eq_left h2]at hab ⊢
    exact h.walks _ _ hab
   ·rw[Int.min_eq_right (by omega)]
    exact⟨1,.one he⟩
  ·rename_i h1
   rw[if_neg h1];exact h.walks _ _ hab
 ·rw[qhS h.sq ha hb]
  have:=h.diag i hi
  split
  ·omega
  ·exact this
 ·rw[qhS h.sq ha hb]
  have:=h.bd a b
  split
  ·omega
  ·exact this
theorem qnq{l:PLog}{w:Int}{conf:List Int}{n:Nat}:∀ (E:List (PG.Step Nat)) {t:Rws},(∀ e∈E,e∈qls l w conf/\e.a<n/\e.b<n /\ -1100000<=e.w/\e.w<=1100000)->BegI l w conf n t->BegI l w conf n (E.foldl qfw t)/\(∀ a b,tAt (E.foldl qfw t) a b<=tAt t a b) /\ ∀ e∈E,tAt (E.foldl qfw t) e.a e.b<=e.w
 | [],t,_,h=>⟨h,fun a b=>Int.le_refl _,fun e he=>by cases he⟩
 | d::E,t,hE,h=>by
  obtain⟨h1,h2,h3,h4⟩:=hE d (List.mem_cons_self ..);obtain⟨k1,k2,k3⟩:=qnq E (fun e he=>hE e (List.mem_cons_of_mem _ he)) (begI_step h h1 h2 h3 h4);rw[List.foldl_cons];have hle:∀ a b,tAt (qfw t d) a b<=tAt t a b:=fun a b=>by
   rw[qhS h.sq h2 h3]
   split<;>omega
  refine⟨k1,fun a b=>Int.le_trans (k2 a b) (hle a b),fun e he=>?_⟩
  rcases List.mem_cons.1 he with rfl | he
  ·refine Int.le_trans (k2 _ _) ?_
   rw[qhS h.sq h2 h3,if_pos ⟨rfl,rfl⟩];omega
  ·exact k3 e he
theorem qjW{l:PLog}(hC:qK l=0){w:Int}(hw:0<=w/\w<=1048576){conf:List Int}{e:PG.Step Nat}(he:e∈qls l w conf):e.a<1+zI l.books/\e.b<1+zI l.books /\ -1100000<=e.w/\e.w<=1100000:=by
 obtain⟨e',he',hs⟩:=qjU he;have h1:=(List.getElem?_eq_some_iff.1 hs.a).1;have h2:=(List.getElem?_eq_some_iff.1 hs.b).1;rw[qfl]at h1 h2;have:=qpT (zT hC) hw he';rw[hs.w];exact⟨h1,h2,this⟩
theorem qmg{l:PLog}(hC:qK l=0):1+zI l.books<=28:=by
 have hR:=zT hC;have key:∀ bs:List PBook,(∀ b∈bs,BookR b)->zI bs<=9*bs.length:=by
  intro bs
  induction bs with
  | nil=>intro _;exact Nat.le_refl _
  | cons b r ih=>
   intro h;have:=ih fun c hc=>h c (List.mem_cons_of_mem _ hc);have h2:=qaL b;have h3:=(h b (List.mem_cons_self ..)).ents;rw[qbF,List.length_cons];omega
 have:=key l.books hR.book;have:=hR.books;omega
theorem begI{l:PLog}(hC:qK l=0){w:Int}(hw:0<=w/\w<=1048576)(conf:List Int):BegI l w conf (1+zI l.books) (qpC l w conf)/\PG.Begin (qls l w conf) nvr 1100000 (1+zI l.books) (tbl (qpC l w conf)):=by
 have h0:BegI l w conf (1+zI l.books) (qnp (1+zI l.books)):=by
  refine⟨qoX _,fun a b hab=>?_,fun i hi=>by rw[qmf,if_pos ⟨hi,rfl⟩];exact Int.le_refl _,fun a b=>by rw[qmf];split<;>decide⟩;unfold tbl at hab ⊢;rw[qmf]at hab ⊢
  split at hab
  ·rename_i h1
   rw[if_pos h1];obtain⟨_,rfl⟩:=h1;exact⟨0,.nil _⟩
  ·exact absurd hab (Int.lt_irrefl _)
 obtain⟨h1,h2,h3⟩:=qnq (qls l w conf) (fun e he=>⟨he,qjW hC hw he⟩) h0;refine⟨h1,h1.walks,h1.diag,fun e he=>h3 e he,fun e he=>⟨(qjW hC hw he).1,(qjW hC hw he).2.1⟩,fun e he=>(qjW hC hw he).2.2,by decide,?_⟩;have:=qmg hC;have:((1+zI l.books+1:Nat):Int)<=29:=by omega
 have h4:((1+zI l.books+1:Nat):Int)*1100000<=29*1100000:=Int.mul_le_mul_of_nonneg_right this (by decide);exact Int.lt_of_le_of_lt h4 (by decide)
end Go.PX
namespace Go.PX
open Go.Proofs
def wr(x:Int):Int:=IntKind.wrap .i64 x
def qbX(t:Rws)(i k j:Nat):Rws:=if tAt t i k<nvr/\tAt t k j<nvr then qpg t i j (min (tAt t i j) (wr (tAt t i k+tAt t k j))) else t
def qoY(n:Nat)(t:Rws)(i k:Nat):Rws:=(List.range n).foldl (fun t j=>qbX t i k j) t
def qbp(n:Nat)(t:Rws)(k:Nat):Rws:=(List.range n).foldl (fun t i=>qoY n t i k) t
def qqr(n:Nat)(t:Rws):Rws:=(List.range n).foldl (fun t k=>qbp n t k) t
def qqs(n:Nat)(t:Rws):Bool:=(List.range n).all fun i=>decide (0<=tAt t i i)
def qnT(l:PLog)(w:Int)(conf:List Int):Rws:=qqr (1+zI l.books) (qpC l w conf)
theorem fwStep_sq{n:Nat}{t:Rws}(h:Sq n t){i:Nat}(hi:i<n)(k j:Nat):Sq n (qbX t i k j):=by
 unfold qbX
 split
 ·exact qdi h hi _ _
 ·exact h
theorem fwStep_le{n:Nat}{t:Rws}(h:Sq n t){i j:Nat}(hi:i<n)(hj:j<n)(k a b:Nat):tAt (qbX t i k j) a b<=tAt t a b:=by
 unfold qbX
 split
 ·rw[qfT h hi hj]
  split
  ·rename_i h1
   rw[h1.1,h1.2];omega
  ·omega
 ·omega
theorem qmh{n:Nat}{f:Rws->Nat->Rws}(hf:∀ t x,x<n->Sq n t->Sq n (f t x) /\ ∀ a b,tAt (f t x) a b<=tAt t a b):∀ (l:List Nat) (t:Rws),(∀ x∈l,x<n)->Sq n t->Sq n (l.foldl f t) /\ ∀ a b,tAt (l.foldl f t) a b<=tAt t a b
 | [],t,_,h=>⟨h,fun a b=>Int.le_refl _⟩
 | x::l,t,hl,h=>by
  obtain⟨h1,h2⟩:=hf t x (hl x (List.mem_cons_self ..)) h;obtain⟨h3,h4⟩:=qmh hf l (f t x) (fun y hy=>hl y (List.mem_cons_of_mem _ hy)) h1;exact⟨h3,fun a b=>Int.le_trans (h4 a b) (h2 a b)⟩
theorem qlv{n x:Nat}(h:x∈List.range n):x<n:=List.mem_range.1 h
theorem qjX{n:Nat}{t:Rws}(h:Sq n t){i:Nat}(hi:i<n)(k:Nat):Sq n (qoY n t i k) /\ ∀ a b,tAt (qoY n t i k) a b<=tAt t a b:=
 qmh (fun t x hx h=>⟨fwStep_sq h hi k x,fun a b=>fwStep_le h hi hx k a b⟩) _ t (fun x hx=>qlv hx) h
theorem qed{n:Nat}{t:Rws}(h:Sq n t)(k:Nat):Sq n (qbp n t k) /\ ∀ a b,tAt (qbp n t k) a b<=tAt t a b:=
 qmh (fun t x hx h=>qjX h hx k) _ t (fun x hx=>qlv hx) h
structure StgI(n k:Nat)(M:Int)(t0 t:Rws):Prop where
 sq:Sq n t
 row:∀ b,tAt t k b=tAt t0 k b
 col:∀ a,tAt t a k=tAt t0 a k
 bd:∀ a b,-(2*M)<=tAt t a b/\tAt t a b<=nvr
theorem stg_step{n k:Nat}{M:Int}{t0 t:Rws}(hM:0<=M/\M<=1152921504606846976)(h0:∀ a b,-M<=tAt t0 a b/\tAt t0 a b<=nvr)(hk:0<=tAt t0 k k)(h:StgI n k M t0 t){i j:Nat}(hi:i<n)(hj:j<n):StgI n k M t0 (qbX t i k j)/\tbl (qbX t i k j)=PG.stepT nvr (tbl t) i k j:=by
 have e1:∀ a b,tbl t a b=tAt t a b:=fun _ _=>rfl;have hnv:nvr=1099511627776:=rfl;unfold qbX PG.stepT PG.viaF;rw[e1,e1,e1];have hx:=h0 i k;have hy:=h0 k j;have hb:=h.bd i j;rw[<- h.col i]at hx;rw[<- h.row j]at hy
 by_cases hc:tAt t i k<nvr/\tAt t k j<nvr
 ·have hw:wr (tAt t i k+tAt t k j)=tAt t i k+tAt t k j:=qb (by omega)
  rw[if_pos hc,if_pos hc,hw];refine⟨⟨qdi h.sq hi _ _,fun b=>?_,fun a=>?_,fun a b=>?_⟩,tbl_set h.sq hi hj _⟩
  ·rw[qfT h.sq hi hj]
   split
   ·rename_i h1
    obtain⟨rfl,rfl⟩:=h1;rw[<- h.row k]at hk;rw[<- h.row b];omega
   ·exact h.row b
  ·rw[qfT h.sq hi hj]
   split
   ·rename_i h1
    obtain⟨rfl,rfl⟩:=h1;rw[<- h.row k]at hk;rw[<- h.col a];omega
   ·exact h.col a
  ·rw[qfT h.sq hi hj]
   have:=h.bd a b
   split
   ·omega
   ·exact this
 ·rw[if_neg hc,if_neg hc,<- e1]
  refine⟨h,?_⟩
  funext a b
  unfold PG.updT
  split
  ·rename_i h1;rw[h1.1,h1.2]
  ·rfl
theorem qjY{n k:Nat}{M:Int}{t0:Rws}{f:Rws->Nat->Rws}{g:PG.Tb->Nat->PG.Tb}(hf:∀ t x,x<n->StgI n k M t0 t->StgI n k M t0 (f t x)/\tbl (f t x)=g (tbl t) x):∀ (l:List Nat) (t:Rws),(∀ x∈l,x<n)->StgI n k M t0 t->StgI n k M t0 (l.foldl f t)/\tbl (l.foldl f t)=l.foldl g (tbl t)
 | [],t,_,h=>⟨h,rfl⟩
 | x::l,t,hl,h=>by
  obtain⟨h1,h2⟩:=hf t x (hl x (List.mem_cons_self ..)) h;obtain⟨h3,h4⟩:=qjY hf l (f t x) (fun y hy=>hl y (List.mem_cons_of_mem _ hy)) h1;exact⟨h3,by rw[List.foldl_cons,h4,h2];rfl⟩
theorem stage_eq{n k:Nat}{M:Int}{t:Rws}(hM:0<=M/\M<=1152921504606846976)(hs:Sq n t)(h0:∀ a b,-M<=tAt t a b/\tAt t a b<=nvr)(hk:0<=tAt t k k):(∀ a b,-(2*M)<=tAt (qbp n t k) a b/\tAt (qbp n t k) a b<=nvr)/\tbl (qbp n t k)=PG.stageT nvr n (tbl t) k:=by
 have h:StgI n k M t t:=⟨hs,fun _=>rfl,fun _=>rfl,fun a b=>by have:=h0 a b;omega⟩;obtain⟨h1,h2⟩:=qjY (f:=fun t i=>qoY n t i k) (g:=fun t i=>PG.rowT nvr n t i k) (fun t' i hi hI=>qjY (f:=fun t j=>qbX t i k j) (g:=fun t j=>PG.stepT nvr t i k j) (fun t' j hj hI=>stg_step hM h0 hk hI hi hj) (List.range n) t' (fun x hx=>qlv hx) hI) (List.range n) t (fun x hx=>qlv hx) h;exact⟨h1.bd,h2⟩
def jr(n:Nat)(t:Rws):Nat->Rws
 | 0=>t
 | k+1=>qbp n (jr n t k) k
theorem fwAll_stages(n:Nat)(t:Rws):qqr n t=jr n t n:=by
 have h:∀ m,(List.range m).foldl (fun t k=>qbp n t k) t=jr n t m:=by
  intro m
  induction m with
  | zero=>rfl
  | succ m ih=>rw[List.range_succ,List.foldl_append,ih];rfl
 exact h n
theorem qaY{n:Nat}{t:Rws}(h:Sq n t):∀ k,Sq n (jr n t k)
 | 0=>h
 | k+1=>(qed (qaY h k) k).1
theorem qhT{n:Nat}{t:Rws}(hn:n<=28)(hs:Sq n t)(h0:∀ a b,-1100000<=tAt t a b/\tAt t a b<=nvr):∀ k,k<=n->(∃ m,m<n/\tAt (jr n t k) m m<0/\PG.stages nvr n (tbl t) k m m<0)\/(tbl (jr n t k)=PG.stages nvr n (tbl t) k /\ ∀ a b,-(1100000*2^k)<=tAt (jr n t k) a b/\tAt (jr n t k) a b<=nvr)
 | 0,_=>.inr ⟨rfl,fun a b=>by have:=h0 a b;simpa[jr]using this⟩
 | k+1,hk=>by
  rcases qhT hn hs h0 k (by omega) with⟨m,h1,h2,h3⟩ | ⟨h1,h2⟩
  ·refine .inl ⟨m,h1,?_,?_⟩
   ·have:=(qed (qaY hs k) k).2 m m
    show tAt (qbp n (jr n t k) k) m m<0;omega
   ·have:=PG.stageT_le nvr n (PG.stages nvr n (tbl t) k) k m m
    show PG.stageT nvr n (PG.stages nvr n (tbl t) k) k m m<0;omega
  ·by_cases hd:0<=tAt (jr n t k) k k
   ·right
    have hp:(1100000*2^k:Int)<=1152921504606846976:=by
     have h5:(2:Nat)^k<=2^28:=Nat.pow_le_pow_right (by omega) (by omega);have h6:((2^k:Nat):Int)<=((2^28:Nat):Int):=by exact_mod_cast h5
     have h7:((2^k:Nat):Int)=(2:Int)^k:=by simp
     rw[h7]at h6;have h8:((2^28:Nat):Int)=268435456:=by decide
     omega
    have hp0:(0:Int)<=1100000*2^k:=by
     have h7:((2^k:Nat):Int)=(2:Int)^k:=by simp
     exact Int.mul_nonneg (by decide) (h7▸Int.natCast_nonneg _)
    obtain⟨h3,h4⟩:=stage_eq (n:=n) ⟨hp0,hp⟩ (qaY hs k) h2 hd;refine⟨by show tbl (qbp n (jr n t k) k)=PG.stageT nvr n (PG.stages nvr n (tbl t) k) k;rw[h4,h1],fun a b=>?_⟩;have h5:=h3 a b;have h6:(1100000*2^(k+1):Int)=2*(1100000*2^k):=by rw[Int.pow_succ];omega
    rw[h6];exact h5
   ·refine .inl ⟨k,by omega,?_,?_⟩
    ·have:=(qed (qaY hs k) k).2 k k
     show tAt (qbp n (jr n t k) k) k k<0;omega
    ·have:=PG.stageT_le nvr n (PG.stages nvr n (tbl t) k) k k k
     have e:PG.stages nvr n (tbl t) k k k=tAt (jr n t k) k k:=by rw[<- h1];rfl
     show PG.stageT nvr n (PG.stages nvr n (tbl t) k) k k k<0;omega
theorem star_walk{l:PLog}(hC:qK l=0){w:Int}{conf:List Int}{i j:Nat}{p q:Per}(hi:(qV l)[i]?=some p)(hj:(qV l)[j]?=some q):∃ n x,PG.Walk (qls l w conf) i j n x:=by
 have to0:∃ n x,PG.Walk (qls l w conf) i 0 n x:=by
  rcases qdf hi with⟨_,rfl⟩ | ⟨a,b,m,h1,h2,rfl,rfl⟩
  ·exact⟨0,0,.nil _⟩
  ·have:∃ e',Just l w conf e'/\e'.a=⟨a,m⟩/\e'.b = .right:=by
    cases m with
    | zero=>exact⟨⟨⟨a,0⟩,.right,w-b.off.lo⟩,.off a b h1 _ (by simp[jl]),rfl,rfl⟩
    | succ m=>exact⟨⟨⟨a,(m+1:Nat)⟩,.right,w-b.set.lo⟩,.set a b h1 (m+1) (by omega) h2 _ (by simp[jl]),rfl,rfl⟩
   obtain⟨e',h3,h4,h5⟩:=this;obtain⟨e,he,hs⟩:=qjV hC h3;have ha:=hs.a;have hb:=hs.b;rw[h4]at ha;rw[h5]at hb;have e1:=qfm ha hi;have e2:=qfm hb (jh l);have:=PG.Walk.one he;rw[e1,e2]at this;exact⟨_,_,this⟩
 have from0:∃ n x,PG.Walk (qls l w conf) 0 j n x:=by
  rcases qdf hj with⟨_,rfl⟩ | ⟨a,b,m,h1,h2,rfl,rfl⟩
  ·exact⟨0,0,.nil _⟩
  ·have:∃ e',Just l w conf e'/\e'.a = .right/\e'.b=⟨a,m⟩:=by
    cases m with
    | zero=>exact⟨_,.off a b h1 _ (List.mem_cons_self ..),rfl,rfl⟩
    | succ m=>exact⟨_,.set a b h1 (m+1) (by omega) h2 _ (List.mem_cons_self ..),rfl,rfl⟩
   obtain⟨e',h3,h4,h5⟩:=this;obtain⟨e,he,hs⟩:=qjV hC h3;have ha:=hs.a;have hb:=hs.b;rw[h4]at ha;rw[h5]at hb;have e1:=qfm ha (jh l);have e2:=qfm hb hj;have:=PG.Walk.one he;rw[e1,e2]at this;exact⟨_,_,this⟩
 obtain⟨_,_,h1⟩:=to0;obtain⟨_,_,h2⟩:=from0;exact⟨_,_,h1.trans h2⟩
theorem qhU{n:Nat}{t:Rws}:qqs n t=true ↔ ∀ m,m<n->0<=tAt t m m:=by
 unfold qqs;rw[List.all_eq_true];exact⟨fun h m hm=>of_decide_eq_true (h m (List.mem_range.2 hm)),fun h m hm=>decide_eq_true (h m (qlv hm))⟩
theorem qqa{l:PLog}(hC:qK l=0){w:Int}(hw:0<=w/\w<=1048576)(conf:List Int):Sq (1+zI l.books) (qnT l w conf)/\(∀ a b,tAt (qnT l w conf) a b<=nvr)/\qqs (1+zI l.books) (qnT l w conf)=qcn l w conf/\(qcn l w conf=true -> ∀ (i j:Nat) p q,(qV l)[i]?=some p->(qV l)[j]?=some q->tAt (qnT l w conf) i j=qpe l w conf p q):=by
 obtain⟨hI,hB⟩:=begI hC hw conf;have hn:=qmg hC;have hnl:=qfl l;unfold qnT;rw[fwAll_stages];have hboth:=qhT hn hI.sq hI.bd (1+zI l.books) (Nat.le_refl _);have hsq:=qaY hI.sq (1+zI l.books);have hle:∀ k a b,tAt (jr (1+zI l.books) (qpC l w conf) k) a b<=nvr:=by
  intro k
  induction k with
  | zero=>exact fun a b=>(hI.bd a b).2
  | succ k ih=>exact fun a b=>Int.le_trans ((qed (qaY hI.sq k) k).2 a b) (ih a b)
 generalize hT:jr (1+zI l.books) (qpC l w conf) (1+zI l.books)=T at hboth hsq;have hle:=hle (1+zI l.books);rw[hT]at hle;have good:(∀ m,m<1+zI l.books->0<=PG.stages nvr (1+zI l.books) (tbl (qpC l w conf)) (1+zI l.books) m m)->qcn l w conf=true /\ ∀ (i j:Nat) p q,(qV l)[i]?=some p->(qV l)[j]?=some q->PG.stages nvr (1+zI l.books) (tbl (qpC l w conf)) (1+zI l.books) i j=qpe l w conf p q:=by
  intro hd;obtain⟨hno,hD⟩:=PG.table_good hB hd;generalize PG.stages nvr (1+zI l.books) (tbl (qpC l w conf)) (1+zI l.books)=S at hD;have known:∀ (i j:Nat) p q,(qV l)[i]?=some p->(qV l)[j]?=some q->(if j<1+zI l.books/\S i j<nvr then some (S i j) else none)=some (S i j):=fun i j p q hi hj=>by
   have h1:=(List.getElem?_eq_some_iff.1 hi).1;obtain⟨_,_,hwk⟩:=star_walk hC (w:=w) (conf:=conf) hi hj;obtain⟨y,h2,_⟩:=(hD i (by omega)).le hwk
   (try simp only at h2)
   split at h2
   ·rename_i h3;rw[if_pos h3]
   ·cases h2
  have hpot:∀ (i:Nat) p,(qV l)[i]?=some p->PG.Pot (qls l w conf) fun v=>((if v<1+zI l.books/\S i v<nvr then some (S i v) else none:Option Int)).getD 0:=fun i p hi=>by
   have h1:=(List.getElem?_eq_some_iff.1 hi).1;refine(hD i (by omega)).pot fun e he=>?_;obtain⟨e',_,hs⟩:=qjU he;exact⟨_,known i e.a p e'.a hi hs.a⟩
  have hfit:qcn l w conf=true:=qjK.2 ⟨_,qlu hC (hpot 0 .right (jh l))⟩;refine⟨hfit,fun i j p q hi hj=>?_⟩;have h1:=(List.getElem?_eq_some_iff.1 hi).1;have hp:p∈qV l:=List.mem_of_getElem? hi;have hq:q∈qV l:=List.mem_of_getElem? hj;have hij:=known i j p q hi hj;have hii:=known i i p p hi hi;have hroot:=(hD i (by omega)).root0;refine Int.le_antisymm ?_ ?_
  ·have h2:=far_in (qlu hC (hpot i p hi)) hp hq
   (try simp only at h2)
   rw[qlt hi,qlt hj,hij,hroot]at h2;simp only[Option.getD_some]at h2;omega
  ·obtain⟨t,ht,he⟩:=qla hfit hp hq
   have h2:=(hD i (by omega)).most (qfU ht) hij
   (try simp only at h2)
   rw[hi,hj]at h2;simp only[Option.getD_some]at h2;omega
 refine⟨hsq,hle,?_,fun hf=>?_⟩
 ·rw[Bool.eq_iff_iff,qhU]
  constructor
  ·intro hd
   rcases hboth with⟨m,h1,h2,_⟩ | ⟨h1,_⟩
   ·have:=hd m h1;omega
   ·refine(good fun m hm=>?_).1
    rw[<- h1];exact hd m hm
  ·intro hf m hm
   obtain⟨t,ht⟩:=qjK.1 hf;have hno:=PG.pot_noNeg (qfU ht);have hd:=PG.table_diag hB hno (1+zI l.books)
   rcases hboth with⟨m',h1,_,h3⟩ | ⟨h1,_⟩
   ·have:=hd m' h1;omega
   ·have:=hd m hm
    rw[<- h1]at this;exact this
 ·obtain⟨t,ht⟩:=qjK.1 hf
  have hno:=PG.pot_noNeg (qfU ht);have hd:=PG.table_diag hB hno (1+zI l.books)
  rcases hboth with⟨m',h1,_,h3⟩ | ⟨h1,_⟩
  ·have:=hd m' h1;omega
  ·intro i j p q hi hj
   rw[<- (good hd).2 i j p q hi hj,<- h1];rfl
end Go.PX
namespace Go.PX
open Go.Proofs
open Go.RowKit
theorem manyP_take{l:PLog}{i:Nat}{b:PBook}(h:l.books[i]?=some b):zI (l.books.take (i+1))=zI (l.books.take i)+(zm b.ents+1):=by
 unfold zI;rw[List.take_succ,h,List.map_append,List.sum_append];simp
theorem manyP_bd{bs:List PBook}(h:∀ b∈bs,b.ents.length<=8):zI bs<=9*bs.length:=by
 induction bs with
 | nil=>exact Nat.le_refl _
 | cons b r ih=>
  have:=ih fun c hc=>h c (List.mem_cons_of_mem _ hc);have h2:=qaL b;have h3:=h b (List.mem_cons_self ..);rw[qbF,List.length_cons];omega
theorem qst(l:PLog)(hl:l.books.length<=3)(hb:∀ b∈l.books,b.ents.length<=8)(i n:Nat)(hi:i<=l.books.length)(hn:n<=1000):FnV Tryz.prog 73 [l.d,i64 i,i64 n] (i64 (jp l i n)):=by
 show FnV Tryz.prog 73 [l.d,i64 i,i64 n] _;have hm:∀ k,k<=3->zI (l.books.take k)<=27:=fun k hk=>by
  have:=manyP_bd (bs:=l.books.take k) fun b h=>hb b (List.mem_of_mem_take h);have h2:(l.books.take k).length<=k:=by simp;omega
  omega
 show FnV Tryz.prog 73 [l.d,i64 i,i64 n] _;refine qG mixed ql Tryz.func73 rfl (ft:=ft73) 3 (by decide +kernel) (by rfl) fun {σ} Y st=>?_;conv=>whnf
 refine qm ((1+n:Nat):Int) (by omega) (qb (by omega)) ?_;conv=>whnf
 refine zP (T:=tys) ql (by exact qi mixed ql (by decide +kernel)) (α:=Nat) (fun k=>⟨[(1,.d (i64 i)),(3,.ptr 3 0),(7,.d (i64 (jp l k n))),(8,.d (i64 k))],[(3,.box (.dd l.cells))],st⟩) (fun k=>k<=i) (fun k=>i-k) 0 (Wk.sub (by repeat' first|exact trivial|refine⟨?_,?_⟩|rfl|(simp only[List.length_map];rfl)|simp[PX.get]) ⟨(by first | rfl | (simp only[List.length_map];rfl) | simp[PX.get]),trivial⟩) (Nat.zero_le _) ?_;rintro k hk;conv=>whnf
 refine qj (fun h=>?_) (fun h=>?_)
 ·have hki:k<i:=by have:=of_decide_eq_true h;omega
  obtain⟨b,hx⟩:∃ b,l.books[k]?=some b:=⟨_,List.getElem?_eq_getElem (by omega)⟩;have h51:=fun {σ}=>@qsr b (by have:=hb b (List.mem_of_getElem? hx);omega) σ;have hmk:=manyP_take hx;have h1:=hm k (by omega);have h2:=hm (k+1) (by omega);conv=>whnf
  refine qw hx ?_;conv=>whnf
  refine qk (ds:=[.agg b.cells]) h51 rfl rfl ?_;conv=>whnf
  refine qm ((jp l (k+1) n:Nat):Int) (by unfold jp;omega) (qb (by unfold jp;omega)) ?_;conv=>whnf
  refine qf (qb (by(try dsimp only);omega)) ?_;conv=>whnf
  exact⟨k+1,by omega,hki,(Wk.sub (by repeat' first|exact trivial|refine⟨?_,?_⟩|rfl|(simp only[List.length_map];rfl)|simp[PX.get]) ⟨(by first | rfl | (simp only[List.length_map];rfl) | simp[PX.get]),trivial⟩)⟩
 ·have hki:k=i:=by have:=of_decide_eq_false h;omega
  subst hki;conv=>whnf
  exact qc 0 rfl ⟨⟨rfl,rfl⟩,rfl⟩
theorem pa114(l:PLog)(x:PAt)(hl:l.books.length<=1000)(hb:∀ b∈l.books,b.ents.length<=1000):FnV Tryz.prog 114 [l.d,x.d] (.bool (qke l x)):=by
 show FnV Tryz.prog 114 [l.d,x.d] _;have e1:qke l x=(inB x.book 0 ((l.books.length:Int)-1)&&inB x.entry 0 (((qcD l x.book).ents.length:Int)-1)):=by unfold qke qcp;rw[Bool.not_not,Bool.not_not]
 rw[e1];show FnV Tryz.prog 114 [l.d,x.d] _;refine qG mixed ql Tryz.func114 rfl (ft:=ft114) 2 (by decide +kernel) (by rfl) fun {σ} Y st=>?_;conv=>whnf
 refine qm ((l.books.length:Int)-1) (by rw[List.length_map]) (qb (by omega)) ?_;conv=>whnf
 refine qo (ds:=[i64 x.book,i64 0,i64 ((l.books.length:Int)-1)]) (qpP x.book 0 ((l.books.length:Int)-1)) rfl rfl ?_
 cases h1:inB x.book 0 ((l.books.length:Int)-1) with
 | false=>
  conv=>whnf
  exact qc 0 rfl ⟨⟨rfl,rfl⟩,rfl⟩
 | true=>
  have h1:=qlY.1 h1;obtain⟨b,hx⟩:∃ b,l.books[x.book.toNat]?=some b:=⟨_,List.getElem?_eq_getElem (by omega)⟩;have hbk:qcD l x.book=b:=by unfold qcD;rw[hx];rfl
  have hbl:=hb b (List.mem_of_getElem? hx);rw[hbk,Bool.true_and];conv=>whnf
  refine qI b.cells ⟨by omega,by rw[List.getElem?_map,hx];rfl⟩ ?_;conv=>whnf
  refine qm ((b.ents.length:Int)-1) (by rw[List.length_map]) (qb (by omega)) ?_;conv=>whnf
  refine qo (ds:=[i64 x.entry,i64 0,i64 ((b.ents.length:Int)-1)]) (qpP x.entry 0 ((b.ents.length:Int)-1)) rfl rfl ?_;conv=>whnf
  exact qc 0 rfl ⟨⟨rfl,rfl⟩,rfl⟩
theorem qsu(l:PLog)(xs:List PAt)(hxl:xs.length<=1000):FnV Tryz.prog 77 [l.d,qdp xs] (i64 (qan l xs)):=by
 have h18:FnV Tryz.prog 18 [l.d] (.tup [i64 (qaM l).1,i64 (qaM l).2.1,i64 (qK l)]):=pa18 l;unfold qan
 rcases Classical.em (¬ qK l=0) with hc | hc
 ·rw[if_neg hc]
  generalize qK l=N at hc h18;show FnV Tryz.prog 77 [l.d,qdp xs] _;refine qG mixed ql Tryz.func77 rfl (ft:=qrX) 2 (by decide +kernel) (by rfl) fun {σ} Y st=>?_;conv=>whnf
  refine qk (ds:=[l.d]) h18 rfl rfl ?_;conv=>whnf
  refine zr (T:=tys) ql (by exact qi mixed ql (by decide +kernel)) xs (fun i (_:Unit)=>⟨[(1,.d (qdp xs)),(2,.ptr 2 0),(7,.d (i64 N)),(8,.d (i64 i))],[(2,.box (.dd l.cells))],st⟩) (fun _ _ _=>True) () (Wk.sub (by repeat' first|exact trivial|refine⟨?_,?_⟩|rfl|(simp only[List.length_map];rfl)|simp[PX.get]) ⟨(by first | rfl | (simp only[List.length_map];rfl) | simp[PX.get]),trivial⟩) trivial ?_ ?_
  ·rintro i x r _ hx hi hr _
   conv=>whnf
   refine qj (fun _=>?_) (fun h=>absurd hi (by have:=of_decide_eq_false h;simp at this;omega));conv=>whnf
   refine qj (fun h=>absurd h (by simp[hc])) (fun _=>?_);conv=>whnf
   exact qc 0 rfl ⟨⟨rfl,rfl⟩,rfl⟩
  ·rintro _ _
   conv=>whnf
   refine qj (fun h=>absurd h (by simp)) (fun _=>?_);conv=>whnf
   exact qc 0 rfl ⟨⟨rfl,rfl⟩,rfl⟩
 have hc:qK l=0:=Classical.not_not.1 hc;rw[if_pos hc];rw[hc]at h18;have hR:=zT hc;have hlen:=hR.books;have hbl:∀ b∈l.books,b.ents.length<=1000:=fun b hb=>by have:=(hR.book b hb).ents;omega
 show FnV Tryz.prog 77 [l.d,qdp xs] _;refine qG mixed ql Tryz.func77 rfl (ft:=qrX) 2 (by decide +kernel) (by rfl) fun {σ} Y st=>?_;conv=>whnf
 refine qk (ds:=[l.d]) h18 rfl rfl ?_;conv=>whnf
 refine zr (T:=tys) ql (by exact qi mixed ql (by decide +kernel)) xs (fun i (e:Int)=>⟨[(1,.d (qdp xs)),(2,.ptr 2 0),(7,.d (i64 e)),(8,.d (i64 i))],[(2,.box (.dd l.cells))],st⟩) (fun i r e=>(e=0/\xs.all (qke l)=r.all (qke l))\/(e=4/\xs.all (qke l)=false)) 0 (Wk.sub (by repeat' first|exact trivial|refine⟨?_,?_⟩|rfl|(simp only[List.length_map];rfl)|simp[PX.get]) ⟨(by first | rfl | (simp only[List.length_map];rfl) | simp[PX.get]),trivial⟩) (.inl ⟨rfl,rfl⟩) ?_ ?_
 ·rintro i x r e hx hi hr he
  conv=>whnf
  refine qj (fun _=>?_) (fun h=>absurd hi (by have:=of_decide_eq_false h;simp at this;omega));conv=>whnf
  rcases he with⟨rfl,he⟩ | ⟨rfl,he⟩
  ·rw[List.all_cons]at he
   conv=>whnf
   refine qw hx ?_;conv=>whnf
   refine qo (ds:=[l.d,x.d]) (pa114 l x (by omega) hbl) rfl rfl ?_
   cases hi2:qke l x with
   | true=>
    rw[hi2,Bool.true_and]at he;conv=>whnf
    refine qf (qb (by(try dsimp only);omega)) ?_;conv=>whnf
    exact⟨0,.inl ⟨rfl,he⟩,(Wk.sub (by repeat' first|exact trivial|refine⟨?_,?_⟩|rfl|(simp only[List.length_map];rfl)|simp[PX.get]) ⟨(by first | rfl | (simp only[List.length_map];rfl) | simp[PX.get]),trivial⟩)⟩
   | false=>
    rw[hi2,Bool.false_and]at he;conv=>whnf
    refine qf (qb (by(try dsimp only);omega)) ?_;conv=>whnf
    exact⟨4,.inr ⟨rfl,he⟩,(Wk.sub (by repeat' first|exact trivial|refine⟨?_,?_⟩|rfl|(simp only[List.length_map];rfl)|simp[PX.get]) ⟨(by first | rfl | (simp only[List.length_map];rfl) | simp[PX.get]),trivial⟩)⟩
  ·rw[he]
   conv=>whnf
   exact qc 0 rfl ⟨⟨rfl,rfl⟩,rfl⟩
 ·rintro e he
  conv=>whnf
  refine qj (fun h=>absurd h (by simp)) (fun _=>?_);conv=>whnf
  rcases he with⟨rfl,he⟩ | ⟨rfl,he⟩
  ·rw[he]
   exact qc 0 rfl ⟨⟨rfl,rfl⟩,rfl⟩
  ·rw[he]
   exact qc 0 rfl ⟨⟨rfl,rfl⟩,rfl⟩
theorem qsv{l:PLog}{i k:Nat}{b:PBook}{e:PEnt}(hl:l.books.length<=3)(hb:∀ b∈l.books,b.ents.length<=8)(h:At l i k b e):FnV Tryz.prog 78 [l.d,PAt.d ⟨i,k⟩] (i64 (jp l i (qJ b k))):=by
 have h1:=h.book;have h2:=(List.getElem?_eq_some_iff.1 h1).1;have h3:=(List.getElem?_eq_some_iff.1 h.ent).1;have h4:=hb b (List.mem_of_getElem? h1);have h5:=zE b k;have h6:=qaL b;have c1:FnV Tryz.prog 105 [.agg b.cells,i64 k] (i64 (qJ b k)):=qnJ b k (by omega) (by omega);have c2:=fun {σ}=>@qst l hl hb i (qJ b k) (by omega) (by omega) σ;generalize qJ b k=p at c1 c2;show FnV Tryz.prog 78 [l.d,PAt.d ⟨i,k⟩] _;refine qG mixed ql Tryz.func78 rfl (ft:=ft78) 2 (by decide +kernel) (by rfl) fun {σ} Y st=>?_;conv=>whnf
 refine qw h1 ?_;conv=>whnf
 refine qo (ds:=[.agg b.cells,i64 k]) c1 rfl rfl ?_;conv=>whnf
 refine qo (ds:=[l.d,i64 i,i64 p]) c2 rfl rfl ?_;conv=>whnf
 exact qc 0 rfl ⟨⟨rfl,rfl⟩,rfl⟩
end Go.PX
namespace Go.PX
inductive Rw where
 | at' (l:List (List D))
 | foc (K n:Nat)
def qpi(B sz i:Nat):Rw->V
 | .at' l=>.sl (B+i) sz 0 l.length
 | .foc K n=>.sl K sz 0 n
def hdrs(B sz:Nat):Nat->List Rw->List (List V)
 | _,[]=>[]
 | i,r::rs=>[qpi B sz i r]::hdrs B sz (i+1) rs
def qN(B sz:Nat):Nat->List Rw->Heap
 | _,[]=>[]
 | i,.at' l::rs=>(B+i,.arr sz (.dd l))::qN B sz (i+1) rs
 | i,.foc _ _::rs=>qN B sz (i+1) rs
theorem qbb(B sz:Nat):∀ (rows:List Rw) (i k:Nat),get (qN B sz i rows) k=if B+i<=k then (match rows[k-(B+i)]? with | some (.at' l)=>some (.arr sz (.dd l)) | _=>none) else none
 | [],i,k=>by simp[qN,get]
 | .at' l::rs,i,k=>by
  rw[qN,qF,qbb B sz rs (i+1) k]
  by_cases h1:k=B+i
  ·subst h1
   simp
  ·rw[if_neg h1]
   by_cases h2:B+(i+1)<=k
   ·rw[if_pos h2,if_pos (by omega)]
    have:k-(B+i)=(k-(B+(i+1)))+1:=by omega
    rw[this,List.getElem?_cons_succ]
   ·rw[if_neg h2,if_neg (by omega)]
 | .foc K n::rs,i,k=>by
  rw[qN,qbb B sz rs (i+1) k]
  by_cases h1:k=B+i
  ·subst h1
   rw[if_neg (by omega),if_pos (by omega),Nat.sub_self];rfl
  ·by_cases h2:B+(i+1)<=k
   ·rw[if_pos h2,if_pos (by omega)]
    have:k-(B+i)=(k-(B+(i+1)))+1:=by omega
    rw[this,List.getElem?_cons_succ]
   ·rw[if_neg h2,if_neg (by omega)]
theorem get_famR_lt{B sz i k:Nat}{rows:List Rw}(h:k<B):get (qN B sz i rows) k=none:=by
 rw[qbb,if_neg (by omega)]
theorem qg{B sz:Nat}{k:Nat}(h:k<B):∀ {rows:List Rw} {i:Nat},cut (qN B sz i rows) k=qN B sz i rows
 | [],_=>rfl
 | .at' l::rs,i=>by
  have:Nat.beq (B+i) k=false:=by rw[Bool.eq_false_iff];intro e;have:=Nat.eq_of_beq_eq_true e;omega
  rw[qN,cut,this];simp only;rw[qg h]
 | .foc K n::rs,i=>by rw[qN];exact qg h
theorem qh{B sz:Nat}(f:V->V):∀ {rows:List Rw} {i:Nat},jO (Obj.mapId f) (qN B sz i rows)=qN B sz i rows
 | [],_=>rfl
 | .at' l::rs,i=>by
  rw[qN,jO,qh f];rfl
 | .foc K n::rs,i=>by rw[qN];exact qh f
theorem qa{T T':Heap}{K:Heap->Prop}(e:T=T')(h:K T'):qbd T K:=by
 subst e;rw[qaE];exact h
mutual
def okN(p:Nat->Bool):V->Bool
 | .d _=>true
 | .agg cs=>qpD p cs
 | .tup cs=>qpD p cs
 | .clo _ cs=>qpD p cs
 | .ptr j _=>p j
 | .ep j _ _ _=>p j
 | .sl j _ _ _=>p j
 | .mp j=>p j
 | .it j=>p j
 | .yld=>true
 | .unk=>true
def qpD(p:Nat->Bool):List V->Bool
 | []=>true
 | v::r=>okN p v&&qpD p r
end
def qpE(p:Nat->Bool):List (List V)->Bool
 | []=>true
 | v::r=>qpD p v&&qpE p r
def qrQ(p:Nat->Bool):Obj->Bool
 | .box (.dd _)=>true
 | .box (.vv l)=>qpD p l
 | .arr _ (.dd _)=>true
 | .arr _ (.vv l)=>qpE p l
 | .map _=>true
 | .iter _ _=>true
 | .buf _ _=>true
 | .tb _ l=>qpD p l
 | .mit v _ _ _=>okN p v
def qpj(p:Nat->Bool):Env->Bool
 | []=>true
 | (_,v)::r=>okN p v&&qpj p r
def qpk(p:Nat->Bool):Heap->Bool
 | []=>true
 | (k,o)::r=>p k&&(qrQ p o&&qpk p r)
mutual
theorem qcI{p:Nat->Bool}{f:V->V}(hf:∀ v k,qdq v=some k->p k=true->f v=v):∀ (v:V),okN p v=true->mapId f v=v
 | .d _,_=>by rw[mapId]
 | .agg cs,h=>by rw[mapId,qap hf cs (by simpa[okN]using h)]
 | .tup cs,h=>by rw[mapId,qap hf cs (by simpa[okN]using h)]
 | .clo _ cs,h=>by rw[mapId,qap hf cs (by simpa[okN]using h)]
 | .ptr j _,h=>by rw[mapId];exact hf _ _ rfl (by simpa[okN]using h)
 | .ep j _ _ _,h=>by rw[mapId];exact hf _ _ rfl (by simpa[okN]using h)
 | .sl j _ _ _,h=>by rw[mapId];exact hf _ _ rfl (by simpa[okN]using h)
 | .mp j,h=>by rw[mapId];exact hf _ _ rfl (by simpa[okN]using h)
 | .it j,h=>by rw[mapId];exact hf _ _ rfl (by simpa[okN]using h)
 | .yld,_=>by rw[mapId]
 | .unk,_=>by rw[mapId]
theorem qap{p:Nat->Bool}{f:V->V}(hf:∀ v k,qdq v=some k->p k=true->f v=v):∀ (l:List V),qpD p l=true->zC f l=l
 | [],_=>by rw[zC]
 | v::r,h=>by
  rw[qpD,Bool.and_eq_true]at h;rw[zC,qcI hf v h.1,qap hf r h.2]
end
theorem qgo{p:Nat->Bool}{f:V->V}(hf:∀ v k,qdq v=some k->p k=true->f v=v):∀ (l:List (List V)),qpE p l=true->qr f l=l
 | [],_=>by rw[qr]
 | v::r,h=>by
  rw[qpE,Bool.and_eq_true]at h;rw[qr,qap hf v h.1,qgo hf r h.2]
theorem qbY{p:Nat->Bool}{f:V->V}(hf:∀ v k,qdq v=some k->p k=true->f v=v):∀ (o:Obj),qrQ p o=true->Obj.mapId f o=o
 | .box (.dd _),_=>rfl
 | .box (.vv l),h=>by show Obj.box (.vv (zC f l))=_;rw[qap hf l h]
 | .arr _ (.dd _),_=>rfl
 | .arr n (.vv l),h=>by show Obj.arr n (.vv (qr f l))=_;rw[qgo hf l h]
 | .map _,_=>rfl
 | .iter _ _,_=>rfl
 | .buf _ _,_=>rfl
 | .tb t l,h=>by show Obj.tb t (zC f l)=_;rw[qap hf l h]
 | .mit v n l u,h=>by show Obj.mit (mapId f v) n l u=_;rw[qcI hf v h]
end Go.PX
namespace Go.PX
def qkf(K k:Nat):Bool:=Nat.blt k 3000000 && !Nat.beq k K
theorem qiZ{K k:Nat}(h:qkf K k=true):k<3000000/\k≠K:=by
 unfold qkf at h;rw[Bool.and_eq_true]at h;refine⟨Nat.le_of_ble_eq_true h.1,?_⟩;rintro rfl;simp at h
theorem qeo{a b:Nat}(h:a≠b):Nat.beq a b=false:=by rw[Bool.eq_false_iff];exact fun e=>h (Nat.eq_of_beq_eq_true e)
theorem qfx{K j:Nat}(hj:j=K\/3000000<=j):∀ v k,qdq v=some k->qkf K k=true->qy j v=v:=by
 intro v k hv hk;have:=qiZ hk;unfold qy;rw[hv];simp only[qeo (show k≠j by rcases hj with rfl | h<;>omega)]
theorem qjZ{K i j:Nat}(hi:i=K\/3000000<=i):∀ v k,qdq v=some k->qkf K k=true->jy i j v=v:=by
 intro v k hv hk;have:=qiZ hk;have hb:=qeo (show k≠i by rcases hi with rfl | h<;>omega)
 cases v<;>simp[qdq]at hv<;>subst hv<;>simp[jy,hb]
theorem qka{p:Nat->Bool}:∀ {e:Env} {k:Nat} {v:V},qpj p e=true->get e k=some v->okN p v=true
 | [],_,_,_,h=>by cases h
 | (s,u)::r,k,v,h,hg=>by
  rw[qpj,Bool.and_eq_true]at h;rw[qF]at hg
  split at hg
  ·cases hg;exact h.1
  ·exact qka h.2 hg
theorem qfy{p:Nat->Bool}:∀ {e:Heap} {k:Nat} {v:Obj},qpk p e=true->get e k=some v->p k=true/\qrQ p v=true
 | [],_,_,_,h=>by cases h
 | (s,u)::r,k,v,h,hg=>by
  rw[qpk,Bool.and_eq_true,Bool.and_eq_true]at h;rw[qF]at hg
  split at hg
  ·rename_i e;subst e;cases hg;exact⟨h.1,h.2.1⟩
  ·exact qfy h.2.2 hg
theorem qdj{α:Type}:∀ (a b:Tab α) (k:Nat),get (a++b) k=match get a k with | some v=>some v | none=>get b k
 | [],b,k=>rfl
 | (s,u)::r,b,k=>by
  rw[List.cons_append,qF,qF,qdj r b k]
  split<;>rfl
theorem Wk.moveU{σ:Type}{e:Env}{h:Heap}{s:σ}(i j:Nat)(hj:¬ pinned j)(hij:i≠j) :
  Wk (⟨e,h,s⟩:St σ) ⟨jO (mapId (jy i j)) (jO (mapId (qy j)) e),qeM i j (jO (Obj.mapId (qy j)) (cut h j)),s⟩:=by
 intro cx r m L F a w hg;have h1:Good cx r m L F ⟨e,cut h j,s⟩ a w:=hg.del j;have h2:=h1.kill j;have hu:=qfL (e:=e) (h:=h) j (x:=j) (.inl rfl);exact⟨_,F,h2.move hj hij hu,Tr.refl F w⟩
theorem Wk.subT{σ:Type}{e e':Env}{h h':Heap}{s:σ}(he:qaA e' e)(hh:qaA h' h):Wk (⟨e,h,s⟩:St σ) ⟨e',h',s⟩:=
 fun cx r m L F a w hg=>⟨L,F,hg.sub he hh,Tr.refl F w⟩
theorem Wk.ren{σ:Type}{e:Env}{h h':Heap}{s:σ}{K:Nat}(i j:Nat)(hj:¬ pinned j)(hij:i≠j)(hi:i=K\/3000000<=i)(hjK:j=K\/3000000<=j)(he:qpj (qkf K) e=true)
  (hh:∀ k v,get h' k=some v->(k=j /\ ∃ o,get h i=some o/\v=Obj.mapId (jy i j) (Obj.mapId (qy j) o))\/(k≠j/\k≠i /\ ∃ o,get h k=some o/\v=Obj.mapId (jy i j) (Obj.mapId (qy j) o))) :
  Wk (⟨e,h,s⟩:St σ) ⟨e,h',s⟩:=by
 refine(Wk.moveU i j hj hij).trans (Wk.subT ?_ ?_)
 ·intro k v hv
  have hok:=qka he hv;rw[qP,qP,hv];simp only[Option.map_some];rw[qcI (qfx hjK) v hok,qcI (qjZ hi) v hok]
 ·intro k v hv
  have hn:get (jO (Obj.mapId (qy j)) (cut h j)) j=none:=by rw[qP,zV,if_pos rfl];rfl
  rw[qeV _ hn]
  rcases hh k v hv with⟨rfl,o,h1,rfl⟩ | ⟨h1,h2,o,h3,rfl⟩
  ·rw[if_pos rfl,qP,zV,if_neg hij,h1];rfl
  ·rw[if_neg h1,if_neg h2,qP,zV,if_neg h1,h3];rfl
def qic(K:Nat)(rows:List Rw):Prop:=∀ K' n,Rw.foc K' n∈rows->K'<3000000/\K'≠K
theorem qeH(B sz:Nat):∀ (rows:List Rw) (i j:Nat) ,(hdrs B sz i rows)[j]?=(rows[j]?).map fun r=>[qpi B sz (i+j) r]
 | [],i,j=>by simp[hdrs]
 | r::rs,i,0=>by simp[hdrs]
 | r::rs,i,j+1=>by
  rw[hdrs,List.getElem?_cons_succ,qeH B sz rs (i+1) j,List.getElem?_cons_succ,show i+1+j=i+(j+1) by omega]
theorem qkb(B sz:Nat):∀ (rows:List Rw) (i:Nat),(hdrs B sz i rows).length=rows.length
 | [],i=>rfl
 | r::rs,i=>by rw[hdrs,List.length_cons,qkb B sz rs,List.length_cons]
theorem qbZ(f:V->V):∀ (l:List (List V)) (j:Nat),(qr f l)[j]?=(l[j]?).map (zC f)
 | [],j=>by simp[qr]
 | v::r,0=>by simp[qr]
 | v::r,j+1=>by rw[qr,List.getElem?_cons_succ,qbZ f r j,List.getElem?_cons_succ]
theorem hdrs_ren{B sz:Nat}{rows:List Rw}{n a b:Nat}{r':Rw}(hn:n<rows.length)
  (hsame:∀ j r,rows[j]?=some r->j≠n->mapId (jy a b) (mapId (qy b) (qpi B sz j r))=qpi B sz j r)
  (hnew:∀ r,rows[n]?=some r->mapId (jy a b) (mapId (qy b) (qpi B sz n r))=qpi B sz n r') :
  qr (jy a b) (qr (qy b) (hdrs B sz 0 rows))=hdrs B sz 0 (rows.set n r'):=by
 apply List.ext_getElem?;intro j;rw[qbZ,qbZ,qeH,qeH,List.getElem?_set]
 by_cases hj:n=j
 ·subst hj
  rw[if_pos rfl,if_pos hn];obtain⟨r,hr⟩:∃ r,rows[n]?=some r:=⟨_,List.getElem?_eq_getElem hn⟩;rw[hr];simp only[Option.map_some,zC,Nat.zero_add];rw[hnew r hr]
 ·rw[if_neg hj]
  cases hr:rows[j]? with
  | none=>rfl
  | some r=>
   simp only[Option.map_some,zC,Nat.zero_add];rw[hsame j r hr (fun e=>hj e.symm)]
theorem hdr_low{B sz K:Nat}(hB:3000000<=B){a b i:Nat}(hab:(a=K/\b=B+i)\/(a=B+i/\b=K)){j:Nat}(hj:j≠i){r:Rw}(hr:∀ K' n,r = .foc K' n->K'<3000000/\K'≠K)(hK:K<3000000) :
  mapId (jy a b) (mapId (qy b) (qpi B sz j r))=qpi B sz j r:=by
 have key:∀ x,x≠a->x≠b -> ∀ sz o n,mapId (jy a b) (mapId (qy b) (.sl x sz o n)) = .sl x sz o n:=by
  intro x h1 h2 sz o n;have e1:mapId (qy b) (.sl x sz o n) = .sl x sz o n:=by
   rw[mapId,qy];simp only[qdq,qeo h2]
  rw[e1,mapId,jy];simp only[qeo h1]
 cases r with
 | at' l=>
  refine key _ ?_ ?_ _ _ _<;>rcases hab with⟨rfl,rfl⟩ | ⟨rfl,rfl⟩<;>omega
 | foc K' n=>
  obtain⟨h1,h2⟩:=hr K' n rfl;refine key _ ?_ ?_ _ _ _<;>rcases hab with⟨rfl,rfl⟩ | ⟨rfl,rfl⟩<;>omega
end Go.PX
namespace Go.PX
def qcJ(B sz:Nat)(rows:List Rw):Obj:=.arr 1 (.vv (hdrs B sz 0 rows))
structure FamAt(B sz O K:Nat)(rows:List Rw)(h:Heap):Prop where
 base:3000000<=B
 arr:get h O=some (qcJ B sz rows)
 tail:∀ k,B<=k->get h k=get (qN B sz 0 rows) k
 low:O<3000000
 foc:qic K rows
theorem qlw{B sz K a b i:Nat}{rows:List Rw}{r':Rw}(hB:3000000<=B)(hK:K<3000000)(hf:∀ j r,rows[j]?=some r->j≠i -> ∀ K' n,r = .foc K' n->K'<3000000/\K'≠K)(hab:(a=K/\b=B+i)\/(a=B+i/\b=K))(hi:i<rows.length)
  (hnew:∀ r,rows[i]?=some r->mapId (jy a b) (mapId (qy b) (qpi B sz i r))=qpi B sz i r') :
  qcJ B sz (rows.set i r')=Obj.mapId (jy a b) (Obj.mapId (qy b) (qcJ B sz rows)):=by
 show Obj.arr 1 (.vv (hdrs B sz 0 (rows.set i r')))=Obj.arr 1 (.vv (qr (jy a b) (qr (qy b) (hdrs B sz 0 rows))));rw[hdrs_ren hi (fun j r hr hj=>hdr_low hB hab hj (hf j r hr hj) hK) hnew]
theorem Wk.openF{σ:Type}{e:Env}{h:Heap}{s:σ}{B sz O:Nat}{rows:List Rw}(K i:Nat){l:List (List D)}(F:Heap)(hA:FamAt B sz O K rows h)(hK:K<1000000)(hOK:O≠K)(hi:rows[i]?=some (.at' l))
  (he:qpj (qkf K) e=true) (hF:qpk (qkf K) F=true) (hFs:qbn h F) :
  Wk (⟨e,h,s⟩:St σ) ⟨e,(O,qcJ B sz (rows.set i (.foc K l.length)))::(K,.arr sz (.dd l))::(F++qN B sz 0 (rows.set i (.foc K l.length))),s⟩:=by
 obtain⟨hB,hO,hT,hOl,hfo⟩:=hA;have hil:i<rows.length:=(List.getElem?_eq_some_iff.1 hi).1;have hrow:get h (B+i)=some (.arr sz (.dd l)):=by
  rw[hT _ (by omega),qbb,if_pos (by omega),show B+i-(B+0)=i by omega,hi]
 have hout:qcJ B sz (rows.set i (.foc K l.length))=Obj.mapId (jy (B+i) K) (Obj.mapId (qy K) (qcJ B sz rows)):=by
  refine qlw hB (by omega) (fun j r hr _ K' n e=>hfo K' n (by rw[<- e];exact List.mem_of_getElem? hr)) (.inr ⟨rfl,rfl⟩) hil fun r hr=>?_;rw[hi]at hr
  cases hr
  show mapId _ (mapId _ (.sl (B+i) sz 0 l.length)) = .sl K sz 0 l.length;have e1:mapId (qy K) (.sl (B+i) sz 0 l.length) = .sl (B+i) sz 0 l.length:=by
   rw[mapId,qy];simp only[qdq,qeo (show B+i≠K by omega)]
  rw[e1,mapId,jy];simp only[Nat.beq_refl]
 refine Wk.ren (K:=K) (B+i) K (by unfold pinned;omega) (by omega) (.inr (by omega)) (.inl rfl) he fun k v hv=>?_;rw[qF]at hv
 split at hv
 ·rename_i hk
  subst hk
  cases hv
  exact .inr ⟨hOK,by omega,_,hO,hout⟩
 ·rename_i hkO
  rw[qF]at hv
  split at hv
  ·rename_i hk
   subst hk
   cases hv
   exact .inl ⟨rfl,_,hrow,rfl⟩
  ·rename_i hkK
   rw[qdj]at hv
   cases hg:get F k with
   | some o=>
    rw[hg]at hv
    cases hv
    obtain⟨h1,h2⟩:=qfy hF hg;have h3:=qiZ h1;refine .inr ⟨hkK,by omega,v,jD hFs k v hg,?_⟩;rw[qbY (qfx (.inl rfl)) v h2,qbY (qjZ (.inr (by omega))) v h2]
   | none=>
    rw[hg]at hv;simp only at hv;rw[qbb]at hv
    split at hv
    ·rename_i hBk
     rw[List.getElem?_set]at hv
     by_cases hik:i=k-(B+0)
     ·rw[if_pos hik]at hv
      split at hv<;>simp_all
     ·rw[if_neg hik]at hv
      refine .inr ⟨hkK,by omega,v,?_,?_⟩
      ·rw[hT k (by omega),qbb,if_pos hBk];exact hv
      ·split at hv
       ·cases hv;rfl
       ·cases hv
    ·cases hv
theorem Wk.closeF{σ:Type}{e:Env}{h:Heap}{s:σ}{B sz O:Nat}{rows:List Rw}(K i:Nat){n:Nat}{l:List (List D)}(F:Heap)(hB:3000000<=B)(hO:get h O=some (qcJ B sz rows))(hT:∀ k,B<=k->get h k=get (qN B sz 0 rows) k)(hOl:O<3000000)
  (hfo:qic K (rows.set i (.at' l))) (hK:K<1000000) (hOK:O≠K) (hi:rows[i]?=some (.foc K n)) (hn:n=l.length) (hrow:get h K=some (.arr sz (.dd l)))
  (he:qpj (qkf K) e=true) (hF:qpk (qkf K) F=true) (hFs:qbn h F) :
  Wk (⟨e,h,s⟩:St σ) ⟨e,(O,qcJ B sz (rows.set i (.at' l)))::(F++qN B sz 0 (rows.set i (.at' l))),s⟩:=by
 have hil:i<rows.length:=(List.getElem?_eq_some_iff.1 hi).1;have hout:qcJ B sz (rows.set i (.at' l))=Obj.mapId (jy K (B+i)) (Obj.mapId (qy (B+i)) (qcJ B sz rows)):=by
  refine qlw hB (by omega) (fun j r hr hj K' m e=>hfo K' m ?_) (.inl ⟨rfl,rfl⟩) hil fun r hr=>?_
  ·rw[<- e]
   refine List.mem_of_getElem? (i:=j) ?_;rw[List.getElem?_set,if_neg (fun h=>hj h.symm)];exact hr
  rw[hi]at hr
  cases hr
  subst hn;show mapId _ (mapId _ (.sl K sz 0 l.length)) = .sl (B+i) sz 0 l.length;have e1:mapId (qy (B+i)) (.sl K sz 0 l.length) = .sl K sz 0 l.length:=by
   rw[mapId,qy];simp only[qdq,qeo (show K≠B+i by omega)]
  rw[e1,mapId,jy];simp only[Nat.beq_refl]
 refine Wk.ren (K:=K) K (B+i) (by unfold pinned;omega) (by omega) (.inl rfl) (.inr (by omega)) he fun k v hv=>?_;rw[qF]at hv
 split at hv
 ·rename_i hk
  subst hk
  cases hv
  exact .inr ⟨by omega,hOK,_,hO,hout⟩
 ·rename_i hkO
  rw[qdj]at hv
  cases hg:get F k with
  | some o=>
   rw[hg]at hv
   cases hv
   obtain⟨h1,h2⟩:=qfy hF hg;have h3:=qiZ h1;refine .inr ⟨by omega,h3.2,v,jD hFs k v hg,?_⟩;rw[qbY (qfx (K:=K) (.inr (by omega))) v h2,qbY (qjZ (.inl rfl)) v h2]
  | none=>
   rw[hg]at hv;simp only at hv;rw[qbb]at hv
   split at hv
   ·rename_i hBk
    rw[List.getElem?_set]at hv
    by_cases hik:i=k-(B+0)
    ·rw[if_pos hik,if_pos hil]at hv
     have hk:k=B+i:=by omega
     refine .inl ⟨hk,_,hrow,?_⟩
     cases hv;rfl
    ·rw[if_neg hik]at hv
     refine .inr ⟨by omega,by omega,v,?_,?_⟩
     ·rw[hT k (by omega),qbb,if_pos hBk];exact hv
     ·split at hv
      ·cases hv;rfl
      ·cases hv
   ·cases hv
end Go.PX
namespace Go.PX
theorem qkc:∀ {l:List Nat} {k:Nat},inL l k=true↔k∈l
 | [],k=>by simp[inL]
 | i::r,k=>by
  rw[inL]
  by_cases h:k=i
  ·subst h;simp
  ·rw[List.mem_cons,<- qkc (l:=r)]
   split
   ·rename_i h1
    have:=Nat.eq_of_beq_eq_true h1;omega
   ·simp[h]
theorem qhV:∀ {ids:List Nat} {t:Heap} {k:Nat},k∈ja (qL ids t)->k∈ids
 | ids,[],k,h=>by simp[qL,ja]at h
 | ids,(i,o)::r,k,h=>by
  rw[qL]at h
  split at h
  ·rename_i h1
   rw[ja]at h
   rcases List.mem_cons.1 h with rfl | h
   ·exact qkc.1 h1
   ·exact qhV h
  ·exact qhV h
theorem qd{B sz k i:Nat}{rows:List Rw}(f:V->V)(h:k<B):jO (Obj.mapId f) (cut (qN B sz i rows) k)=qN B sz i rows:=by rw[qg h,qh]
def qqC(B n:Nat):List Nat:=(List.range n).map fun i=>B+i
theorem qlx{B sz:Nat}{g:Nat->Option DO}:∀ (ls:List (List (List D))) (i:Nat),(∀ j l,ls[j]?=some l->g (B+(i+j))=some (.arr sz l))->qau g (hdrs B sz i (ls.map Rw.at'))=some (ls.map fun l=>[.vs l])
 | [],i,_=>rfl
 | l::ls,i,h=>by
  have h0:jP g (.sl (B+i) sz 0 l.length)=some (.vs l):=by
   have h1:=h 0 l rfl;rw[Nat.add_zero]at h1;have h2:Nat.beq sz sz=true:=Nat.beq_refl sz;have h3:Nat.ble (0+l.length) l.length=true:=Nat.ble_eq_true_of_le (by omega);simp only[jP,h1,h2,h3,List.drop_zero,List.take_length]
  have h1:zZ g [V.sl (B+i) sz 0 l.length]=some [.vs l]:=by rw[zZ,h0];rfl
  have ih:=qlx ls (i+1) fun j m hm=>by
   have:=h (j+1) m (by simpa using hm);rw[show i+(j+1)=i+1+j by omega]at this;exact this
  rw[List.map_cons,hdrs,qau];show(match zZ g [V.sl (B+i) sz 0 l.length],qau g (hdrs B sz (i+1) (ls.map Rw.at')) with | some a,some b=>some (a::b) | _,_=>none)=_;rw[h1,ih];rfl
theorem Wk.frzF{σ:Type}{e:Env}{h:Heap}{s:σ}{B sz O:Nat}{ls:List (List (List D))}(F:Heap)(hA:FamAt B sz O 0 (ls.map Rw.at') h)(hF:qpk (qkf O) F=true)(hFs:qbn h F) :
  Wk (⟨e,h,s⟩:St σ) ⟨e,(O,.arr 1 (.dd (ls.map fun l=>[.vs l])))::F,s⟩:=by
 obtain⟨hB,hO,hT,hOl,_⟩:=hA;have hno:∀ k,k<3000000->k∉ja (qL (qqC B ls.length) h):=by
  intro k hk hm;have:=qhV hm;obtain⟨i,_,rfl⟩:=List.mem_map.1 this;omega
 have hk:get (qlA h (ja (qL (qqC B ls.length) h))) O=some (.arr 1 (.vv (hdrs B sz 0 (ls.map Rw.at')))):=by
  rw[qda,if_neg (hno O hOl)];exact hO
 have hv:qau (qco (qL (qqC B ls.length) h) 1) (hdrs B sz 0 (ls.map Rw.at'))=some (ls.map fun l=>[.vs l]):=by
  refine qlx ls 0 fun j l hl=>?_;have hj:j<ls.length:=(List.getElem?_eq_some_iff.1 hl).1;have hg:get (qL (qqC B ls.length) h) (B+(0+j))=some (.arr sz (.dd l)):=by
   have hin:inL (qqC B ls.length) (B+(0+j))=true:=qkc.2 (List.mem_map.2 ⟨j,List.mem_range.2 hj,by omega⟩);rw[qhp,if_pos hin,hT _ (by omega),qbb,if_pos (by omega),show B+(0+j)-(B+0)=j by omega,List.getElem?_map,hl];rfl
  rw[qco,hg]
 refine(Wk.frzArr 1 (qqC B ls.length) O hk hv).trans (Wk.subT (fun _ _ h=>h) fun k v hv=>?_);rw[jn];rw[qF]at hv
 split at hv
 ·rename_i e
  rw[if_pos e];exact hv
 ·rename_i e
  have h1:=(qfy hF hv).1;have h2:=qiZ h1;rw[if_neg e,qda,if_neg (hno k h2.1)];exact jD hFs k v hv
theorem Wk.bornF{σ:Type}{e:Env}{h:Heap}{s:σ}{B sz:Nat}(hB:3000000<=B)(hs:0<sz)(he:qpj (qkf 0) e=true)(hH:qpk (qkf 0) h=true):∀ (m i:Nat),Wk (⟨e,h,s⟩:St σ) ⟨e,h++qN B sz i (List.replicate m (.at' [])),s⟩
 | 0,i=>Wk.subT (fun _ _ h=>h) (by rw[List.replicate_zero,qN,List.append_nil];exact fun _ _ h=>h)
 | m+1,i=>by
  refine(Wk.bornF hB hs he hH m (i+1)).trans ?_;have h1:Wk (⟨e,h++qN B sz (i+1) (List.replicate m (.at' [])),s⟩:St σ) ⟨jO (mapId (qy (B+i))) e,(B+i,.arr sz (.dd []))::jO (Obj.mapId (qy (B+i))) (cut (h++qN B sz (i+1) (List.replicate m (.at' []))) (B+i)),s⟩:=by
   intro cx r mm L F a w hg;exact⟨_,F,hg.newEmpty (B+i) sz (by unfold pinned;omega) hs (.dd []) rfl,Tr.refl F w⟩
  refine h1.trans (Wk.subT ?_ ?_)
  ·intro k v hv
   rw[qP,hv];simp only[Option.map_some];rw[qcI (qfx (K:=0) (.inr (by omega))) v (qka he hv)]
  ·intro k v hv
   rw[List.replicate_succ,qN,qdj]at hv;rw[qF]
   cases hg:get h k with
   | some o=>
    rw[hg]at hv
    cases hv
    obtain⟨k1,k2⟩:=qfy hH hg;have k3:=qiZ k1;rw[if_neg (by omega),qP,zV,if_neg (by omega),qdj,hg];simp only[Option.map_some];rw[qbY (qfx (K:=0) (.inr (by omega))) v k2]
   | none=>
    rw[hg]at hv;simp only at hv;rw[qF]at hv
    split at hv
    ·rename_i e1
     rw[if_pos e1];exact hv
    ·rename_i e1
     rw[if_neg e1,qP,zV,if_neg e1,qdj,hg];simp only;rw[hv];rw[qbb]at hv
     split at hv
     ·split at hv
      ·cases hv;rfl
      ·cases hv
     ·cases hv
theorem qja{yv:Option Nat}{L:Loc}{F:Nat->Nat}{w:World}{B sz:Nat}(hs:0<sz):∀ (n i:Nat) (vals:List Value),RepVL yv L F w (zd (List.replicate n [D.nils])).flatten vals->RepVL yv L F w (hdrs B sz i (List.replicate n (.at' []))).flatten vals
 | 0,i,vals,h=>h
 | n+1,i,vals,h=>by
  obtain⟨x,l',rfl,hx,hl⟩:=h;have hx:x = .slice none 0 0:=hx;subst hx;exact⟨_,l',rfl,⟨none,0,rfl,Nat.le_refl _,hs,.inl ⟨rfl,rfl⟩⟩,qja hs n (i+1) l' hl⟩
theorem Wk.makeF{σ:Type}{e:Env}{s:σ}{B sz O n:Nat}{F:Heap}(hB:3000000<=B)(hs:0<sz)(he:qpj (qkf 0) e=true)(hH:qpk (qkf 0) ((O,.arr 1 (.dd (List.replicate n [D.nils])))::F)=true) :
  Wk (⟨e,(O,.arr 1 (.dd (List.replicate n [D.nils])))::F,s⟩:St σ) ⟨e,(O,qcJ B sz (List.replicate n (.at' [])))::(F++qN B sz 0 (List.replicate n (.at' []))),s⟩:=by
 refine(Wk.bornF hB hs he hH n 0).trans ((Wk.reobj O (o:=.arr 1 (.dd (List.replicate n [D.nils]))) (qcJ B sz (List.replicate n (.at' []))) (by rw[List.cons_append,qF,if_pos rfl]) (fun yv L F w h=>?_) fun L hb=>hb).trans (Wk.subT (fun _ _ h=>h) fun k v hv=>?_))
 ·obtain⟨c1,c2,c3⟩:=h
  have hl1:∀ m:Nat,(zd (List.replicate m [D.nils])).length=m:=by
   intro m
   induction m with
   | zero=>rfl
   | succ m ih=>rw[List.replicate_succ,zd,List.length_cons,ih]
  have hl2:(hdrs B sz 0 (List.replicate n (Rw.at' []))).length=n:=by rw[qkb,List.length_replicate]
  have c3:(zd (List.replicate n [D.nils]) = []/\L.κ O=0) \/ ∃ (c:Array Value) (T:TypeId),w.heap[L.ρ O]?=some (.cells c T (0,0))/\c.size=L.κ O/\(zd (List.replicate n [D.nils])).length*1<=c.size/\RepVL yv L F w (zd (List.replicate n [D.nils])).flatten (c.toList.take ((zd (List.replicate n [D.nils])).length*1)):=c3;refine⟨c1,fun x hx=>?_,?_⟩
  ·have hx:x∈hdrs B sz 0 (List.replicate n (Rw.at' [])):=hx
   obtain⟨j,hj⟩:=List.getElem?_of_mem hx;rw[qeH]at hj
   cases hr:(List.replicate n (Rw.at' []))[j]? with
   | none=>rw[hr]at hj;cases hj
   | some r=>rw[hr]at hj;cases hj;rfl
  ·show(hdrs B sz 0 (List.replicate n (Rw.at' [])) = []/\L.κ O=0) \/ ∃ (c:Array Value) (T:TypeId),w.heap[L.ρ O]?=some (.cells c T (0,0))/\c.size=L.κ O/\(hdrs B sz 0 (List.replicate n (Rw.at' []))).length*1<=c.size/\RepVL yv L F w (hdrs B sz 0 (List.replicate n (Rw.at' []))).flatten (c.toList.take ((hdrs B sz 0 (List.replicate n (Rw.at' []))).length*1))
   rw[hl1]at c3;rw[hl2]
   rcases c3 with⟨h1,h2⟩ | ⟨c,T,h1,h2,h3,h4⟩
   ·refine .inl ⟨?_,h2⟩
    have:=congrArg List.length h1;rw[hl1]at this;have hn:n=0:=this;subst hn;rfl
   ·exact .inr ⟨c,T,h1,h2,h3,qja hs n 0 _ h4⟩
 ·rw[jn]
  rw[qF]at hv
  split at hv
  ·rename_i e1;rw[if_pos e1];exact hv
  ·rename_i e1
   rw[if_neg e1,List.cons_append,qF,if_neg e1];exact hv
end Go.PX
