import Derived.Test.YtgpmlbbkfmkmkaaGreatDoorPxK
import Derived.Test.YtgpmlbbkfmkmkaaGreatDoorPxI
import Derived.Test.YtgpmlbbkfmkmkaaGreatDoorPxJ
import Derived.Shelf.Strings.Builder1
import Derived.Shelf.Strconv.Itoa3
import Derived.Shelf.Strconv.AtoiAll
import Derived.Shelf.Strings.Split
import Derived.Shelf.Strings.Cut
import Derived.Lib.ItoaNum
set_option linter.all false
set_option maxRecDepth 10000
namespace Go.PX
open Go.Proofs
def qX(x:PEnt):D:=if x.kind=1 then .ifc 138 (.agg [.str x.word]) else if x.kind=2 then .ifc 175 (.agg []) else if x.kind=3 then .ifc 156 (.agg [.str x.word,i64 x.number]) else .nili
theorem qnf(x:PEnt):FnV Tryz.prog 83 [x.d] (qX x):=by
 refine qC mixed qi Tryz.func83 rfl (ft:=ft83) 1 (by decide +kernel) (by rfl) fun {σ} Y st=>?_;conv=>whnf
 unfold qX;refine qg (fun h1=>?_) (fun h1=>?_)
 ·rw[if_pos (of_decide_eq_true h1)]
  conv=>whnf
  exact qb 0 rfl ⟨⟨rfl,rfl⟩,rfl⟩
 ·rw[if_neg (of_decide_eq_false h1)]
  conv=>whnf
  refine qg (fun h2=>?_) (fun h2=>?_)
  ·rw[if_pos (of_decide_eq_true h2)]
   conv=>whnf
   exact qb 0 rfl ⟨⟨rfl,rfl⟩,rfl⟩
  ·rw[if_neg (of_decide_eq_false h2)]
   conv=>whnf
   refine qg (fun h3=>?_) (fun h3=>?_)
   ·rw[if_pos (of_decide_eq_true h3)]
    conv=>whnf
    exact qb 0 rfl ⟨⟨rfl,rfl⟩,rfl⟩
   ·rw[if_neg (of_decide_eq_false h3)]
    conv=>whnf
    exact qb 0 rfl ⟨⟨rfl,rfl⟩,rfl⟩
def qbT(n lo hi:Int):Bool:=!inB n lo hi
theorem qku(lo hi n:Int):FnV Tryz.prog 59 [i64 lo,i64 hi,.vs [[i64 n]]] (.bool (qbT n lo hi)):=FnV.cast (fn51_1 lo hi n) rfl
def qjZ(x:PEnt):Int:=
 if qbT x.shown 0 20000 then 7
 else if x.kind=1 then (if qah x.word&&decide (x.number=0) then 0 else 6)
 else if x.kind=2 then (if decide (x.word = .empty)&&decide (x.number=0) then 0 else 6)
 else if x.kind=3 then (if qah x.word && !qbT x.number 1 99 then 0 else 6)
 else 4
theorem pa63(x:PEnt):FnV Tryz.prog 63 [x.d] (i64 (qjZ x)):=by
 refine qC mixed qi Tryz.func63 rfl (ft:=ft63) 1 (by decide +kernel) (by rfl) fun {σ} Y st=>?_;conv=>whnf
 refine qo (qku 0 20000 x.shown) rfl 1 rfl ?_;unfold qjZ
 cases h0:qbT x.shown 0 20000 with
 | true=>
  conv=>whnf
  exact qb 0 rfl ⟨⟨rfl,rfl⟩,rfl⟩
 | false=>
  conv=>whnf
  refine qe (qnf x) rfl rfl ?_;conv=>whnf
  have hw0:(x.word=(⟨#[]⟩:ByteArray))↔x.word = .empty:=Iff.rfl
  by_cases h1:x.kind=1
  ·have ht:qX x = .ifc 138 (.agg [.str x.word]):=by unfold qX;rw[if_pos h1]
   rw[ht,if_pos h1];conv=>whnf
   refine qe (qpB x.word) rfl rfl ?_;conv=>whnf
   cases hn:qah x.word with
   | false=>
    conv=>whnf
    exact qb 0 rfl ⟨⟨rfl,rfl⟩,rfl⟩
   | true=>
    conv=>whnf
    generalize decide (x.number=0)=B
    cases B with
    | false=>
     conv=>whnf
     exact qb 0 rfl ⟨⟨rfl,rfl⟩,rfl⟩
    | true=>
     conv=>whnf
     exact qb 0 rfl ⟨⟨rfl,rfl⟩,rfl⟩
  ·rw[if_neg h1]
   by_cases h2:x.kind=2
   ·have ht:qX x = .ifc 175 (.agg []):=by unfold qX;rw[if_neg h1,if_pos h2]
    rw[ht,if_pos h2];conv=>whnf
    have hw1:decide (x.word = .empty)=decide (x.word=(⟨#[]⟩:ByteArray)):=rfl;rw[hw1];generalize decide (x.word=(⟨#[]⟩:ByteArray))=A
    cases A with
    | false=>
     conv=>whnf
     exact qb 0 rfl ⟨⟨rfl,rfl⟩,rfl⟩
    | true=>
     conv=>whnf
     generalize decide (x.number=0)=B
     cases B with
     | false=>
      conv=>whnf
      exact qb 0 rfl ⟨⟨rfl,rfl⟩,rfl⟩
     | true=>
      conv=>whnf
      exact qb 0 rfl ⟨⟨rfl,rfl⟩,rfl⟩
   ·rw[if_neg h2]
    by_cases h3:x.kind=3
    ·have ht:qX x = .ifc 156 (.agg [.str x.word,i64 x.number]):=by unfold qX;rw[if_neg h1,if_neg h2,if_pos h3]
     rw[ht,if_pos h3];conv=>whnf
     refine qe (qpB x.word) rfl rfl ?_;conv=>whnf
     cases hn:qah x.word with
     | false=>
      conv=>whnf
      exact qb 0 rfl ⟨⟨rfl,rfl⟩,rfl⟩
     | true=>
      conv=>whnf
      refine qo (qku 1 99 x.number) rfl 1 rfl ?_
      cases h4:qbT x.number 1 99 with
      | false=>
       conv=>whnf
       exact qb 0 rfl ⟨⟨rfl,rfl⟩,rfl⟩
      | true=>
       conv=>whnf
       exact qb 0 rfl ⟨⟨rfl,rfl⟩,rfl⟩
    ·have ht:qX x = .nili:=by unfold qX;rw[if_neg h1,if_neg h2,if_neg h3]
     rw[ht,if_neg h3];conv=>whnf
     exact qb 0 rfl ⟨⟨rfl,rfl⟩,rfl⟩
theorem pa62(y x:PBook):FnV Tryz.prog 62 [.agg y.cells,.ref x.cells] (.bool (decide (y.name=x.name))):=by
 refine qC mixed qi Tryz.func62 rfl (ft:=ft62) 2 (by decide +kernel) (by rfl) fun {σ} Y st=>?_;conv=>whnf
 exact qb 0 rfl ⟨⟨rfl,rfl⟩,rfl⟩
theorem pa108(l:List PBook)(g:FuncId)(caps:List D)(p:PBook->Bool)(hl:l.length<4000000000000000000)(hp:∀ x∈l,FnV Tryz.prog g (.agg x.cells::caps) (.bool (p x))) :
  FnV Tryz.prog 108 [qF l,.clo g caps] (i64 (zU p l 0)):=by
 refine qC mixed qi Tryz.func108 rfl (ft:=ft108) 2 (by decide +kernel) (by rfl) fun {σ} Y st=>?_;conv=>whnf
 refine zc (T:=tys) qi (by exact qd mixed qi (by decide +kernel)) l (fun i (_:Unit)=>⟨[(0,.d (qF l)),(1,.d (.clo g caps)),(7,.d (i64 l.length)),(8,.d (i64 i))],[],st⟩) (fun i r _=>zU p l 0=zU p r i) () (Wk.sub (by repeat' first|exact trivial|refine⟨?_,?_⟩|rfl|(simp only[List.length_map];rfl)|simp[PX.get]) trivial) rfl ?_ ?_
 ·intro i x r _ hx hi hr he
  rw[zU]at he;conv=>whnf
  refine qg (fun _=>?_) (fun h=>absurd hi (by simpa using h));conv=>whnf
  refine qr hx ?_;conv=>whnf
  refine qe (hp x (List.mem_of_getElem? hx)) rfl rfl ?_;conv=>whnf
  refine qg (fun h1=>?_) (fun h1=>?_)
  ·conv=>whnf
   rw[he,if_pos h1];exact qb 0 rfl ⟨⟨rfl,rfl⟩,rfl⟩
  ·rw[if_neg (by simp[h1])]at he
   conv=>whnf
   refine qc (qa (by(try dsimp only);omega)) ?_;conv=>whnf
   exact⟨(),he,(Wk.sub (by repeat' first|exact trivial|refine⟨?_,?_⟩|rfl|(simp only[List.length_map];rfl)|simp[PX.get]) trivial)⟩
 ·intro _ he
  conv=>whnf
  refine qg (fun h=>absurd h (by simp)) (fun _=>?_);conv=>whnf
  rw[he];exact qb 0 rfl ⟨⟨rfl,rfl⟩,rfl⟩
theorem pa61(l:List PBook)(g:FuncId)(caps:List D)(p:PBook->Bool)(hl:l.length<4000000000000000000)(hp:∀ x∈l,FnV Tryz.prog g (.agg x.cells::caps) (.bool (p x))) :
  FnV Tryz.prog 61 [qF l,.clo g caps] (.bool (l.any p)):=by
 refine qC mixed qi Tryz.func61 rfl (ft:=ft61) 2 (by decide +kernel) (by rfl) fun {σ} Y st=>?_;conv=>whnf
 refine qe (pa108 l g caps p hl hp) rfl rfl ?_;conv=>whnf
 refine qb 0 rfl ⟨⟨?_,rfl⟩,rfl⟩;rw[<- qbn p l 0 (by omega)];rfl
def qgH(pre:List PBook)(b:PBook):Int:=
 if qah b.name then
  if pre.any (fun x=>decide (x.name=b.name)) then 5
  else if qbT b.off.lo (-720) 720||qbT b.off.hi (-720) 720||qbT b.set.lo (-720) 720||qbT b.set.hi (-720) 720 then 7
  else if decide (b.off.lo>b.off.hi)||decide (b.set.lo>b.set.hi) then 2
  else if b.ents.length>8 then 3 else 0
 else 6
def qdk:List PEnt->Nat->Int×Int
 | [],_=>(0,0)
 | y::r,k=>if qjZ y=0 then qdk r (k+1) else (k,qjZ y)
def qaR:List PBook->List PBook->Nat->Int×Int×Int
 | _,[],_=>(0,0,0)
 | pre,b::r,i=>if qgH pre b=0 then (if (qdk b.ents 0).2=0 then qaR (pre ++ [b]) r (i+1) else ((i+1:Nat),(qdk b.ents 0).1,(qdk b.ents 0).2)) else ((i+1:Nat),0,qgH pre b)
def qaj(l:PLog):Int×Int×Int:=
 if qbT l.near 0 60 then (0,0,7) else if qbT l.books.length 1 3 then (0,0,3) else qaR [] l.books 0
def qpR(x:Int×Int×Int):D:=.tup [i64 x.1,i64 x.2.1,i64 x.2.2]
theorem out_4(lo hi a b c d:Int):FnV Tryz.prog 59 [i64 lo,i64 hi,.vs [[i64 a],[i64 b],[i64 c],[i64 d]]] (.bool (qbT a lo hi||qbT b lo hi||qbT c lo hi||qbT d lo hi)):=FnV.cast (qpQ lo hi [a,b,c,d] (by simp)) (by simp[qbT,inB,Bool.or_assoc,Int.not_le];grind)
theorem pa17(l:PLog):FnV Tryz.prog 17 [l.d] (qpR (qaj l)):=by
 refine qC mixed qi Tryz.func17 rfl (ft:=ft17) 1 (by decide +kernel) (by rfl) fun {σ} Y st=>?_;conv=>whnf
 unfold qaj;refine qo (qku 0 60 _) rfl 1 rfl ?_
 cases h0:qbT l.near 0 60 with
 | true=>
  conv=>whnf
  exact qb 0 rfl ⟨⟨rfl,rfl⟩,rfl⟩
 | false=>
  conv=>whnf
  refine qo (qku 1 3 l.books.length) rfl 1 (by
   show some _=some _;simp[qF]) ?_
  conv=>whnf
  cases h1:qbT l.books.length 1 3 with
  | true=>
   conv=>whnf
   exact qb 0 rfl ⟨⟨rfl,rfl⟩,rfl⟩
  | false=>
   have hlen:l.books.length<=3:=by
    have h1:=h1;unfold qbT inB at h1;simp at h1;omega
   simp only[if_false,Bool.false_eq_true];conv=>whnf
   generalize hK:qaR [] l.books 0=K;refine zc (T:=tys) qi (by exact qd mixed qi (by decide +kernel)) l.books (fun i (_:Unit)=>⟨[(1,.ptr 1 0),(21,.d (qF l.books)),(22,.d (i64 l.books.length)),(23,.d (i64 i))],[(1,.box (.dd l.cells))],st⟩)
    (fun i r _=>qaR (l.books.take i) r i=K) () (Wk.sub (by repeat' first|exact trivial|refine⟨?_,?_⟩|rfl|(simp only[List.length_map];rfl)|simp[PX.get]) ⟨(by first | rfl | (simp only[List.length_map];rfl) | simp[PX.get]),trivial⟩) hK ?_ ?_
   ·rintro i b r _ hx hi hr he
    rw[qaR]at he;have htk:l.books.take (i+1)=l.books.take i ++ [b]:=by rw[List.take_succ,hx];rfl
    conv=>whnf
    refine qg (fun _=>?_) (fun h=>absurd hi (by simpa using h));conv=>whnf
    refine qr hx ?_;conv=>whnf
    refine qe (qpB b.name) rfl rfl ?_;unfold qgH at he
    cases h2:qah b.name with
    | false=>
     rw[h2]at he;simp only[if_false,Bool.false_eq_true]at he;conv=>whnf
     refine qc (qa (by(try dsimp only);omega)) ?_;conv=>whnf
     rw[<- he];exact qb 0 rfl ⟨⟨rfl,rfl⟩,rfl⟩
    | true=>
     rw[h2]at he;simp only[if_true]at he;conv=>whnf
     refine zo (by simp;omega) ?_;conv=>whnf
     refine zo (by cases l.books<;>rfl) ?_;conv=>whnf
     refine qo (ds:=[qF (l.books.take i),.clo 62 [.ref b.cells]]) (pa61 (l.books.take i) 62 [.ref b.cells] (fun y=>decide (y.name=b.name)) (by simp;omega) fun y _=>pa62 y b) rfl 1 (by show some _=some _;simp[qF,List.map_take];rfl) ?_;generalize hany:((l.books.take i).any fun y=>decide (y.name=b.name))=A at he ⊢
     cases A with
     | true=>
      simp only[if_true]at he;conv=>whnf
      refine qc (qa (by(try dsimp only);omega)) ?_;conv=>whnf
      rw[<- he];exact qb 0 rfl ⟨⟨rfl,rfl⟩,rfl⟩
     | false=>
      simp only[if_false,Bool.false_eq_true]at he;conv=>whnf
      refine qo (out_4 (-720) 720 b.off.lo b.off.hi b.set.lo b.set.hi) rfl 1 rfl ?_;generalize (qbT b.off.lo (-720) 720||qbT b.off.hi (-720) 720||qbT b.set.lo (-720) 720||qbT b.set.hi (-720) 720)=A at he ⊢
      cases A with
      | true=>
       simp only[if_true]at he;conv=>whnf
       refine qc (qa (by(try dsimp only);omega)) ?_;conv=>whnf
       rw[<- he];exact qb 0 rfl ⟨⟨rfl,rfl⟩,rfl⟩
      | false=>
       simp only[if_false,Bool.false_eq_true]at he;conv=>whnf
       have e1:decide (b.off.lo>b.off.hi)=decide (b.off.hi<b.off.lo):=rfl;have e2:decide (b.set.lo>b.set.hi)=decide (b.set.hi<b.set.lo):=rfl;rw[e1,e2]at he;generalize decide (b.off.hi<b.off.lo)=A at he ⊢
       cases A with
       | true=>
        simp only[Bool.true_or,if_true]at he;conv=>whnf
        refine qc (qa (by(try dsimp only);omega)) ?_;conv=>whnf
        rw[<- he];exact qb 0 rfl ⟨⟨rfl,rfl⟩,rfl⟩
       | false=>
        simp only[Bool.false_or]at he;conv=>whnf
        generalize decide (b.set.hi<b.set.lo)=B at he ⊢
        cases B with
        | true=>
         simp only[if_true]at he;conv=>whnf
         refine qc (qa (by(try dsimp only);omega)) ?_;conv=>whnf
         rw[<- he];exact qb 0 rfl ⟨⟨rfl,rfl⟩,rfl⟩
        | false=>
         simp only[if_false,Bool.false_eq_true]at he;conv=>whnf
         refine qg (fun h3=>?_) (fun h3=>?_)
         ·have h3:b.ents.length>8:=by have:=of_decide_eq_true h3;simp at this;omega
          rw[if_pos h3]at he;conv=>whnf
          refine qc (qa (by(try dsimp only);omega)) ?_;conv=>whnf
          rw[<- he];exact qb 0 rfl ⟨⟨rfl,rfl⟩,rfl⟩
         ·have h3:¬ b.ents.length>8:=by have:=of_decide_eq_false h3;simp at this;omega
          rw[if_neg h3,if_pos rfl]at he;conv=>whnf
          generalize hE:qdk b.ents 0=E at he;refine zc (T:=tys) qi (by exact qd mixed qi (by decide +kernel)) b.ents (fun k (_:Unit)=>⟨[(1,.ptr 1 0),(21,.d (qF l.books)),(22,.d (i64 l.books.length)),(23,.d (i64 i)),(5,.d (i64 i)),(88,.d (qdF b.ents)),(89,.d (i64 b.ents.length)),(90,.d (i64 k))],[(1,.box (.dd l.cells))],st⟩)
           (fun k r _=>qdk r k=E) () (Wk.sub (by repeat' first|exact trivial|refine⟨?_,?_⟩|rfl|(simp only[List.length_map];rfl)|simp[PX.get]) ⟨(by first | rfl | (simp only[List.length_map];rfl) | simp[PX.get]),trivial⟩) hE ?_ ?_
          ·rintro k y r2 _ hy hk hr2 he2
           rw[qdk]at he2;conv=>whnf
           refine qg (fun _=>?_) (fun h=>absurd hk (by simpa using h));conv=>whnf
           refine qr hy ?_;conv=>whnf
           refine qe (pa63 y) rfl rfl ?_;conv=>whnf
           refine qg (fun h4=>?_) (fun h4=>?_)
           ·have h4:¬ qjZ y=0:=by simpa using h4
            rw[if_neg h4]at he2;subst he2;rw[if_neg h4]at he;conv=>whnf
            refine qc (qa (by(try dsimp only);omega)) ?_;conv=>whnf
            rw[<- he];exact qb 0 rfl ⟨⟨rfl,rfl⟩,rfl⟩
           ·have h4:qjZ y=0:=by simpa using h4
            rw[if_pos h4]at he2;conv=>whnf
            refine qc (qa (by(try dsimp only);omega)) ?_;conv=>whnf
            exact⟨(),he2,(Wk.sub (by repeat' first|exact trivial|refine⟨?_,?_⟩|rfl|(simp only[List.length_map];rfl)|simp[PX.get]) ⟨(by first | rfl | (simp only[List.length_map];rfl) | simp[PX.get]),trivial⟩)⟩
          ·rintro _ he2
           have he2:((0,0):Int×Int)=E:=he2;subst he2;rw[if_pos rfl,<- htk]at he;conv=>whnf
           refine qg (fun h=>absurd h (by simp)) (fun _=>?_);conv=>whnf
           refine qc (qa (by(try dsimp only);omega)) ?_;conv=>whnf
           exact⟨(),he,(Wk.sub (by repeat' first|exact trivial|refine⟨?_,?_⟩|rfl|(simp only[List.length_map];rfl)|simp[PX.get]) ⟨(by first | rfl | (simp only[List.length_map];rfl) | simp[PX.get]),trivial⟩)⟩
   ·rintro _ he
    rw[qaR]at he;subst he;conv=>whnf
    refine qg (fun h=>absurd h (by simp)) (fun _=>?_);conv=>whnf
    exact qb 0 rfl ⟨⟨rfl,rfl⟩,rfl⟩
end Go.PX
namespace Go.PX
open Go.Proofs
section
variable {κ ν : Type} [DecidableEq κ] (kd : κ -> D) (vd : ν -> D)
def kvV(m:List (κ×ν)):List (D×D):=m.map fun p=>(kd p.1,vd p.2)
variable {kd vd}
theorem ql(hs:∀ a b,qcx (kd a) (kd b)=some (decide (a=b))){t:κ}:∀ {m:List (κ×ν)},zg m t=none -> ∀ n,qcy (kd t) (kvV kd vd m) n=some none
 | [],_,n=>rfl
 | (u,x)::r,h,n=>by
  rw[zg]at h
  split at h
  ·cases h
  ·rename_i hu
   show(match qcx (kd t) (kd u) with
    | some true=>some (some (n,vd x))
    | some false=>qcy (kd t) (kvV kd vd r) (n+1)
    | none=>none)=_
   rw[hs,decide_eq_false hu];exact ql hs h (n+1)
theorem qt(hs:∀ a b,qcx (kd a) (kd b)=some (decide (a=b))){t:κ}{v:ν}:∀ {m:List (κ×ν)},zg m t=some v -> ∀ n,∃ i,i<m.length/\qcy (kd t) (kvV kd vd m) n=some (some (n+i,vd v))/\(∀ y,(kvV kd vd m).set i (kd t,vd y)=kvV kd vd (jf m t y))/\setKey (kvV kd vd m) i (kd t)=kvV kd vd m /\ ∀ y,setVal (kvV kd vd m) i (vd y)=kvV kd vd (jf m t y)
 | [],h,n=>by cases h
 | (u,x)::r,h,n=>by
  rw[zg]at h
  split at h
  ·rename_i hu
   cases h
   subst hu;refine⟨0,by simp,?_,fun y=>?_,rfl,fun y=>?_⟩
   ·show(match qcx (kd t) (kd t) with
     | some true=>some (some (n,vd v))
     | some false=>qcy (kd t) (kvV kd vd r) (n+1)
     | none=>none)=_
    rw[hs,decide_eq_true rfl];rfl
   ·rw[jf,if_pos rfl];rfl
   ·rw[jf,if_pos rfl];rfl
  ·rename_i hu
   obtain⟨i,h0,h1,h2,h3,h4⟩:=qt hs h (n+1);refine⟨i+1,by simp;omega,?_,fun y=>?_,?_,fun y=>?_⟩
   ·show(match qcx (kd t) (kd u) with
     | some true=>some (some (n,vd x))
     | some false=>qcy (kd t) (kvV kd vd r) (n+1)
     | none=>none)=_
    rw[hs,decide_eq_false hu];show qcy (kd t) (kvV kd vd r) (n+1)=_;rw[h1,show n+1+i=n+(i+1) by omega]
   ·rw[jf,if_neg hu]
    show(kd u,vd x)::(kvV kd vd r).set i (kd t,vd y)=(kd u,vd x)::kvV kd vd (jf r t y);rw[h2 y]
   ·show(kd u,vd x)::setKey (kvV kd vd r) i (kd t)=_
    rw[h3];rfl
   ·rw[jf,if_neg hu]
    show(kd u,vd x)::setVal (kvV kd vd r) i (vd y)=(kd u,vd x)::kvV kd vd (jf r t y);rw[h4 y]
theorem qR{t:κ}(y:ν):∀ {m:List (κ×ν)},zg m t=none->kvV kd vd m ++ [(kd t,vd y)]=kvV kd vd (jf m t y)
 | [],_=>rfl
 | (u,x)::r,h=>by
  rw[zg]at h
  split at h
  ·cases h
  ·rename_i hu
   rw[jf,if_neg hu];show(kd u,vd x)::(kvV kd vd r ++ [(kd t,vd y)])=_;rw[qR y h];rfl
end
def qw(n:Int):D:=i64 n
theorem zx(a b:Per):qcx a.d b.d=some (decide (a=b)):=by
 show some (decide (a.book=b.book)&&(decide (a.n=b.n)&&true))=_
 congr 1
 cases a;cases b
 simp
theorem qn(a b:Int):qcx (qw a) (qw b)=some (decide (a=b)):=rfl
def pmD(m:PM):List (D×D):=kvV Per.d qw m
def qls(l:List zm):D:=.vs (l.map qoK)
def persD(l:List (List Per)):D:=.vs (l.map fun r=>[.vs (r.map Per.cells)])
def lookC(l:PLog)(x:LkS):List D:=[i64 l.near,qF l.books,qls x.steps,persD x.pers,i64 x.many]
def jB(l:PLog)(x:LkS):D:=.ref (lookC l x)
end Go.PX
namespace Go.PX
open Go.Proofs
theorem qnq:FnV Tryz.prog 70 [] Per.right.d:=by
 refine qC mixed qi Tryz.func70 rfl (ft:=ft70) 0 (by decide +kernel) (by rfl) fun {σ} Y st=>?_;conv=>whnf
 exact qb 0 rfl ⟨⟨rfl,rfl⟩,rfl⟩
structure LookR(x:LkS):Prop where
 len:x.steps.length<=78
 w:∀ e∈x.steps,-1100000<=e.w/\e.w<=1100000
 many:0<=x.many/\x.many<=30
theorem qpf(l:PLog)(x:LkS)(hR:LookR x)(p:Per):FnV Tryz.prog 69 [jB l x,p.d] (.tup [if qln x (qdI x p)=true then .mv (pmD (qdI x p)) else .nilm,.bool (qln x (qdI x p))]):=by
 refine qC mixed qi Tryz.func69 rfl (ft:=ft69) 2 (by decide +kernel) (by rfl) fun {σ} Y st=>?_;conv=>whnf
 have hlen:=hR.len;have hmany:=hR.many;have hst:x.steps.length<4000000000000000000:=by omega
 refine⟨none,rfl,?_⟩;conv=>whnf
 refine qh (((x.many+2).toNat:Nat):Int) (by omega) (qa (by omega)) ?_;conv=>whnf
 unfold qdI;have hK:(x.many+2).toNat<=32:=by omega
 generalize (x.many+2).toNat=N at hK ⊢;generalize hRES:qbo x.steps N [(p,0)]=RES;refine zt (T:=tys) qi (by exact qd mixed qi (by decide +kernel)) (α:=Nat×PM) (fun z=>⟨[(0,.d (jB l x)),(6,.mp 16),(23,.d (i64 N)),(24,.d (i64 z.1))],[(16,.map (pmD z.2))],st⟩)
  (fun z=>z.1<=N/\qkt z.2 (100000000*z.1)/\qbo x.steps (N-z.1) z.2=RES) (fun z=>N-z.1) (0,[(p,0)]) (Wk.sub (by repeat' first|exact trivial|refine⟨?_,?_⟩|rfl|(simp only[List.length_map];rfl)|simp[PX.get]) ⟨(by first | rfl | (simp only[List.length_map];rfl) | simp[PX.get]),trivial⟩) ⟨Nat.zero_le _,?_,by simpa using hRES⟩ ?_
 ·intro q v hv
  simp only at hv;rw[zg]at hv
  split at hv
  ·cases hv;simp
  ·cases hv
 rintro ⟨i,m⟩ ⟨hi,hb,hr⟩;simp only at hi hb hr;conv=>whnf
 refine qg (fun h1=>?_) (fun h1=>?_)
 ·have h1:i<N:=by have:=of_decide_eq_true h1;simp only at this;omega
  obtain⟨f,hf⟩:∃ f,N-i=f+1:=⟨N-i-1,by omega⟩;rw[hf,qbo]at hr;generalize hRM:qgD x.steps m=RM at hr;conv=>whnf
  refine zc (T:=tys) qi (by exact qd mixed qi (by decide +kernel)) x.steps (fun k (y:PM×Bool)=>⟨[(0,.d (jB l x)),(6,.mp 16),(7,.d (.bool y.2)),(23,.d (i64 N)),(24,.d (i64 i)),(29,.d (qls x.steps)),(30,.d (i64 x.steps.length)),(31,.d (i64 k))],[(16,.map (pmD y.1))],st⟩)
   (fun k r y=>r.foldl qeP y=RM/\qkt y.1 (100000000*i+1100000*k)) (m,false) (Wk.sub (by repeat' first|exact trivial|refine⟨?_,?_⟩|rfl|(simp only[List.length_map];rfl)|simp[PX.get]) ⟨(by first | rfl | (simp only[List.length_map];rfl) | simp[PX.get]),trivial⟩) ⟨hRM,by simpa using hb⟩ ?_ ?_
  ·rintro k s r ⟨m1,ch⟩ hs hk hr2 ⟨hfold,hbm⟩
   have hsw:=hR.w s (List.mem_of_getElem? hs);have hb2:=qmQ (m:=(m1,ch)) hbm hsw;rw[List.foldl_cons]at hfold;conv=>whnf
   refine qg (fun _=>?_) (fun h=>absurd hk (by simpa using h));conv=>whnf
   refine qr hs ?_;conv=>whnf
   cases h2:zg m1 s.a with
   | none=>
    have ht:qeP (m1,ch) s=(m1,ch):=by unfold qeP;simp only[h2]
    rw[ht]at hfold hb2;refine⟨none,ql (kd:=Per.d) zx h2 0,?_⟩;conv=>whnf
    refine qc (qa (by(try dsimp only);omega)) ?_;conv=>whnf
    exact⟨(m1,ch),⟨hfold,fun q v hv=>by have:=hb2 q v hv;omega⟩,(Wk.sub (by repeat' first|exact trivial|refine⟨?_,?_⟩|rfl|(simp only[List.length_map];rfl)|simp[PX.get]) ⟨(by first | rfl | (simp only[List.length_map];rfl) | simp[PX.get]),trivial⟩)⟩
   | some n=>
    have hn:=hbm s.a n h2;obtain⟨ix,_,hx1,_⟩:=qt (kd:=Per.d) (vd:=qw) zx h2 0;refine⟨_,hx1,?_⟩;conv=>whnf
    cases h3:zg m1 s.b with
    | none=>
     have ht:qeP (m1,ch) s=(jf m1 s.b (n+s.w),true):=by unfold qeP;simp only[h2,h3]
     refine⟨none,ql (kd:=Per.d) zx h3 0,?_⟩;conv=>whnf
     refine qc (qa (by(try dsimp only);omega)) ?_;conv=>whnf
     refine⟨none,ql (kd:=Per.d) zx h3 0,?_⟩;rw[ht]at hfold hb2;conv=>whnf
     refine qc (qa (by(try dsimp only);omega)) ?_;conv=>whnf
     refine⟨(jf m1 s.b (n+s.w),true),⟨hfold,fun q v hv=>by have:=hb2 q v hv;omega⟩,Wk.sub ⟨rfl,rfl,rfl,rfl,rfl,rfl,rfl,rfl,trivial⟩ ⟨?_,trivial⟩⟩;exact congrArg (fun z=>some (Obj.map z)) (qR (kd:=Per.d) (vd:=qw) (n+s.w) h3)
    | some v2=>
     obtain⟨iy,_,hy1,hy2,_⟩:=qt (kd:=Per.d) (vd:=qw) zx h3 0;refine⟨_,hy1,?_⟩;conv=>whnf
     refine qc (qa (by(try dsimp only);omega)) ?_;conv=>whnf
     refine qg (fun h4=>?_) (fun h4=>?_)
     ·have h4:n+s.w<v2:=of_decide_eq_true h4
      have ht:qeP (m1,ch) s=(jf m1 s.b (n+s.w),true):=by unfold qeP;simp only[h2,h3];rw[if_pos h4]
      conv=>whnf
      refine qc (qa (by(try dsimp only);omega)) ?_;conv=>whnf
      refine⟨_,hy1,?_⟩;rw[ht]at hfold hb2;conv=>whnf
      refine qc (qa (by(try dsimp only);omega)) ?_;conv=>whnf
      refine⟨(jf m1 s.b (n+s.w),true),⟨hfold,fun q v hv=>by have:=hb2 q v hv;omega⟩,Wk.sub ⟨rfl,rfl,rfl,rfl,rfl,rfl,rfl,rfl,trivial⟩ ⟨?_,trivial⟩⟩
      (show some (Obj.map ((pmD m1).set (0+iy) (s.b.d,i64 (n+s.w))))=_);rw[Nat.zero_add];exact congrArg (fun z=>some (Obj.map z)) (hy2 (n+s.w))
     ·have h4:¬ n+s.w<v2:=of_decide_eq_false h4
      have ht:qeP (m1,ch) s=(m1,ch):=by unfold qeP;simp only[h2,h3];rw[if_neg h4]
      rw[ht]at hfold hb2;conv=>whnf
      refine qc (qa (by(try dsimp only);omega)) ?_;conv=>whnf
      exact⟨(m1,ch),⟨hfold,fun q v hv=>by have:=hb2 q v hv;omega⟩,(Wk.sub (by repeat' first|exact trivial|refine⟨?_,?_⟩|rfl|(simp only[List.length_map];rfl)|simp[PX.get]) ⟨(by first | rfl | (simp only[List.length_map];rfl) | simp[PX.get]),trivial⟩)⟩
  ·rintro ⟨m1,ch⟩ ⟨hfold,hbm⟩
   have hfold:(m1,ch)=RM:=hfold;conv=>whnf
   refine qg (fun h=>absurd h (by simp)) (fun _=>?_);conv=>whnf
   refine qg (fun h2=>?_) (fun h2=>?_)
   ·have h2:ch=false:=by simpa using h2
    subst h2;rw[<- hfold]at hr;simp only[if_false,Bool.false_eq_true]at hr;subst hr;have hbT:qkt m1 10000000000:=fun q v hv=>by have:=hbm q v hv;omega
    clear hbm;conv=>whnf
    refine zc (T:=tys) qi (by exact qd mixed qi (by decide +kernel)) x.steps (fun k (_:Unit)=>⟨[(0,.d (jB l x)),(6,.mp 16),(75,.d (qls x.steps)),(76,.d (i64 x.steps.length)),(77,.d (i64 k))],[(16,.map (pmD m1))],st⟩)
     (fun k r _=>qln x m1=r.all fun s=>decide (atM m1 s.b<=atM m1 s.a+s.w)) () (Wk.sub (by repeat' first|exact trivial|refine⟨?_,?_⟩|rfl|(simp only[List.length_map];rfl)|simp[PX.get]) ⟨(by first | rfl | (simp only[List.length_map];rfl) | simp[PX.get]),trivial⟩) rfl ?_ ?_
    ·rintro k s r _ hs hk hr2 hall
     have hsw:=hR.w s (List.mem_of_getElem? hs);rw[List.all_cons]at hall;conv=>whnf
     refine qg (fun _=>?_) (fun h=>absurd hk (by simpa using h));conv=>whnf
     refine qr hs ?_;conv=>whnf
     have hba:=hbT s.a;have hbb:=hbT s.b
     cases h2:zg m1 s.a with
     | none=>
      have e1:atM m1 s.a=0:=by unfold atM;rw[h2];rfl
      rw[e1]at hall;refine⟨none,ql (kd:=Per.d) zx h2 0,?_⟩;conv=>whnf
      refine qc (qa (by(try dsimp only);omega)) ?_;conv=>whnf
      cases h3:zg m1 s.b with
      | none=>
       have e2:atM m1 s.b=0:=by unfold atM;rw[h3];rfl
       rw[e2]at hall;refine⟨none,ql (kd:=Per.d) zx h3 0,?_⟩;conv=>whnf
       refine qg (fun h4=>?_) (fun h4=>?_)
       ·have h4:0+s.w<0:=of_decide_eq_true h4
        rw[decide_eq_false (by omega),Bool.false_and]at hall;rw[hall];simp only[if_false,Bool.false_eq_true];conv=>whnf
        exact qb 0 rfl ⟨⟨rfl,rfl⟩,rfl⟩
       ·have h4:¬ 0+s.w<0:=of_decide_eq_false h4
        rw[decide_eq_true (by omega),Bool.true_and]at hall;conv=>whnf
        refine qc (qa (by(try dsimp only);omega)) ?_;conv=>whnf
        exact⟨(),hall,(Wk.sub (by repeat' first|exact trivial|refine⟨?_,?_⟩|rfl|(simp only[List.length_map];rfl)|simp[PX.get]) ⟨(by first | rfl | (simp only[List.length_map];rfl) | simp[PX.get]),trivial⟩)⟩
      | some v2=>
       have e2:atM m1 s.b=v2:=by unfold atM;rw[h3];rfl
       rw[e2]at hall;obtain⟨iy,_,hy1,_⟩:=qt (kd:=Per.d) (vd:=qw) zx h3 0;refine⟨_,hy1,?_⟩;conv=>whnf
       refine qg (fun h4=>?_) (fun h4=>?_)
       ·have h4:0+s.w<v2:=of_decide_eq_true h4
        rw[decide_eq_false (by omega),Bool.false_and]at hall;rw[hall];simp only[if_false,Bool.false_eq_true];conv=>whnf
        exact qb 0 rfl ⟨⟨rfl,rfl⟩,rfl⟩
       ·have h4:¬ 0+s.w<v2:=of_decide_eq_false h4
        rw[decide_eq_true (by omega),Bool.true_and]at hall;conv=>whnf
        refine qc (qa (by(try dsimp only);omega)) ?_;conv=>whnf
        exact⟨(),hall,(Wk.sub (by repeat' first|exact trivial|refine⟨?_,?_⟩|rfl|(simp only[List.length_map];rfl)|simp[PX.get]) ⟨(by first | rfl | (simp only[List.length_map];rfl) | simp[PX.get]),trivial⟩)⟩
     | some n=>
      have hn:=hba n h2;have e1:atM m1 s.a=n:=by unfold atM;rw[h2];rfl
      rw[e1]at hall;obtain⟨ix,_,hx1,_⟩:=qt (kd:=Per.d) (vd:=qw) zx h2 0;refine⟨_,hx1,?_⟩;conv=>whnf
      refine qc (qa (by(try dsimp only);omega)) ?_;conv=>whnf
      cases h3:zg m1 s.b with
      | none=>
       have e2:atM m1 s.b=0:=by unfold atM;rw[h3];rfl
       rw[e2]at hall;refine⟨none,ql (kd:=Per.d) zx h3 0,?_⟩;conv=>whnf
       refine qg (fun h4=>?_) (fun h4=>?_)
       ·have h4:n+s.w<0:=of_decide_eq_true h4
        rw[decide_eq_false (by omega),Bool.false_and]at hall;rw[hall];simp only[if_false,Bool.false_eq_true];conv=>whnf
        exact qb 0 rfl ⟨⟨rfl,rfl⟩,rfl⟩
       ·have h4:¬ n+s.w<0:=of_decide_eq_false h4
        rw[decide_eq_true (by omega),Bool.true_and]at hall;conv=>whnf
        refine qc (qa (by(try dsimp only);omega)) ?_;conv=>whnf
        exact⟨(),hall,(Wk.sub (by repeat' first|exact trivial|refine⟨?_,?_⟩|rfl|(simp only[List.length_map];rfl)|simp[PX.get]) ⟨(by first | rfl | (simp only[List.length_map];rfl) | simp[PX.get]),trivial⟩)⟩
      | some v2=>
       have e2:atM m1 s.b=v2:=by unfold atM;rw[h3];rfl
       rw[e2]at hall;obtain⟨iy,_,hy1,_⟩:=qt (kd:=Per.d) (vd:=qw) zx h3 0;refine⟨_,hy1,?_⟩;conv=>whnf
       refine qg (fun h4=>?_) (fun h4=>?_)
       ·have h4:n+s.w<v2:=of_decide_eq_true h4
        rw[decide_eq_false (by omega),Bool.false_and]at hall;rw[hall];simp only[if_false,Bool.false_eq_true];conv=>whnf
        exact qb 0 rfl ⟨⟨rfl,rfl⟩,rfl⟩
       ·have h4:¬ n+s.w<v2:=of_decide_eq_false h4
        rw[decide_eq_true (by omega),Bool.true_and]at hall;conv=>whnf
        refine qc (qa (by(try dsimp only);omega)) ?_;conv=>whnf
        exact⟨(),hall,(Wk.sub (by repeat' first|exact trivial|refine⟨?_,?_⟩|rfl|(simp only[List.length_map];rfl)|simp[PX.get]) ⟨(by first | rfl | (simp only[List.length_map];rfl) | simp[PX.get]),trivial⟩)⟩
    ·rintro _ hall
     have hall:qln x m1=true:=hall;rw[hall];simp only[if_true];conv=>whnf
     refine qg (fun h=>absurd h (by simp)) (fun _=>?_);conv=>whnf
     refine qb 1 (ds:=[.mv (pmD m1),.bool true]) (qx (qfB rfl) rfl) ⟨⟨rfl,rfl⟩,rfl⟩
   ·have h2:ch=true:=by simpa using h2
    subst h2;rw[<- hfold]at hr;simp only[if_true]at hr;conv=>whnf
    refine qc (qa (by(try dsimp only);omega)) ?_;conv=>whnf
    exact⟨(i+1,m1),by simp only;omega,⟨by simp only;omega,fun q v hv=>by have:=hbm q v hv;simp only;omega,by simp only;rw[show N-(i+1)=f by omega];exact hr⟩,(Wk.sub (by repeat' first|exact trivial|refine⟨?_,?_⟩|rfl|(simp only[List.length_map];rfl)|simp[PX.get]) ⟨(by first | rfl | (simp only[List.length_map];rfl) | simp[PX.get]),trivial⟩)⟩
 ·have h1:¬ i<N:=by have:=of_decide_eq_false h1;simp only at this;omega
  have hm:m=RES:=by rw[show N-i=0 by omega,qbo]at hr;exact hr
  subst hm;have hbT:qkt m 10000000000:=fun q v hv=>by have:=hb q v hv;omega
  clear hb;conv=>whnf
  refine zc (T:=tys) qi (by exact qd mixed qi (by decide +kernel)) x.steps (fun k (_:Unit)=>⟨[(0,.d (jB l x)),(6,.mp 16),(75,.d (qls x.steps)),(76,.d (i64 x.steps.length)),(77,.d (i64 k))],[(16,.map (pmD m))],st⟩)
   (fun k r _=>qln x m=r.all fun s=>decide (atM m s.b<=atM m s.a+s.w)) () (Wk.sub (by repeat' first|exact trivial|refine⟨?_,?_⟩|rfl|(simp only[List.length_map];rfl)|simp[PX.get]) ⟨(by first | rfl | (simp only[List.length_map];rfl) | simp[PX.get]),trivial⟩) rfl ?_ ?_
  ·rintro k s r _ hs hk hr2 hall
   have hsw:=hR.w s (List.mem_of_getElem? hs);rw[List.all_cons]at hall;conv=>whnf
   refine qg (fun _=>?_) (fun h=>absurd hk (by simpa using h));conv=>whnf
   refine qr hs ?_;conv=>whnf
   have hba:=hbT s.a;have hbb:=hbT s.b
   cases h2:zg m s.a with
   | none=>
    have e1:atM m s.a=0:=by unfold atM;rw[h2];rfl
    rw[e1]at hall;refine⟨none,ql (kd:=Per.d) zx h2 0,?_⟩;conv=>whnf
    refine qc (qa (by(try dsimp only);omega)) ?_;conv=>whnf
    cases h3:zg m s.b with
    | none=>
     have e2:atM m s.b=0:=by unfold atM;rw[h3];rfl
     rw[e2]at hall;refine⟨none,ql (kd:=Per.d) zx h3 0,?_⟩;conv=>whnf
     refine qg (fun h4=>?_) (fun h4=>?_)
     ·have h4:0+s.w<0:=of_decide_eq_true h4
      rw[decide_eq_false (by omega),Bool.false_and]at hall;rw[hall];simp only[if_false,Bool.false_eq_true];conv=>whnf
      exact qb 0 rfl ⟨⟨rfl,rfl⟩,rfl⟩
     ·have h4:¬ 0+s.w<0:=of_decide_eq_false h4
      rw[decide_eq_true (by omega),Bool.true_and]at hall;conv=>whnf
      refine qc (qa (by(try dsimp only);omega)) ?_;conv=>whnf
      exact⟨(),hall,(Wk.sub (by repeat' first|exact trivial|refine⟨?_,?_⟩|rfl|(simp only[List.length_map];rfl)|simp[PX.get]) ⟨(by first | rfl | (simp only[List.length_map];rfl) | simp[PX.get]),trivial⟩)⟩
    | some v2=>
     have e2:atM m s.b=v2:=by unfold atM;rw[h3];rfl
     rw[e2]at hall;obtain⟨iy,_,hy1,_⟩:=qt (kd:=Per.d) (vd:=qw) zx h3 0;refine⟨_,hy1,?_⟩;conv=>whnf
     refine qg (fun h4=>?_) (fun h4=>?_)
     ·have h4:0+s.w<v2:=of_decide_eq_true h4
      rw[decide_eq_false (by omega),Bool.false_and]at hall;rw[hall];simp only[if_false,Bool.false_eq_true];conv=>whnf
      exact qb 0 rfl ⟨⟨rfl,rfl⟩,rfl⟩
     ·have h4:¬ 0+s.w<v2:=of_decide_eq_false h4
      rw[decide_eq_true (by omega),Bool.true_and]at hall;conv=>whnf
      refine qc (qa (by(try dsimp only);omega)) ?_;conv=>whnf
      exact⟨(),hall,(Wk.sub (by repeat' first|exact trivial|refine⟨?_,?_⟩|rfl|(simp only[List.length_map];rfl)|simp[PX.get]) ⟨(by first | rfl | (simp only[List.length_map];rfl) | simp[PX.get]),trivial⟩)⟩
   | some n=>
    have hn:=hba n h2;have e1:atM m s.a=n:=by unfold atM;rw[h2];rfl
    rw[e1]at hall;obtain⟨ix,_,hx1,_⟩:=qt (kd:=Per.d) (vd:=qw) zx h2 0;refine⟨_,hx1,?_⟩;conv=>whnf
    refine qc (qa (by(try dsimp only);omega)) ?_;conv=>whnf
    cases h3:zg m s.b with
    | none=>
     have e2:atM m s.b=0:=by unfold atM;rw[h3];rfl
     rw[e2]at hall;refine⟨none,ql (kd:=Per.d) zx h3 0,?_⟩;conv=>whnf
     refine qg (fun h4=>?_) (fun h4=>?_)
     ·have h4:n+s.w<0:=of_decide_eq_true h4
      rw[decide_eq_false (by omega),Bool.false_and]at hall;rw[hall];simp only[if_false,Bool.false_eq_true];conv=>whnf
      exact qb 0 rfl ⟨⟨rfl,rfl⟩,rfl⟩
     ·have h4:¬ n+s.w<0:=of_decide_eq_false h4
      rw[decide_eq_true (by omega),Bool.true_and]at hall;conv=>whnf
      refine qc (qa (by(try dsimp only);omega)) ?_;conv=>whnf
      exact⟨(),hall,(Wk.sub (by repeat' first|exact trivial|refine⟨?_,?_⟩|rfl|(simp only[List.length_map];rfl)|simp[PX.get]) ⟨(by first | rfl | (simp only[List.length_map];rfl) | simp[PX.get]),trivial⟩)⟩
    | some v2=>
     have e2:atM m s.b=v2:=by unfold atM;rw[h3];rfl
     rw[e2]at hall;obtain⟨iy,_,hy1,_⟩:=qt (kd:=Per.d) (vd:=qw) zx h3 0;refine⟨_,hy1,?_⟩;conv=>whnf
     refine qg (fun h4=>?_) (fun h4=>?_)
     ·have h4:n+s.w<v2:=of_decide_eq_true h4
      rw[decide_eq_false (by omega),Bool.false_and]at hall;rw[hall];simp only[if_false,Bool.false_eq_true];conv=>whnf
      exact qb 0 rfl ⟨⟨rfl,rfl⟩,rfl⟩
     ·have h4:¬ n+s.w<v2:=of_decide_eq_false h4
      rw[decide_eq_true (by omega),Bool.true_and]at hall;conv=>whnf
      refine qc (qa (by(try dsimp only);omega)) ?_;conv=>whnf
      exact⟨(),hall,(Wk.sub (by repeat' first|exact trivial|refine⟨?_,?_⟩|rfl|(simp only[List.length_map];rfl)|simp[PX.get]) ⟨(by first | rfl | (simp only[List.length_map];rfl) | simp[PX.get]),trivial⟩)⟩
  ·rintro _ hall
   have hall:qln x m=true:=hall;rw[hall];simp only[if_true];conv=>whnf
   refine qg (fun h=>absurd h (by simp)) (fun _=>?_);conv=>whnf
   refine qb 1 (ds:=[.mv (pmD m),.bool true]) (qx (qfB rfl) rfl) ⟨⟨rfl,rfl⟩,rfl⟩
end Go.PX
namespace Go.PX
open Go.Proofs
theorem qlt{x:LkS}(hR:LookR x):∀ (l:List zm) {y:PM×Bool} {B:Int},(∀ e∈l,e∈x.steps)->qkt y.1 B->qkt (l.foldl qeP y).1 (B+1100000*l.length)
 | [],y,B,_,h=>by simpa using h
 | s::r,y,B,hl,h=>by
  rw[List.foldl_cons];have:=qlt hR r (fun e he=>hl e (by simp[he])) (qmQ h (hR.w s (hl s (by simp))));intro p v hv;have:=this p v hv;rw[List.length_cons];omega
theorem qhK{x:LkS}(hR:LookR x):∀ (k:Nat) {m:PM} {B:Int},qkt m B->0<=B->qkt (qbo x.steps k m) (B+100000000*k)
 | 0,m,B,h,_=>by rw[qbo];simpa using h
 | k+1,m,B,h,hB=>by
  have h1:=qlt hR x.steps (y:=(m,false)) (fun e he=>he) h;have hl:=hR.len;have h2:qkt (qgD x.steps m).1 (B+100000000):=fun p v hv=>by have:=h1 p v hv;omega
  rw[qbo]
  split
  ·intro p v hv
   have:=qhK hR k h2 (by omega) p v hv;omega
  ·intro p v hv
   have:=h2 p v hv;omega
theorem far_bnd{x:LkS}(hR:LookR x)(p:Per):qkt (qdI x p) 4000000000:=by
 have h0:qkt [(p,(0:Int))] 0:=fun q v hv=>by
  rw[zg]at hv
  split at hv
  ·cases hv;simp
  ·cases hv
 have:=qhK hR (x.many+2).toNat h0 (Int.le_refl 0);have hm:=hR.many;intro q v hv;have:=this q v hv;omega
theorem qjI{x:LkS}(hR:LookR x)(p q:Per) : -4000000000<=atM (qdI x p) q/\atM (qdI x p) q<=4000000000:=by
 unfold atM
 cases h:zg (qdI x p) q with
 | none=>simp
 | some v=>exact far_bnd hR p q v h
theorem qkv(m:PM)(q:Per):∃ r,qcy q.d (pmD m) 0=some r/\((r=none/\atM m q=0) \/ ∃ i,r=some (i,i64 (atM m q))):=by
 cases h:zg m q with
 | none=>exact⟨none,ql (kd:=Per.d) zx h 0,.inl ⟨rfl,by unfold atM;rw[h];rfl⟩⟩
 | some v=>
  obtain⟨ix,_,hx,_⟩:=qt (kd:=Per.d) (vd:=qw) zx h 0;exact⟨_,hx,.inr ⟨0+ix,by unfold atM;rw[h];rfl⟩⟩
theorem qpS(l:PLog)(x:LkS)(hR:LookR x)(p q:Per)(hp:qln x (qdI x p)=true)(hq:qln x (qdI x q)=true):FnV Tryz.prog 72 [jB l x,p.d,q.d] (zH x p q).d:=by
 refine qC mixed qi Tryz.func72 rfl (ft:=ft72) 3 (by decide +kernel) (by rfl) fun {σ} Y st=>?_;conv=>whnf
 have h1:FnV Tryz.prog 69 [jB l x,q.d] (.tup [.mv (pmD (qdI x q)),.bool true]):=FnV.cast (fun {σ}=>qpf l x hR q) (by rw[hq];rfl);have h2:FnV Tryz.prog 69 [jB l x,p.d] (.tup [.mv (pmD (qdI x p)),.bool true]):=FnV.cast (fun {σ}=>qpf l x hR p) (by rw[hp];rfl);have hb:=qjI hR p q;refine qe (h1) rfl rfl ?_;conv=>whnf
 refine qe (h2) rfl rfl ?_;conv=>whnf
 obtain⟨r1,hr1,hc1⟩:=qkv (qdI x p) q;refine⟨r1,hr1,?_⟩
 rcases hc1 with⟨rfl,e1⟩ | ⟨i1,rfl⟩
 ·conv=>whnf
  refine qc (qa (by(try dsimp only);omega)) ?_;conv=>whnf
  obtain⟨r2,hr2,hc2⟩:=qkv (qdI x q) p;refine⟨r2,hr2,?_⟩
  rcases hc2 with⟨rfl,e2⟩ | ⟨i2,rfl⟩
  ·have hd:(zH x p q).d = .agg [i64 (0-0),i64 0]:=by unfold zH;rw[e2,Int.zero_sub];rw[e1];rfl
   rw[hd];conv=>whnf
   exact qb 0 rfl ⟨⟨rfl,rfl⟩,rfl⟩
  ·have hd:(zH x p q).d = .agg [i64 (0-0),i64 (atM (qdI x q) p)]:=by unfold zH;rw[Int.zero_sub];rw[e1];rfl
   rw[hd];conv=>whnf
   exact qb 0 rfl ⟨⟨rfl,rfl⟩,rfl⟩
 ·conv=>whnf
  refine qc (qa (by(try dsimp only);omega)) ?_;conv=>whnf
  obtain⟨r2,hr2,hc2⟩:=qkv (qdI x q) p;refine⟨r2,hr2,?_⟩
  rcases hc2 with⟨rfl,e2⟩ | ⟨i2,rfl⟩
  ·have hd:(zH x p q).d = .agg [i64 (0-atM (qdI x p) q),i64 0]:=by unfold zH;rw[e2,Int.zero_sub];rfl
   rw[hd];conv=>whnf
   exact qb 0 rfl ⟨⟨rfl,rfl⟩,rfl⟩
  ·have hd:(zH x p q).d = .agg [i64 (0-atM (qdI x p) q),i64 (atM (qdI x q) p)]:=by unfold zH;rw[Int.zero_sub];rfl
   rw[hd];conv=>whnf
   exact qb 0 rfl ⟨⟨rfl,rfl⟩,rfl⟩
end Go.PX
namespace Go.PX
open Go.Proofs
def qdr(l:PLog)(i:Int):PBook:=(l.books[i.toNat]?).getD ⟨.empty,⟨0,0⟩,⟨0,0⟩,[]⟩
def qz(l:PLog):Int:=(qaj l).2.2
def qmR(l:PLog):Bool×Int:=if qz l=0 then (qfm l 0 [],0) else (false,qz l)
def qoN(l:PLog)(book:Int):List Span:=(List.range (jO (qdr l book).ents+1)).map fun(n:Nat)=>zH (zf l 0 []) ⟨book,n⟩ .right
def qkw(l:PLog)(book:Int):List Span×Int:=
 if qz l=0 then
  if qbT book 0 ((l.books.length:Int)-1) then ([],4)
  else if qfm l 0 [] then (qoN l book,0) else ([],9)
 else ([],qz l)
def qnM(l:PLog)(x:PAt):Bool:=!qbT x.book 0 ((l.books.length:Int)-1) && !qbT x.entry 0 (((qdr l x.book).ents.length:Int)-1)
def qbu(l:PLog)(xs:List PAt):Int:=if qz l=0 then (if xs.all (qnM l) then 0 else 4) else qz l
def qiA(l:PLog)(xs:List PAt):Int:=if qbu l xs=0 then (if qfm l 0 [] then 0 else 9) else qbu l xs
def qnN(l:PLog)(x:PAt):Per:=qjz (zf l 0 []).pers x
def qnr(l:PLog)(x:PAt):Span:=
 ⟨(qeO l x).shown-(zH (zf l 0 []) (qnN l x) .right).hi,(qeO l x).shown-(zH (zf l 0 []) (qnN l x) .right).lo⟩
def qiB(l:PLog)(x:PAt):Span×Int:=if qiA l [x]=0 then (qnr l x,0) else (⟨0,0⟩,qiA l [x])
def qcR(l:PLog)(a b:PAt):Span:=
 ⟨((qeO l b).shown-(qeO l a).shown)-(zH (zf l 0 []) (qnN l b) (qnN l a)).hi,((qeO l b).shown-(qeO l a).shown)-(zH (zf l 0 []) (qnN l b) (qnN l a)).lo⟩
def qmS(s:Span):Int:=if s=⟨0,0⟩ then 3 else if 0<s.lo then 1 else if s.hi<0 then 2 else 0
def qen(l:PLog)(a b:PAt):Span×Int×Int:=if qiA l [a,b]=0 then (qcR l a b,qmS (qcR l a b),0) else (⟨0,0⟩,0,qiA l [a,b])
def qod(l:PLog)(x:PAt)(i k:Nat)(y:PEnt):Bool:=
 !decide ((i:Int)=x.book)&&(decide (y.kind=1)&&(decide (y.word=(qeO l x).word)&&(decide ((qcR l x ⟨i,k⟩).lo<=l.near)&&decide (-l.near<=(qcR l x ⟨i,k⟩).hi))))
def qlP(l:PLog)(x:PAt)(i:Nat):Nat->List PEnt->List PAt
 | _,[]=>[]
 | k,y::r=>if qod l x i k y then ⟨i,k⟩::qlP l x i (k+1) r else qlP l x i (k+1) r
def qgI(l:PLog)(x:PAt):Nat->List PBook->List PAt
 | _,[]=>[]
 | i,b::r=>qlP l x i 0 b.ents++qgI l x (i+1) r
def qns(l:PLog)(x:PAt):List PAt×Int:=
 if qbu l [x]=0 then
  if (qeO l x).kind=1 then (if qfm l 0 [] then (qgI l x 0 l.books,0) else ([],9)) else ([],2)
 else ([],qbu l [x])
def qaG(does:Int->Bool):Nat->Int->Int->Int
 | 0,_,hi=>hi
 | k+1,lo,hi=>if hi-lo>1 then (if does ((lo+hi)/2) then qaG does k lo ((lo+hi)/2) else qaG does k ((lo+hi)/2) hi) else hi
def qmT(l:PLog):Int×Int:=
 if qz l=0 then (if qfm l 1048576 [] then (qaG (fun w=>qfm l w []) 40 (-1) 1048576,0) else (0,9)) else (0,qz l)
def qez(b:PBook)(n:Int):Nat:=(b.ents.filter fun y=>decide (y.kind=3/\y.number=n)).length
def inN(l:PLog)(n:Int):Nat:=(l.books.filter fun b=>decide (0<qez b n)).length
def qnt(l:PLog)(n:Int):Nat:=(l.books.map fun b=>qez b n).foldl max 0
def qiC(l:PLog):List Int:=((List.range' 0 100).map fun(n:Nat)=>(n:Int)).filter fun n=>decide (1<inN l n)
def qcv(of:List Int):Nat->List Int->Nat->List (List Int)
 | 0,p,_=>[p]
 | left+1,p,start=>(List.range' start (of.length-left-start)).flatMap fun(i:Nat)=>qcv of left (p ++ [(of[i]?).getD 0]) (i+1)
def qjJ(of:List Int):List (List Int):=(List.range' 0 (of.length+1)).flatMap fun(n:Nat)=>qcv of n [] 0
def qnu(l:PLog):List Int×Int:=
 if qz l=0 then (match (qjJ (qiC l)).find? (qfm l 0) with
  | some c=>(c,0)
  | none=>([],9)) else ([],qz l)
def qeo(l:PLog):List PEnt:=(l.books.flatMap PBook.ents).filter fun y=>decide (y.kind=3)
def qaH:List (Int×ByteArray)->List PEnt->Bool
 | _,[]=>false
 | m,y::r=>match zg m y.number with
  | some w=>if w=y.word then qaH (jf m y.number y.word) r else true
  | none=>qaH (jf m y.number y.word) r
def jQ(l:PLog):Int:=(qeo l).foldl (fun m y=>max m y.number) 0
def qep(l:PLog):List Int:=((List.range' 1 (jQ l).toNat).map fun(n:Nat)=>(n:Int)).filter fun n=>decide (inN l n=0)
def qgJ(l:PLog):List Int:=((List.range' 1 (jQ l).toNat).map fun(n:Nat)=>(n:Int)).filter fun n=>decide (inN l n≠0)&&decide (1<qnt l n)
def qng(l:PLog):List Int×List Int×Int:=
 if qz l=0 then (if qaH [] (qeo l) then ([],[],5) else (qep l,qgJ l,0)) else ([],[],qz l)
theorem qlu:∀ {r:List PEnt} {k:Nat},(∀ x∈r,qjZ x=0)->qdk r k=(0,0)
 | [],_,_=>rfl
 | y::r,k,h=>by rw[qdk,if_pos (h y (List.mem_cons_self ..))];exact qlu fun x hx=>h x (List.mem_cons_of_mem _ hx)
theorem qlv:∀ {r:List PEnt} {k:Nat},(qdk r k).2=0 -> ∀ x∈r,qjZ x=0
 | [],_,_,x,hx=>by cases hx
 | y::r,k,h,x,hx=>by
  rw[qdk]at h
  split at h
  ·rename_i h1
   rcases List.mem_cons.1 hx with rfl | hx
   ·exact h1
   ·exact qlv h x hx
  ·rename_i h1;exact absurd h h1
theorem qhL:∀ {bs pre:List PBook} {i:Nat},(qaR pre bs i).2.2=0 ↔ ∀ k b,bs[k]?=some b->qgH (pre++bs.take k) b=0 /\ ∀ x∈b.ents,qjZ x=0
 | [],pre,i=>by simp[qaR]
 | c::r,pre,i=>by
  rw[qaR]
  by_cases h1:qgH pre c=0
  ·rw[if_pos h1]
   by_cases h2:(qdk c.ents 0).2=0
   ·rw[if_pos h2,qhL]
    constructor
    ·intro h k b hb
     cases k with
     | zero=>
      rw[List.getElem?_cons_zero]at hb
      cases hb
      rw[List.take_zero,List.append_nil];exact⟨h1,qlv h2⟩
     | succ k=>
      rw[List.getElem?_cons_succ]at hb;have:=h k b hb;rw[List.take_succ_cons]
      rwa [List.append_assoc]at this
    ·intro h k b hb
     have:=h (k+1) b (by rw[List.getElem?_cons_succ];exact hb);rw[List.take_succ_cons]at this
     rwa [List.append_assoc]
   ·rw[if_neg h2]
    constructor
    ·intro h;exact absurd h h2
    ·intro h
     have:=(h 0 c rfl).2;exact absurd (by rw[qlu this]) h2
  ·rw[if_neg h1]
   constructor
   ·intro h;exact absurd h h1
   ·intro h
    have:=(h 0 c rfl).1;rw[List.take_zero,List.append_nil]at this;exact absurd this h1
theorem qmU{n lo hi:Int}:inB n lo hi=true↔lo<=n/\n<=hi:=by
 unfold inB;rw[Bool.and_eq_true,decide_eq_true_eq,decide_eq_true_eq]
theorem zy{n lo hi:Int}:qbT n lo hi=false↔lo<=n/\n<=hi:=by
 unfold qbT;rw[Bool.not_eq_false',qmU]
theorem qbU{l:PLog}:qz l=0↔(0<=l.near/\l.near<=60)/\(1<=l.books.length/\l.books.length<=3) /\ ∀ k b,l.books[k]?=some b->qgH (l.books.take k) b=0 /\ ∀ x∈b.ents,qjZ x=0:=by
 unfold qz qaj
 cases h1:qbT l.near 0 60 with
 | true=>
  simp only[if_true];constructor
  ·intro h;cases h
  ·intro h
   have:=zy.2 h.1;rw[h1]at this;cases this
 | false=>
  simp only[Bool.false_eq_true,if_false];have h1:=zy.1 h1
  cases h2:qbT l.books.length 1 3 with
  | true=>
   simp only[if_true];constructor
   ·intro h;cases h
   ·intro h
    have:=zy (n:=l.books.length) (lo:=1) (hi:=3) |>.2 (by omega)
    rw[h2]at this;cases this
  | false=>
   simp only[Bool.false_eq_true,if_false];have h2:=zy.1 h2;rw[qhL];simp only[List.nil_append];exact⟨fun h=>⟨h1,by omega,h⟩,fun h=>h.2.2⟩
theorem qbq{l:PLog}(h:qz l=0):qaj l=(0,0,0):=by
 have key:∀ {bs pre:List PBook} {i:Nat},(qaR pre bs i).2.2=0->qaR pre bs i=(0,0,0):=by
  intro bs
  induction bs with
  | nil=>intros;rfl
  | cons c r ih=>
   intro pre i h;rw[qaR]at h ⊢
   by_cases h1:qgH pre c=0
   ·rw[if_pos h1]at h ⊢
    by_cases h2:(qdk c.ents 0).2=0
    ·rw[if_pos h2]at h ⊢
     exact ih h
    ·rw[if_neg h2]at h;exact absurd h h2
   ·rw[if_neg h1]at h;exact absurd h h1
 have hi:=qbU.1 h;have h1:=zy.2 hi.1;have h2:=zy (n:=l.books.length) (lo:=1) (hi:=3) |>.2 (by omega)
 unfold qz qaj at h;unfold qaj;rw[h1,h2]at h ⊢;simp only[Bool.false_eq_true,if_false]at h ⊢;exact key h
structure EntR(x:PEnt):Prop where
 shown:0<=x.shown/\x.shown<=20000
 kind:1<=x.kind/\x.kind<=3
 number:0<=x.number/\x.number<=99
 pass:x.kind=1->qah x.word=true/\x.number=0
 set:x.kind=2->x.word = .empty/\x.number=0
 rep:x.kind=3->qah x.word=true/\1<=x.number
theorem qiD{x:PEnt}:qjZ x=0↔EntR x:=by
 unfold qjZ
 cases h0:qbT x.shown 0 20000 with
 | true=>
  simp only[if_true];refine⟨fun h=>(by cases h),fun h=>?_⟩;have:=zy.2 h.shown;rw[h0]at this;cases this
 | false=>
  have h0:=zy.1 h0;simp only[Bool.false_eq_true,if_false]
  by_cases h1:x.kind=1
  ·rw[if_pos h1]
   constructor
   ·intro h
    split at h
    case isFalse=>cases h
    rename_i h2;rw[Bool.and_eq_true,decide_eq_true_eq]at h2;exact⟨h0,by omega,by omega,fun _=>h2,fun h=>by omega,fun h=>by omega⟩
   ·intro h
    rw[if_pos (by rw[(h.pass h1).1,decide_eq_true (h.pass h1).2];rfl)]
  ·rw[if_neg h1]
   by_cases h2:x.kind=2
   ·rw[if_pos h2]
    constructor
    ·intro h
     split at h
     case isFalse=>cases h
     rename_i h3;rw[Bool.and_eq_true,decide_eq_true_eq,decide_eq_true_eq]at h3;exact⟨h0,by omega,by omega,fun h=>by omega,fun _=>h3,fun h=>by omega⟩
    ·intro h
     rw[if_pos (by rw[decide_eq_true (h.set h2).1,decide_eq_true (h.set h2).2];rfl)]
   ·rw[if_neg h2]
    by_cases h3:x.kind=3
    ·rw[if_pos h3]
     constructor
     ·intro h
      split at h
      case isFalse=>cases h
      rename_i h4;rw[Bool.and_eq_true,Bool.not_eq_true',zy]at h4;exact⟨h0,by omega,by omega,fun h=>by omega,fun h=>by omega,fun _=>⟨h4.1,h4.2.1⟩⟩
     ·intro h
      have:=zy (n:=x.number) (lo:=1) (hi:=99) |>.2 ⟨(h.rep h3).2,h.number.2⟩
      rw[if_pos (by rw[(h.rep h3).1,this];rfl)]
    ·rw[if_neg h3]
     exact⟨fun h=>(by cases h),fun h=>by have:=h.kind;omega⟩
structure HeadR(pre:List PBook)(b:PBook):Prop where
 name:qah b.name=true
 fresh:∀ x∈pre,x.name≠b.name
 off : -720<=b.off.lo/\b.off.lo<=b.off.hi/\b.off.hi<=720
 set : -720<=b.set.lo/\b.set.lo<=b.set.hi/\b.set.hi<=720
 ents:b.ents.length<=8
theorem qcS{pre:List PBook}{b:PBook}:qgH pre b=0↔HeadR pre b:=by
 unfold qgH
 cases h1:qah b.name with
 | false=>
  simp only[Bool.false_eq_true,if_false];exact⟨fun h=>(by cases h),fun h=>by rw[h.name]at h1;cases h1⟩
 | true=>
  simp only[if_true]
  cases h2:pre.any fun x=>decide (x.name=b.name) with
  | true=>
   simp only[if_true];refine⟨fun h=>(by cases h),fun h=>?_⟩;rw[List.any_eq_true]at h2;obtain⟨x,hx,he⟩:=h2;exact absurd (of_decide_eq_true he) (h.fresh x hx)
  | false=>
   simp only[Bool.false_eq_true,if_false];have hfr:∀ x∈pre,x.name≠b.name:=fun x hx he=>by
    rw[List.any_eq_false]at h2;exact h2 x hx (decide_eq_true he)
   cases h3:qbT b.off.lo (-720) 720||qbT b.off.hi (-720) 720||qbT b.set.lo (-720) 720||qbT b.set.hi (-720) 720 with
   | true=>
    simp only[if_true];refine⟨fun h=>(by cases h),fun h=>?_⟩;have ho:=h.off;have hs:=h.set;rw[zy.2 (by omega),zy.2 (by omega),zy.2 (by omega),zy.2 (by omega)]at h3
    cases h3
   | false=>
    simp only[Bool.or_eq_false_iff,zy]at h3;simp only[Bool.false_eq_true,if_false]
    cases h4:decide (b.off.lo>b.off.hi)||decide (b.set.lo>b.set.hi) with
    | true=>
     simp only[if_true];refine⟨fun h=>(by cases h),fun h=>?_⟩;have ho:=h.off;have hs:=h.set;rw[decide_eq_false (by omega),decide_eq_false (by omega)]at h4
     cases h4
    | false=>
     simp only[Bool.or_eq_false_iff,decide_eq_false_iff_not]at h4;simp only[Bool.false_eq_true,if_false]
     split
     ·rename_i h5
      exact⟨fun h=>(by cases h),fun h=>by have:=h.ents;omega⟩
     ·exact⟨fun _=>⟨h1,hfr,by omega,by omega,by omega⟩,fun _=>rfl⟩
theorem jC{l:PLog}(h:qz l=0):LogR l:=by
 obtain⟨h1,h2,h3⟩:=qbU.1 h;refine⟨h1,h2,fun b hb=>?_⟩;obtain⟨k,hk⟩:=List.getElem?_of_mem hb;obtain⟨h4,h5⟩:=h3 k b hk;have h4:=qcS.1 h4;exact⟨h4.off,h4.set,h4.ents,fun x hx=>by have:=qiD.1 (h5 x hx);exact⟨this.shown,this.kind,this.number⟩⟩
theorem qhM{l:PLog}(hR:LogR l){w:Int}(hw:0<=w/\w<=1048576)(conf:List Int):LookR (zf l w conf):=by
 refine⟨look_len hR w conf,fun e he=>just_w hR hw (look_sub e he),?_⟩;have h:=qiy (N:=qaF l) (l:=l) (wider:=w) (conf:=conf) (by simp[qaF]) l.books (i:=0) (done:=[]) (s:=⟨[],0,[],[]⟩) ⟨fun e he=>(by cases he),fun x hx=>(by cases hx),rfl,fun p hp=>(by cases hp)⟩ (fun p hp=>List.mem_cons_of_mem _ hp);have hm:(zf l w conf).many=((qbp 0 l.books).length:Nat):=by have:=h.many;rwa [List.nil_append]at this
 rw[hm,qhJ];have key:∀ bs:List PBook,(∀ b∈bs,BookR b)->qgG bs<=9*bs.length:=by
  intro bs
  induction bs with
  | nil=>intro _;exact Nat.le_refl _
  | cons b r ih=>
   intro h;have:=ih fun c hc=>h c (List.mem_cons_of_mem _ hc);have h2:=qdh b;have h3:=(h b (List.mem_cons_self ..)).ents;rw[qeQ,List.length_cons];omega
 have:=key l.books hR.book;have:=hR.books;omega
theorem qcp{l:PLog}{x:PAt}:qnM l x=true ↔ ∃ (i k:Nat) (b:PBook) (y:PEnt),x=⟨i,k⟩/\At l i k b y:=by
 unfold qnM;rw[Bool.and_eq_true,Bool.not_eq_true',Bool.not_eq_true',zy,zy];constructor
 ·rintro ⟨⟨h1,h2⟩,h3,h4⟩
  obtain⟨b,hb⟩:∃ b,l.books[x.book.toNat]?=some b:=⟨_,List.getElem?_eq_getElem (by omega)⟩;have hba:qdr l x.book=b:=by unfold qdr;rw[hb];rfl
  rw[hba]at h4;obtain⟨y,hy⟩:∃ y,b.ents[x.entry.toNat]?=some y:=⟨_,List.getElem?_eq_getElem (by omega)⟩;refine⟨x.book.toNat,x.entry.toNat,b,y,?_,hb,hy⟩
  cases x
  simp only[PAt.mk.injEq];simp only at h1 h3;omega
 ·rintro ⟨i,k,b,y,rfl,h⟩
  have h1:=(List.getElem?_eq_some_iff.1 h.book).1;have h2:=(List.getElem?_eq_some_iff.1 h.ent).1;have hba:qdr l ((⟨i,k⟩:PAt).book)=b:=by unfold qdr;simp only[Int.toNat_natCast,h.book,Option.getD_some]
  rw[hba];simp only;omega
theorem qdJ{l:PLog}{i k:Nat}{b:PBook}{y:PEnt}(h:At l i k b y):qnN l ⟨i,k⟩=⟨i,qV b k⟩:=
 qai h ((qgF l 0 []).pers.2 i b h.book (qoL h))
theorem qlw{l:PLog}{i n:Nat}{b:PBook}(h:l.books[i]?=some b)(hn:n<=jO b.ents):(⟨i,n⟩:Per)∈qaF l:=List.mem_of_getElem? (nodes_at h hn)
theorem qgK{l:PLog}{x:PAt}(h0:qnM l x=true):qnN l x∈qaF l:=by
 obtain⟨i,k,b,y,rfl,h⟩:=qcp.1 h0;rw[qdJ h];exact qlw h.book (qdg b k)
theorem qhN(l:PLog):Per.right∈qaF l:=List.mem_cons_self ..
theorem qiE{l:PLog}{w:Int}{conf:List Int}(hf:qfm l w conf=true){p:Per}(hp:p∈qaF l):qln (zf l w conf) (qdI (zf l w conf) p)=true:=by
 have hs:=look_star l w conf;exact(hs.fit hp).2 ((hs.fit hs.right).1 hf)
end Go.PX
namespace Go.PX
open Go.Proofs
end Go.PX
namespace Go.PX
open Go.Proofs
end Go.PX
namespace Go.PX
open Go.Proofs Go.RowKit Go.ChangeShapes
theorem c3:Tryz.prog.cellsOf 3=1:=by kernel_rfl
theorem c9:Tryz.prog.cellsOf 9=1:=by kernel_rfl
theorem c22:Tryz.prog.cellsOf 22=1:=by kernel_rfl
theorem c24:Tryz.prog.cellsOf 24=2:=by kernel_rfl
theorem c37:Tryz.prog.cellsOf 37=2:=by kernel_rfl
theorem c75:Tryz.prog.cellsOf 75=4:=by kernel_rfl
theorem c80:Tryz.prog.cellsOf 80=1:=by kernel_rfl
theorem c82:Tryz.prog.cellsOf 82=6:=by kernel_rfl
section
variable (W : World)
theorem qlQ:Rd Tryz.prog W 3 fun ds=>∃ n,ds = [i64 n]:=Rd.int Tryz.underlying3
theorem qoO:Rd Tryz.prog W 9 fun ds=>∃ s,ds = [.str s]:=Rd.str Tryz.underlying9
theorem qnO:Rd Tryz.prog W 37 fun ds=>∃ p:Span,ds=p.cells:=
 (Rd.struct Tryz.underlying37 c37 (.cons rfl c3 (qlQ W) (.cons rfl c3 (qlQ W) (.nil _)))).mono fun ds h=>by
  obtain⟨_,_,rfl,⟨a,rfl⟩,_,_,rfl,⟨b,rfl⟩,rfl⟩:=h;exact⟨⟨a,b⟩,rfl⟩
theorem rdEnt:Rd Tryz.prog W 75 fun ds=>∃ x:PEnt,ds=x.cells:=
 (Rd.struct Tryz.underlying75 c75 (.cons rfl c3 (qlQ W) (.cons rfl c3 (qlQ W) (.cons rfl c9 (qoO W) (.cons rfl c3 (qlQ W) (.nil _)))))).mono fun ds h=>by
  obtain⟨_,_,rfl,⟨a,rfl⟩,_,_,rfl,⟨b,rfl⟩,_,_,rfl,⟨c,rfl⟩,_,_,rfl,⟨d,rfl⟩,rfl⟩:=h;exact⟨⟨a,b,c,d⟩,rfl⟩
theorem rdEnts:Rd Tryz.prog W 80 fun ds=>∃ l:List PEnt,ds = [qdF l]:=
 (Rd.slice Tryz.underlying80 c75 (by omega) (rdEnt W)).mono fun ds h=>by
  obtain⟨es,rfl,he⟩:=h;obtain⟨l,rfl⟩:=qkq (f:=PEnt.cells) (fun _ h=>h) he;exact⟨l,rfl⟩
theorem rdBook:Rd Tryz.prog W 82 fun ds=>∃ b:PBook,ds=b.cells:=
 (Rd.struct Tryz.underlying82 c82 (.cons rfl c9 (qoO W) (.cons rfl c37 (qnO W) (.cons rfl c37 (qnO W) (.cons rfl c80 (rdEnts W) (.nil _)))))).mono fun ds h=>by
  obtain⟨_,_,rfl,⟨a,rfl⟩,_,_,rfl,⟨b,rfl⟩,_,_,rfl,⟨c,rfl⟩,_,_,rfl,⟨d,rfl⟩,rfl⟩:=h;exact⟨⟨a,b,c,d⟩,rfl⟩
theorem rdBooks:Rd Tryz.prog W 22 fun ds=>∃ l:List PBook,ds = [qF l]:=
 (Rd.slice Tryz.underlying22 c82 (by omega) (rdBook W)).mono fun ds h=>by
  obtain⟨es,rfl,he⟩:=h;obtain⟨l,rfl⟩:=qkq (f:=PBook.cells) (fun _ h=>h) he;exact⟨l,rfl⟩
theorem rdLog:Rd Tryz.prog W 24 fun ds=>∃ c:PLog,ds=c.cells:=
 (Rd.struct Tryz.underlying24 c24 (.cons rfl c3 (qlQ W) (.cons rfl c22 (rdBooks W) (.nil _)))).mono fun ds h=>by
  obtain⟨_,_,rfl,⟨a,rfl⟩,_,_,rfl,⟨b,rfl⟩,rfl⟩:=h;exact⟨⟨a,b⟩,rfl⟩
end
end Go.PX
namespace Go.PX
open Go.RowKit
structure Grown(w w':World):Prop where
 os:w'.os=w.os
 tape:w'.tape=w.tape
 output:w'.output=w.output
 size:w.heap.size<=w'.heap.size
 heap:∀ b,b<w.heap.size->w'.heap[b]?=w.heap[b]?
theorem Grown.refl(w:World):Grown w w:=⟨rfl,rfl,rfl,Nat.le_refl _,fun _ _=>rfl⟩
theorem Grown.tr{w w':World}(h:Grown w w'){F F':Nat->Nat}(hf:∀ b,w.heap.size<=b->F b=0)(hF:∀ b,b<w.heap.size->F' b=F b):Tr F w F' w':=by
 have lt:∀ b o,o<F b->b<w.heap.size:=fun b o ho=>by
  rcases Nat.lt_or_ge b w.heap.size with h | h
  ·exact h
  ·rw[hf b h]at ho;omega
 refine⟨h.os,h.tape,h.output,h.size,fun b=>?_,fun b o ho=>qbd (h.heap b (lt b o ho)),fun b e c hb hm=>by rw[h.heap b (lt b 0 hb)];exact hm⟩
 rcases Nat.lt_or_ge b w.heap.size with h | h
 ·rw[hF b h];exact Nat.le_refl _
 ·rw[hf b h];exact Nat.zero_le _
theorem qcT{P:Program}{f:FuncId}{ds:List D}{r:D}(he:∀ (vs:Array Value) (w:World),(callFunc f vs).run P w = .ok (.enter f vs) w)
  (h:∀ (vals:Array Value) (w:World) (F:Nat->Nat),Laid P w->(∀ b,w.heap.size<=b->F b=0)->RepDL F w ds vals.toList ->
   Calls P f vals w fun e w'=>∃ x,e = .returned x/\Grown w w' /\ ∃ F',(∀ b,b<w.heap.size->F' b=F b)/\(∀ b,w'.heap.size<=b->F' b=0)/\RepD F' w' r x):FnV P f ds r:=by
 intro σ Y s;refine⟨he,fun cx hY L F vals w hh hr=>?_⟩;refine(callsIn_wide.2 (h vals w F (hY.laid _ _ _ hh.hg) hh.fresh (RepVL.inj.1 hr))).mono ?_;rintro e w' ⟨x,rfl,hgr,F',hF,hf',hx⟩;have tr:=hgr.tr hh.fresh hF;refine⟨x,rfl,_,[],s,L,F',⟨⟨rfl,rfl⟩,rfl⟩,⟨cx.stable hh.hg tr hf' fun b hb=>⟨hgr.heap b (hh.csz b hb),hF b (hh.csz b hb)⟩,fun b hb=>Nat.lt_of_lt_of_le (hh.csz b hb) hgr.size,hf',(fun _ _ h=>by cases h),(fun _ _ h=>by cases h),(fun _ _ _ _ h=>by cases h)⟩,hx,tr,fun _ _=>⟨rfl,rfl⟩⟩
theorem enters {P : Program} {f : FuncId} {fn : Func} {c : Code} (hf : P.funcs[f]? = some fn) (hb : fn.body = some c) (hname : (fn.name != "runtime.NumGoroutine") = true) (vs : Array Value) (w : World) : (callFunc f vs).run P w = .ok (.enter f vs) w := by
 simp only[bne_iff_ne,ne_eq]at hname;simp[callFunc,hf,hname,hb,Go.mark]
end Go.PX
namespace Go.PX
open Go.Proofs
open Go.RowKit Go.Proofs
set_option maxHeartbeats 1000000 in
set_option maxRecDepth 100000 in
theorem bld_used(b:Nat)(w:World)(h0:w.cell? ⟨b,0,none⟩=some (.pointer (some ⟨b,0,none⟩))) :
  Calls Tryz.prog 130 #[.pointer (some ⟨b,0,none⟩)] w fun e w'=>e = .returned (.tuple #[])/\w'=w:=by
 obtain⟨j,hj,hjs⟩:=Option.map_eq_some_iff.1 (show(Tryz.prog.info? 188).map (·.size)=some 2 by kernel_rfl)
 go_enter Tryz.func130,Tryz.ntmps130
 go_wp2
 rw[Lib.run_neq_ptr_same w _ Tryz.underlying185 hj]
 go_wp2
 go_end0
 exact⟨rfl,rfl⟩
set_option maxHeartbeats 1000000 in
set_option maxRecDepth 100000 in
theorem bld_fresh(b:Nat)(w:World)(h0:w.cell? ⟨b,0,none⟩=some (.pointer none))(hsh:w.shape? b=some (188,2))(hfz:w.frozen? ⟨b,0,none⟩=false) :
  Calls Tryz.prog 130 #[.pointer (some ⟨b,0,none⟩)] w fun e w'=>e = .returned (.tuple #[])/\w'=w.setCell ⟨b,0,none⟩ (.pointer (some ⟨b,0,none⟩)):=by
 obtain⟨j,hj,hjs⟩:=Option.map_eq_some_iff.1 (show(Tryz.prog.info? 188).map (·.size)=some 2 by kernel_rfl)
 go_enter Tryz.func130,Tryz.ntmps130
 go_wp2
 rw[Lib.run_to_unsafe w ⟨b,0,none⟩ Tryz.underlying185 Tryz.underlying209 hj (by rw[hjs];decide) hsh (Nat.zero_lt_succ 1)];simp only[Result.andThen];rw[Oper.upon_value]
 go_wp2
 rw[run_callFunc_extern Tryz.func139 (by kernel_rfl) (by kernel_rfl) (by kernel_rfl) (e:=Extern.AbiNoEscape.same) (by kernel_rfl)];rw[Lib.run_noEscape];simp only[Result.andThen];rw[Oper.upon_value]
 go_wp2
 rw[Lib.run_from_unsafe w ⟨b,0,none⟩ Tryz.underlying209 Tryz.underlying185 hj hsh (by kernel_rfl)];simp only[Result.andThen];rw[Oper.upon_value]
 go_wp2
 go_end0
 exact⟨rfl,rfl⟩
end Go.PX
namespace Go.PX
open Go.Proofs
open Go.RowKit Go.Proofs
set_option maxHeartbeats 1000000 in
set_option maxRecDepth 100000 in
theorem bld_string(b g cap:Nat)(p:Value)(s:ByteArray)(c:Array Value)(w:World)(hb:w.heap[b]?=some (.cells #[p,.slice (some ⟨g,0,none⟩) s.size cap] 188 (0,0)))(hg:w.heap[g]?=some (.cells c 5 (0,0)))
  (h0:0<s.size) (hcap:s.size<=cap) (hc:s.size<=c.size) (hm:s.size<=140737488355328) (htake:c.toList.take s.size=qL s) :
  Calls Tryz.prog 121 #[.pointer (some ⟨b,0,none⟩)] w fun e w'=>e = .returned (.string s)/\w'=(w.drew).freeze ⟨g,0,none⟩ s.size:=by
 have c1:w.drew.cell? ⟨b,1,none⟩=some (.slice (some ⟨g,0,none⟩) s.size cap):=by
  have:w.drew.heap[b]?=some (.cells #[p,.slice (some ⟨g,0,none⟩) s.size cap] 188 (0,0)):=hb;rw[Lib.cell_of_heap this];rfl
 have hSD:(Builtin.unsafeSliceData_ #[186] 204 #[.slice (some ⟨g,0,none⟩) s.size cap]).run Tryz.prog w.drew = .ok (.pointer (some ⟨g,0,none⟩)) w.drew:=
  Lib.run_unsafeSliceData_row _ _ _ _ _ _ (by omega)
 have hsl:s.data.toList.length=s.size:=by rw[Array.length_toList];rfl
 have hUS:(Builtin.unsafeString_ #[204,3] 9 #[.pointer (some ⟨g,0,none⟩),.int .i64 s.size]).run Tryz.prog w.drew = .ok (.string s) (w.drew.freeze ⟨g,0,none⟩ s.size):=by
  have:=Lib.run_unsafeString_row (P:=Tryz.prog) w.drew 204 3 9 5 Tryz.underlying204 (by kernel_rfl) g c.size (by have hg':w.drew.heap[g]?=some (.cells c 5 (0,0)):=hg;simp[World.shape?,hg']) s.data.toList (by intro e;rw[e]at hsl;simp at hsl;omega) (by omega) (by omega) (by
   intro j x hx;have hj:j<s.size:=by rw[<- hsl];exact(List.getElem?_eq_some_iff.1 hx).1
   have hv:(qL s)[j]?=some (.int .u8 x.toNat):=by simp[qL,hx]
   rw[<- htake,List.getElem?_take_of_lt hj]at hv;have hg':w.drew.heap[g]?=some (.cells c 5 (0,0)):=hg;rw[jl,Nat.zero_add,Lib.cell_of_heap hg'];simpa using hv)
  rw[hsl]at this;exact this
 go_enter Tryz.func121,Tryz.ntmps121
 go_wp2
 go_region
 all_goals (go_wp2;go_ret;exact⟨rfl,rfl⟩)
end Go.PX
namespace Go.PX
open Go.RowKit
theorem HeapOk.turn{σ:Type}{cx:Cx σ}{L:Loc}{F:Nat->Nat}{h:Heap}{s:σ}{w w':World}(hh:HeapOk cx L F h s w)(g:Nat)(hF:F g=0)(hC:¬ cx.C s g)(hos:w'.os=w.os)(ht:w'.tape=w.tape)(hu:w'.output=w.output)
  (hsz:w'.heap.size=w.heap.size) (hk:∀ b,b≠g->w'.heap[b]?=w.heap[b]?) (hne:∀ id o,get h id=some o->Backed L id o->L.ρ id≠g):HeapOk cx L F h s w'/\Tr F w F w':=by
 have tr:Tr F w F w':=.of_keep hos ht hu (by omega) (fun _=>Nat.le_refl _) hh.fresh fun b _ hF'=>hk b (by rintro rfl;omega);exact⟨hh.keep tr (fun b hb=>hh.fresh b (by omega)) (fun b hb=>⟨hk b (by rintro rfl;exact hC hb),rfl⟩) fun id o hi hb=>⟨hk _ (hne id o hi hb),rfl⟩,tr⟩
theorem qgL{P:Program}{f:FuncId}{args:List V}{h0 h1:Heap}{v0:V}(he:∀ (vs:Array Value) (w:World),(callFunc f vs).run P w = .ok (.enter f vs) w)
  (h:∀ {σ:Type} (cx:Cx σ) (L:Loc) (F:Nat->Nat) (s:σ) (vals:Array Value) (w:World),HeapOk cx L F h0 s w->RepVL cx.yv L F w args vals.toList ->
   Calls P f vals w fun e w'=>∃ x,e = .returned x/\HeapOk cx L F h1 s w'/\RepV cx.yv L F w' v0 x/\Tr F w F w'):FnU P f args h0 fun v h'=>v=v0/\h'=h1:=by
 intro σ Y s;refine⟨he,fun cx hY L F vals w hh hr=>?_⟩;refine(callsIn_wide.2 (h cx L F s vals w hh hr)).mono ?_;rintro e w' ⟨x,rfl,hh',hx,tr⟩;exact⟨x,rfl,_,_,s,L,F,⟨⟨rfl,rfl⟩,rfl⟩,hh',hx,tr,fun _ _=>⟨rfl,rfl⟩⟩
section
variable {P : Program} {σ : Type} {Y : Hd σ}
theorem qbV(n:Nat)(ids:List Nat){e:Env}{h h':Heap}{s:σ}{d:Option Nat}{f:FuncId}{args args':List V}{K:St σ->Prop}(hv:qcn (qbG (qI ids h) n) args=args')(hh:qkp h (zX (qI ids h))=h')
  (hk:CallA P Y ⟨e,h',s⟩ d f args' K):CallA P Y ⟨e,h,s⟩ d f args K:=by
 obtain⟨he,hk⟩:=hk;subst hh hv;refine⟨he,fun cx hY r m L F a w vals hg hd hr=>?_⟩;obtain⟨F1,hg1,tr1,hvw⟩:=hg.frzPart2 (h:=qI ids h) (fun i o hi=>jt ids h i o hi) n;rw[qaE]at hg1;refine(hk cx hY r m L F1 a w vals hg1 hd (hvw _ _ hr)).mono ?_;rintro en w' (⟨x,rfl,st',L',F',k1,k2,k3⟩ | ⟨pv,pe,ph,ps,L',F',he,hy,hgp,trp⟩)
 ·exact .inl ⟨x,rfl,st',L',F',k1,k2,Tr.trans tr1 k3⟩
 ·exact .inr ⟨pv,pe,ph,ps,L',F',he,hy,hgp,Tr.trans tr1 trp⟩
end
end Go.PX
namespace Go.PX
open Go.Proofs
open Go.RowKit
theorem qgM{yv:Option Nat}{L:Loc}{F:Nat->Nat}{w:World}{v:V}{vals:Array Value}(h:RepVL yv L F w [v] vals.toList):∃ x,vals = #[x]/\RepV yv L F w v x:=by
 obtain⟨x,l',h1,h2,h3⟩:=h;have h3:l' = []:=h3;subst h3;exact⟨x,Array.ext' h1,h2⟩
def qoP(i:Nat):Heap:=[(i,.tb 188 [.d .nilp,.d .nils])]
def qfq(i k:Nat)(b:ByteArray):Heap:=[(i,.tb 188 [.ptr i 0,.sl k 1 0 b.size]),(k,.buf 5 b)]
theorem qeR(b:ByteArray):FnU Tryz.prog 130 [.ptr 1000000 0] (qfq 1000000 1000001 b) fun v h'=>v = .d (.tup [])/\h'=qfq 1000000 1000001 b:=by
 refine qgL (enters Tryz.func130 rfl (by decide +kernel)) fun {σ} cx L F s vals w hh hr=>?_;obtain⟨x,rfl,hx⟩:=qgM hr;have hx:x = .pointer (some ⟨L.ρ 1000000,0,none⟩):=hx;subst hx;obtain⟨c,hc,hrc⟩:=hh.obj 1000000 _ rfl;obtain⟨x0,l',hl,h0,_⟩:=hrc;have h0:x0 = .pointer (some ⟨L.ρ 1000000,0,none⟩):=h0;subst h0;refine(bld_used (L.ρ 1000000) w (by rw[cell_of_row _ _ _ _ _ _ hc,<- Array.getElem?_toList,hl];rfl)).mono ?_;rintro e w' ⟨rfl,rfl⟩;exact⟨_,rfl,hh,⟨#[],rfl,rfl⟩,Tr.refl F _⟩
theorem pa130_fresh:FnU Tryz.prog 130 [.ptr 1000000 0] (qoP 1000000) fun v h'=>v = .d (.tup [])/\h' = [(1000000,.tb 188 [.ptr 1000000 0,.d .nils])]:=by
 refine qgL (enters Tryz.func130 rfl (by decide +kernel)) fun {σ} cx L F s vals w hh hr=>?_;obtain⟨x,rfl,hx⟩:=qgM hr;have hx:x = .pointer (some ⟨L.ρ 1000000,0,none⟩):=hx;subst hx;obtain⟨c,hc,hrc⟩:=hh.obj 1000000 _ rfl;obtain⟨x0,l',hl,h0,x1,l'',hl',h1,hnil⟩:=hrc;have h0:x0 = .pointer none:=h0;have h1:x1 = .slice none 0 0:=h1;have hnil:l'' = []:=hnil;subst h0 h1 hnil hl';have hc':c = #[.pointer none,.slice none 0 0]:=Array.ext' hl;subst hc';refine(bld_fresh (L.ρ 1000000) w (by rw[cell_of_row _ _ _ _ _ _ hc];rfl) (by simp[World.shape?,hc]) (by simp[World.frozen?,hc])).mono ?_;rintro e w' ⟨rfl,rfl⟩;have hg:Good { cx with pρ:=L.ρ,pκ:=L.κ,base:=[] } none [] L F (⟨[],qoP 1000000,s⟩:St σ) { tmps:=#[],defers:=[] } w:=
  ⟨⟨hh.hg,hh.csz,hh.fresh,hh.obj,hh.own,hh.inj⟩,fun t v ht=>(by cases ht),rfl,(fun b hb=>by cases hb),List.nodup_nil,(fun l hl=>by cases hl),fun _ _=>⟨rfl,rfl⟩,by simp⟩
 have hblk:(w.setCell ⟨L.ρ 1000000,0,none⟩ (.pointer (some ⟨L.ρ 1000000,0,none⟩))).heap[L.ρ 1000000]?=some (.cells #[.pointer (some ⟨L.ρ 1000000,0,none⟩),.slice none 0 0] 188 (0,0)):=by
  simp[World.setCell,Array.getElem?_modify,hc]
 obtain⟨g1,g2⟩:=hg.obj (id:=1000000) (o:=.tb 188 [.ptr 1000000 0,.d .nils]) rfl trivial (w':=w.setCell ⟨L.ρ 1000000,0,none⟩ (.pointer (some ⟨L.ρ 1000000,0,none⟩))) rfl rfl rfl (by simp[World.setCell]) (fun b hb=>by simp[World.setCell,Array.getElem?_modify,Ne.symm hb])
  (by rw[hc];intro ds e;cases e) (by rw[hc];intro lp e;cases e) ⟨_,hblk,_,_,rfl,rfl,_,_,rfl,rfl,rfl⟩
 have g3:=g1.heap;exact⟨_,rfl,⟨g3.hg,g3.csz,g3.fresh,g3.obj,g3.own,g3.inj⟩,⟨#[],rfl,rfl⟩,g2⟩
theorem pa121(b:ByteArray)(h0:0<b.size)(hm:b.size<=140737488355328):FnU Tryz.prog 121 [.ptr 1000000 0] (qfq 1000000 1000001 b) fun v h'=>v = .d (.str b)/\h' = [(1000000,.tb 188 [.ptr 1000000 0,.unk])]:=by
 refine qgL (enters Tryz.func121 rfl (by decide +kernel)) fun {σ} cx L F s vals w hh hr=>?_;obtain⟨x,rfl,hx⟩:=qgM hr;have hx:x = .pointer (some ⟨L.ρ 1000000,0,none⟩):=hx;subst hx;obtain⟨c,hc,hrc⟩:=hh.obj 1000000 _ rfl;obtain⟨x0,l',hl,h0',x1,l'',hl',h1,hnil⟩:=hrc;have h0':x0 = .pointer (some ⟨L.ρ 1000000,0,none⟩):=h0';have hnil:l'' = []:=hnil;subst h0' hnil hl';obtain⟨ad,cap,rfl,hcap,_,hb⟩:=h1
 rcases hb with⟨e,_⟩ | ⟨rfl,hb⟩
 ·omega
 rw[Nat.zero_add,Nat.mul_one]at hb;have hc':c = #[.pointer (some ⟨L.ρ 1000000,0,none⟩),.slice (some ⟨L.ρ 1000001,0,none⟩) b.size cap]:=Array.ext' hl;subst hc';obtain⟨c2,hc2,hk2,hs2,ht2⟩:=hh.obj 1000001 _ rfl;refine(bld_string (L.ρ 1000000) (L.ρ 1000001) cap _ b c2 w hc hc2 h0 hcap hs2 hm ht2).mono ?_;rintro e w' ⟨rfl,rfl⟩;obtain⟨q1,q2⟩:=hh.own 1000001 _ rfl trivial;have hne:L.ρ 1000000≠L.ρ 1000001:=fun e=>by
  have:=hh.inj 1000000 1000001 _ _ rfl rfl trivial trivial e;omega
 have hh2:HeapOk cx L F [(1000000,.tb 188 [.ptr 1000000 0,.unk])] s w:=by
  refine⟨hh.hg,hh.csz,hh.fresh,fun id o ho=>?_,fun id o ho hb=>?_,fun i j o p hi hj hbi hbj e=>?_⟩
  ·obtain⟨rfl,rfl⟩:id=1000000/\o = .tb 188 [.ptr 1000000 0,.unk]:=by
    simp only[get]at ho
    split at ho
    ·rename_i he;cases ho;exact⟨(Nat.eq_of_beq_eq_true he).symm,rfl⟩
    ·cases ho
   exact⟨_,hc,_,_,rfl,rfl,_,_,rfl,rfl,rfl⟩
  ·obtain⟨rfl,rfl⟩:id=1000000/\o = .tb 188 [.ptr 1000000 0,.unk]:=by
    simp only[get]at ho
    split at ho
    ·rename_i he;cases ho;exact⟨(Nat.eq_of_beq_eq_true he).symm,rfl⟩
    ·cases ho
   exact hh.own 1000000 _ rfl trivial
  ·simp only[get]at hi hj
   split at hi
   ·rename_i he
    split at hj
    ·rename_i he2
     rw[<- Nat.eq_of_beq_eq_true he,<- Nat.eq_of_beq_eq_true he2]
    ·cases hj
   ·cases hi
 obtain⟨r1,r2⟩:=hh2.turn (w':=w.drew.freeze ⟨L.ρ 1000001,0,none⟩ b.size) (L.ρ 1000001) q1 q2 (by simp[World.freeze];split<;>rfl) (by simp[World.freeze];split<;>rfl) (by simp[World.freeze];split<;>rfl) (by simp[World.freeze];split<;>simp)
  (fun x hx=>by
   simp only[World.freeze]
   split
   ·rfl
   ·simp[Array.getElem?_modify,Ne.symm hx];rfl) (fun id o ho hb e=>by
   simp only[get]at ho
   split at ho
   ·rename_i he
    rw[<- Nat.eq_of_beq_eq_true he]at e;exact hne e
   ·cases ho)
 exact⟨_,rfl,r1,rfl,r2⟩
end Go.PX
namespace Go.PX
open Go.Proofs
open Go.RowKit
def qoQ(s:ByteArray):D:=.tup [i64 s.size,.nili]
theorem pa119_new(s:ByteArray)(h0:0<s.size)(hm:s.size<=140737488355328):FnU Tryz.prog 119 [.ptr 1000000 0,.d (.str s)] (qoP 1000000) fun v h'=>v = .d (qoQ s)/\h'=qfq 1000000 2000000 s:=by
 intro σ Y st;refine qan mixed qi Tryz.func119 rfl (ft:=qnp) (args:=[.ptr 1000000 0,.d (.str s)]) (show fnB qnp Tryz.f119 2=true from by decide +kernel) ?_;conv=>whnf
 refine qJ pa130_fresh [1000000] rfl ⟨_,_,rfl,rfl,rfl⟩ rfl ?_;conv=>whnf
 refine zo (by simp[h0,hm]) ?_;conv=>whnf
 exact qq [14] [.d (i64 s.size),.d .nili] (qfq 1000000 2000000 s) rfl ⟨rfl,rfl,trivial⟩ rfl ⟨⟨rfl,rfl⟩,rfl⟩
theorem qlR(b s:ByteArray)(h0:0<b.size)(hm:b.size+s.size<=140737488355328):FnU Tryz.prog 119 [.ptr 1000000 0,.d (.str s)] (qfq 1000000 1000001 b) fun v h'=>v = .d (qoQ s)/\h'=qfq 1000000 2000000 (b++s):=by
 intro σ Y st;refine qan mixed qi Tryz.func119 rfl (ft:=qnp) (args:=[.ptr 1000000 0,.d (.str s)]) (show fnB qnp Tryz.f119 2=true from by decide +kernel) ?_;conv=>whnf
 refine qJ (qeR b) [1000000,1000001] rfl ⟨_,_,rfl,rfl,_,_,rfl,rfl,rfl⟩ rfl ?_;conv=>whnf
 refine zo (by simp[h0,hm]) ?_;conv=>whnf
 exact qq [14] [.d (i64 s.size),.d .nili] (qfq 1000000 2000000 (b++s)) rfl ⟨rfl,rfl,trivial⟩ rfl ⟨⟨rfl,rfl⟩,rfl⟩
theorem qoR(b:ByteArray)(h0:0<b.size)(hm:b.size+1<=140737488355328):FnU Tryz.prog 118 [.ptr 1000000 0,.d (.int .u8 10)] (qfq 1000000 1000001 b) fun v h'=>v = .d .nili/\h'=qfq 1000000 2000000 (b++⟨#[10]⟩):=by
 intro σ Y st;refine qan mixed qi Tryz.func118 rfl (ft:=qno) (args:=[.ptr 1000000 0,.d (.int .u8 10)]) (show fnB qno Tryz.f118 2=true from by decide +kernel) ?_;conv=>whnf
 refine qJ (qeR b) [1000000,1000001] rfl ⟨_,_,rfl,rfl,_,_,rfl,rfl,rfl⟩ rfl ?_;conv=>whnf
 refine zo (by simp[h0];exact hm) ?_;conv=>whnf
 exact qq [14] [.d .nili] (qfq 1000000 2000000 (b++⟨#[10]⟩)) rfl ⟨rfl,rfl,trivial⟩ rfl ⟨⟨rfl,rfl⟩,rfl⟩
end Go.PX
namespace Go.PX
open Go.Proofs
def qoe:Nat->Nat->List UInt8
 | 0,_=>[]
 | f+1,u=>if u<10 then [UInt8.ofNat (48+u)] else qoe f (u/10) ++ [UInt8.ofNat (48+u%10)]
theorem qkx:∀ (f u:Nat),u<10^f->0<f->qoe f u=Lib.decDigits u
 | 0,_,_,h=>absurd h (by omega)
 | f+1,u,hu,_=>by
  rw[qoe,Lib.decDigits]
  by_cases h:u<10
  ·rw[if_pos h,dif_pos h]
  ·rw[if_neg h,dif_neg h]
   have h2:u/10<10^f:=by
    rw[Nat.pow_succ]at hu;exact Nat.div_lt_of_lt_mul (by omega)
   have hf:0<f:=by
    rcases Nat.eq_zero_or_pos f with rfl | h3
    ·simp at h2;omega
    ·exact h3
   rw[qkx f (u/10) h2 hf]
theorem qiF:∀ (f u:Nat),(qoe f u).length<=f
 | 0,_=>Nat.le_refl _
 | f+1,u=>by
  rw[qoe]
  split
  ·simp
  ·have:=qiF f (u/10)
   simp;omega
def qoS(n:Int):List UInt8:=if n<0 then 45::qoe 19 n.natAbs else qoe 19 n.toNat
def qky(n:Int):ByteArray:=⟨(qoS n).toArray⟩
theorem numL_eq{n:Int}(h : -1000000000000000000<=n/\n<=1000000000000000000):qoS n=Lib.itoa n:=by
  unfold qoS Lib.itoa
  split
  · rw[qkx 19 n.natAbs (by have:(10:Nat)^19=10000000000000000000:=(by decide);omega) (by omega)]
  · rw[qkx 19 n.toNat (by have:(10:Nat)^19=10000000000000000000:=(by decide);omega) (by omega)]
theorem numB_size(n:Int):(qky n).size<=20:=by
 show(qoS n).toArray.size<=20;rw[List.size_toArray];unfold qoS
 split
 ·have:=qiF 19 n.natAbs;simp;omega
 ·have:=qiF 19 n.toNat;omega
end Go.PX
