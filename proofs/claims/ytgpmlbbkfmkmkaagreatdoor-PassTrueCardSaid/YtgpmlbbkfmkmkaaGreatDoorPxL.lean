import Derived.Test.YtgpmlbbkfmkmkaaGreatDoorPxK
set_option linter.all false
set_option maxRecDepth 10000
namespace Go.PX
open Go.Proofs
def qgM(bs:List PBook):Nat:=(bs.map fun b=>zS b.ents+1).sum
def qpa(l:PLog)(i n:Nat):Nat:=1+n+qgM (l.books.take i)
theorem qeX(b:PBook)(r:List PBook):qgM (b::r)=zS b.ents+1+qgM r:=by
 unfold qgM;rw[List.map_cons,List.sum_cons]
theorem qew(i:Nat)(b:PBook):(qjL i b).length=zS b.ents+1:=by
 unfold qjL;rw[List.length_map,List.length_range]
theorem qhR:∀ (bs:List PBook) (i:Nat),(qbx i bs).length=qgM bs
 | [],_=>rfl
 | b::r,i=>by
  rw[qbx,List.length_append,qew,qhR r,qeX]
theorem qjO:∀ {bs:List PBook} {i0 i:Nat} {b:PBook} {n:Nat},bs[i]?=some b->n<=zS b.ents->(qbx i0 bs)[n+qgM (bs.take i)]?=some ⟨(i0+i:Nat),n⟩
 | [],_,i,b,n,h,_=>by simp at h
 | c::r,i0,0,b,n,h,hn=>by
  rw[List.getElem?_cons_zero]at h
  cases h
  rw[qbx,List.take_zero];show(qjL i0 c++qbx (i0+1) r)[n+0]?=_;rw[Nat.add_zero,List.getElem?_append_left (by rw[qew];omega)];unfold qjL;rw[List.getElem?_map,List.getElem?_range (by omega)];rfl
 | c::r,i0,i+1,b,n,h,hn=>by
  rw[List.getElem?_cons_succ]at h;rw[qbx,List.take_succ_cons,qeX,List.getElem?_append_right (by rw[qew];omega),qew,show n+(zS c.ents+1+qgM (r.take i))-(zS c.ents+1)=n+qgM (r.take i) by omega,qjO (i0:=i0+1) h hn,show i0+1+i=i0+(i+1) by omega]
theorem nodes_at{l:PLog}{i:Nat}{b:PBook}{n:Nat}(h:l.books[i]?=some b)(hn:n<=zS b.ents):(jL l)[qpa l i n]?=some ⟨i,n⟩:=by
 unfold jL qpa;rw[show 1+n+qgM (l.books.take i)=(n+qgM (l.books.take i))+1 by omega,List.getElem?_cons_succ,qjO (i0:=0) h hn,Nat.zero_add]
structure BookR(b:PBook):Prop where
 off : -720<=b.off.lo/\b.off.lo<=b.off.hi/\b.off.hi<=720
 set : -720<=b.set.lo/\b.set.lo<=b.set.hi/\b.set.hi<=720
 ents:b.ents.length<=8
 ent:∀ x∈b.ents,(0<=x.shown/\x.shown<=20000)/\(1<=x.kind/\x.kind<=3)/\(0<=x.number/\x.number<=99)
structure LogR(l:PLog):Prop where
 near:0<=l.near/\l.near<=60
 books:1<=l.books.length/\l.books.length<=3
 book:∀ b∈l.books,BookR b
theorem qoe{wider:Int}{p:Per}{s:Span}{e:zm}(he:e∈jl wider p s)(hs : -720<=s.lo/\s.lo<=s.hi/\s.hi<=720)(hw:0<=wider/\wider<=1048576) : -1100000<=e.w/\e.w<=1100000:=by
 unfold jl at he;simp only[List.mem_cons,List.not_mem_nil,or_false]at he
 rcases he with rfl | rfl
 ·simp only;omega
 ·simp only;omega
theorem just_w{l:PLog}{wider:Int}{conf:List Int}(hR:LogR l)(hw:0<=wider/\wider<=1048576){e:zm}(h:Just l wider conf e) : -1100000<=e.w/\e.w<=1100000:=by
 have sh:∀ {i k b x},At l i k b x->0<=x.shown/\x.shown<=20000:=fun {i k b x} hx=>((hR.book b (List.mem_of_getElem? hx.book)).ent x (List.mem_of_getElem? hx.ent)).1
 cases h with
 | off i b hb e he=>exact qoe he (hR.book b (List.mem_of_getElem? hb)).off hw
 | set i b hb n h1 h2 e he=>exact qoe he (hR.book b (List.mem_of_getElem? hb)).set hw
 | ord i k b x y hx hy=>
  have h1:=sh hx;have h2:=sh hy;show -1100000<=y.shown-x.shown/\y.shown-x.shown<=1100000;omega
 | rep i j m n b c x y num h=>
  have h1:=sh h.ha;have h2:=sh h.hb;show -1100000<=y.shown-x.shown/\y.shown-x.shown<=1100000;omega
theorem qcA(b:PBook):zS b.ents<=b.ents.length:=by
 unfold zS;exact List.length_filter_le _ _
theorem entS_len{l:PLog}{wider:Int}{conf:List Int}{i:Nat}{b:PBook}{pers:List (List Per)}{k:Nat}{y:PEnt}{s:LkE}:(qmt l wider conf i b pers k y s).steps.length<=s.steps.length+3:=by
 have h1:∀ (st:List zm) (e:zm),(if k=0 then st else st ++ [e]).length<=st.length+1:=fun st e=>by split<;>simp
 unfold qmt;simp only;have h2:=h1 s.steps ⟨((s.of ++ [s.now])[k-1]?).getD .right,s.now,y.shown-((b.ents[k-1]?).getD ⟨0,0,.empty,0⟩).shown⟩;generalize (if k=0 then s.steps else s.steps ++ [(⟨((s.of ++ [s.now])[k-1]?).getD .right,s.now,y.shown-((b.ents[k-1]?).getD ⟨0,0,.empty,0⟩).shown⟩:zm)])=st at h2 ⊢
 split
 ·simp only[List.length_append,jl,List.length_cons,List.length_nil];omega
 ·split
  ·split
   ·simp only;omega
   ·split
    ·simp only;omega
    ·simp only[List.length_append,List.length_cons,List.length_nil];omega
  ·simp only;omega
theorem qjP{l:PLog}{wider:Int}{conf:List Int}{i:Nat}{b:PBook}{pers:List (List Per)}:∀ (r:List PEnt) {k:Nat} {s:LkE},(qdT l wider conf i b pers k r s).steps.length<=s.steps.length+3*r.length
 | [],k,s=>Nat.le_refl _
 | y::r,k,s=>by
  rw[qdT,List.length_cons];have h1:=qjP (l:=l) (wider:=wider) (conf:=conf) (i:=i) (b:=b) (pers:=pers) r (k:=k+1) (s:=qmt l wider conf i b pers k y s);have h2:=entS_len (l:=l) (wider:=wider) (conf:=conf) (i:=i) (b:=b) (pers:=pers) (k:=k) (y:=y) (s:=s);omega
theorem qjQ{l:PLog}{wider:Int}{conf:List Int}:∀ (bs:List PBook) {i:Nat} {s:LkS},(∀ b∈bs,b.ents.length<=8)->(qdU l wider conf i bs s).steps.length<=s.steps.length+26*bs.length
 | [],i,s,_=>Nat.le_refl _
 | b::r,i,s,h=>by
  rw[qdU,List.length_cons];have h1:=qjQ (l:=l) (wider:=wider) (conf:=conf) r (i:=i+1) (s:=qgH l wider conf i b s) fun c hc=>h c (by simp[hc]);have h2:=qjP (l:=l) (wider:=wider) (conf:=conf) (i:=i) (b:=b) (pers:=s.pers) b.ents (k:=0) (s:=⟨s.steps++jl wider ⟨i,0⟩ b.off,s.many+1,s.first,⟨i,0⟩,[],[]⟩);have h3:=h b (by simp);have h4:(qgH l wider conf i b s).steps.length<=s.steps.length+2+3*b.ents.length:=by
   refine Nat.le_trans h2 ?_;simp[jl]
  omega
theorem look_len{l:PLog}(hR:LogR l)(wider:Int)(conf:List Int):(qX l wider conf).steps.length<=78:=by
 have:=qjQ (l:=l) (wider:=wider) (conf:=conf) l.books (i:=0) (s:=⟨[],0,[],[]⟩) fun b hb=>(hR.book b hb).ents;have h2:=hR.books;unfold qX;simp only[List.length_nil]at this;omega
def qkJ(m:PM)(B:Int):Prop:=∀ p v,zk m p=some v -> -B<=v/\v<=B
theorem qnj{m:PM×Bool}{s:zm}{B:Int}(h:qkJ m.1 B)(hs : -1100000<=s.w/\s.w<=1100000):qkJ (qeV m s).1 (B+1100000):=by
 have up:qkJ m.1 (B+1100000):=fun p v hv=>by have:=h p v hv;omega
 unfold qeV
 cases h1:zk m.1 s.a with
 | none=>exact up
 | some n=>
  have hn:=h s.a n h1;have hput:qkJ (jw m.1 s.b (n+s.w)) (B+1100000):=fun p v hv=>by
   rw[zw]at hv
   split at hv
   ·cases hv;omega
   ·exact up p v hv
  simp only
  cases h2:zk m.1 s.b with
  | none=>exact hput
  | some x=>
   simp only
   split
   ·exact hput
   ·exact up
end Go.PX
namespace Go.PX
open Go.Proofs
def qY(x:PEnt):D:=if x.kind=1 then .ifc 138 (.agg [.str x.word]) else if x.kind=2 then .ifc 175 (.agg []) else if x.kind=3 then .ifc 156 (.agg [.str x.word,i64 x.number]) else .nili
theorem qnB(x:PEnt):FnV Tryz.prog 83 [x.d] (qY x):=by
 refine qA mixed qj Tryz.func83 rfl (ft:=ft83) 1 (by decide +kernel) (by rfl) fun {σ} Y st=>?_;conv=>whnf
 unfold qY;refine qh (fun h1=>?_) (fun h1=>?_)
 ·rw[if_pos (of_decide_eq_true h1)]
  conv=>whnf
  exact qb 0 rfl ⟨⟨rfl,rfl⟩,rfl⟩
 ·rw[if_neg (of_decide_eq_false h1)]
  conv=>whnf
  refine qh (fun h2=>?_) (fun h2=>?_)
  ·rw[if_pos (of_decide_eq_true h2)]
   conv=>whnf
   exact qb 0 rfl ⟨⟨rfl,rfl⟩,rfl⟩
  ·rw[if_neg (of_decide_eq_false h2)]
   conv=>whnf
   refine qh (fun h3=>?_) (fun h3=>?_)
   ·rw[if_pos (of_decide_eq_true h3)]
    conv=>whnf
    exact qb 0 rfl ⟨⟨rfl,rfl⟩,rfl⟩
   ·rw[if_neg (of_decide_eq_false h3)]
    conv=>whnf
    exact qb 0 rfl ⟨⟨rfl,rfl⟩,rfl⟩
def qbP(n lo hi:Int):Bool:=!inB n lo hi
theorem qkK(lo hi n:Int):FnV Tryz.prog 59 [i64 lo,i64 hi,.vs [[i64 n]]] (.bool (qbP n lo hi)):=FnV.cast (fn51_1 lo hi n) rfl
def qkm(x:PEnt):Int:=
 if qbP x.shown 0 20000 then 7
 else if x.kind=1 then (if qao x.word&&decide (x.number=0) then 0 else 6)
 else if x.kind=2 then (if decide (x.word = .empty)&&decide (x.number=0) then 0 else 6)
 else if x.kind=3 then (if qao x.word && !qbP x.number 1 99 then 0 else 6)
 else 4
theorem pa63(x:PEnt):FnV Tryz.prog 63 [x.d] (i64 (qkm x)):=by
 refine qA mixed qj Tryz.func63 rfl (ft:=ft63) 1 (by decide +kernel) (by rfl) fun {σ} Y st=>?_;conv=>whnf
 refine qq (qkK 0 20000 x.shown) rfl 1 rfl ?_;unfold qkm
 cases h0:qbP x.shown 0 20000 with
 | true=>
  conv=>whnf
  exact qb 0 rfl ⟨⟨rfl,rfl⟩,rfl⟩
 | false=>
  conv=>whnf
  refine qf (qnB x) rfl rfl ?_;conv=>whnf
  have hw0:(x.word=(⟨#[]⟩:ByteArray))↔x.word = .empty:=Iff.rfl
  by_cases h1:x.kind=1
  ·have ht:qY x = .ifc 138 (.agg [.str x.word]):=by unfold qY;rw[if_pos h1]
   rw[ht,if_pos h1];conv=>whnf
   refine qf (qpV x.word) rfl rfl ?_;conv=>whnf
   cases hn:qao x.word with
   | false=>
    conv=>whnf
    exact qb 0 rfl ⟨⟨rfl,rfl⟩,rfl⟩
   | true=>
    conv=>whnf
    generalize decide (x.number=0)=B
    cases B with
    | false=>
     conv=>whnf
     exact qb 0 rfl ⟨⟨rfl,rfl⟩,rfl⟩
    | true=>
     conv=>whnf
     exact qb 0 rfl ⟨⟨rfl,rfl⟩,rfl⟩
  ·rw[if_neg h1]
   by_cases h2:x.kind=2
   ·have ht:qY x = .ifc 175 (.agg []):=by unfold qY;rw[if_neg h1,if_pos h2]
    rw[ht,if_pos h2];conv=>whnf
    have hw1:decide (x.word = .empty)=decide (x.word=(⟨#[]⟩:ByteArray)):=rfl;rw[hw1];generalize decide (x.word=(⟨#[]⟩:ByteArray))=A
    cases A with
    | false=>
     conv=>whnf
     exact qb 0 rfl ⟨⟨rfl,rfl⟩,rfl⟩
    | true=>
     conv=>whnf
     generalize decide (x.number=0)=B
     cases B with
     | false=>
      conv=>whnf
      exact qb 0 rfl ⟨⟨rfl,rfl⟩,rfl⟩
     | true=>
      conv=>whnf
      exact qb 0 rfl ⟨⟨rfl,rfl⟩,rfl⟩
   ·rw[if_neg h2]
    by_cases h3:x.kind=3
    ·have ht:qY x = .ifc 156 (.agg [.str x.word,i64 x.number]):=by unfold qY;rw[if_neg h1,if_neg h2,if_pos h3]
     rw[ht,if_pos h3];conv=>whnf
     refine qf (qpV x.word) rfl rfl ?_;conv=>whnf
     cases hn:qao x.word with
     | false=>
      conv=>whnf
      exact qb 0 rfl ⟨⟨rfl,rfl⟩,rfl⟩
     | true=>
      conv=>whnf
      refine qq (qkK 1 99 x.number) rfl 1 rfl ?_
      cases h4:qbP x.number 1 99 with
      | false=>
       conv=>whnf
       exact qb 0 rfl ⟨⟨rfl,rfl⟩,rfl⟩
      | true=>
       conv=>whnf
       exact qb 0 rfl ⟨⟨rfl,rfl⟩,rfl⟩
    ·have ht:qY x = .nili:=by unfold qY;rw[if_neg h1,if_neg h2,if_neg h3]
     rw[ht,if_neg h3];conv=>whnf
     exact qb 0 rfl ⟨⟨rfl,rfl⟩,rfl⟩
theorem pa62(y x:PBook):FnV Tryz.prog 62 [.agg y.cells,.ref x.cells] (.bool (decide (y.name=x.name))):=by
 refine qA mixed qj Tryz.func62 rfl (ft:=ft62) 2 (by decide +kernel) (by rfl) fun {σ} Y st=>?_;conv=>whnf
 exact qb 0 rfl ⟨⟨rfl,rfl⟩,rfl⟩
theorem pa108(l:List PBook)(g:FuncId)(caps:List D)(p:PBook->Bool)(hl:l.length<4000000000000000000)(hp:∀ x∈l,FnV Tryz.prog g (.agg x.cells::caps) (.bool (p x))) :
  FnV Tryz.prog 108 [qG l,.clo g caps] (i64 (ja p l 0)):=by
 refine qA mixed qj Tryz.func108 rfl (ft:=ft108) 2 (by decide +kernel) (by rfl) fun {σ} Y st=>?_;conv=>whnf
 refine zc (T:=tys) qj (by exact qe mixed qj (by decide +kernel)) l (fun i (_:Unit)=>⟨[(0,.d (qG l)),(1,.d (.clo g caps)),(7,.d (i64 l.length)),(8,.d (i64 i))],[],st⟩) (fun i r _=>ja p l 0=ja p r i) () (Wk.sub (by repeat' first|exact trivial|refine⟨?_,?_⟩|rfl|(simp only[List.length_map];rfl)|simp[PX.get]) trivial) rfl ?_ ?_
 ·intro i x r _ hx hi hr he
  rw[ja]at he;conv=>whnf
  refine qh (fun _=>?_) (fun h=>absurd hi (by simpa using h));conv=>whnf
  refine qr hx ?_;conv=>whnf
  refine qf (hp x (List.mem_of_getElem? hx)) rfl rfl ?_;conv=>whnf
  refine qh (fun h1=>?_) (fun h1=>?_)
  ·conv=>whnf
   rw[he,if_pos h1];exact qb 0 rfl ⟨⟨rfl,rfl⟩,rfl⟩
  ·rw[if_neg (by simp[h1])]at he
   conv=>whnf
   refine qc (qa (by(try dsimp only);omega)) ?_;conv=>whnf
   exact⟨(),he,(Wk.sub (by repeat' first|exact trivial|refine⟨?_,?_⟩|rfl|(simp only[List.length_map];rfl)|simp[PX.get]) trivial)⟩
 ·intro _ he
  conv=>whnf
  refine qh (fun h=>absurd h (by simp)) (fun _=>?_);conv=>whnf
  rw[he];exact qb 0 rfl ⟨⟨rfl,rfl⟩,rfl⟩
theorem pa61(l:List PBook)(g:FuncId)(caps:List D)(p:PBook->Bool)(hl:l.length<4000000000000000000)(hp:∀ x∈l,FnV Tryz.prog g (.agg x.cells::caps) (.bool (p x))) :
  FnV Tryz.prog 61 [qG l,.clo g caps] (.bool (l.any p)):=by
 refine qA mixed qj Tryz.func61 rfl (ft:=ft61) 2 (by decide +kernel) (by rfl) fun {σ} Y st=>?_;conv=>whnf
 refine qf (pa108 l g caps p hl hp) rfl rfl ?_;conv=>whnf
 refine qb 0 rfl ⟨⟨?_,rfl⟩,rfl⟩;rw[<- qbv p l 0 (by omega)];rfl
def qgN(pre:List PBook)(b:PBook):Int:=
 if qao b.name then
  if pre.any (fun x=>decide (x.name=b.name)) then 5
  else if qbP b.off.lo (-720) 720||qbP b.off.hi (-720) 720||qbP b.set.lo (-720) 720||qbP b.set.hi (-720) 720 then 7
  else if decide (b.off.lo>b.off.hi)||decide (b.set.lo>b.set.hi) then 2
  else if b.ents.length>8 then 3 else 0
 else 6
def qdx:List PEnt->Nat->Int×Int
 | [],_=>(0,0)
 | y::r,k=>if qkm y=0 then qdx r (k+1) else (k,qkm y)
def qba:List PBook->List PBook->Nat->Int×Int×Int
 | _,[],_=>(0,0,0)
 | pre,b::r,i=>if qgN pre b=0 then (if (qdx b.ents 0).2=0 then qba (pre ++ [b]) r (i+1) else ((i+1:Nat),(qdx b.ents 0).1,(qdx b.ents 0).2)) else ((i+1:Nat),0,qgN pre b)
def qaq(l:PLog):Int×Int×Int:=
 if qbP l.near 0 60 then (0,0,7) else if qbP l.books.length 1 3 then (0,0,3) else qba [] l.books 0
def qql(x:Int×Int×Int):D:=.tup [i64 x.1,i64 x.2.1,i64 x.2.2]
theorem out_4(lo hi a b c d:Int):FnV Tryz.prog 59 [i64 lo,i64 hi,.vs [[i64 a],[i64 b],[i64 c],[i64 d]]] (.bool (qbP a lo hi||qbP b lo hi||qbP c lo hi||qbP d lo hi)):=FnV.cast (qqk lo hi [a,b,c,d] (by simp)) (by simp[qbP,inB,Bool.or_assoc,Int.not_le];grind)
theorem pa17(l:PLog):FnV Tryz.prog 17 [l.d] (qql (qaq l)):=by
 refine qA mixed qj Tryz.func17 rfl (ft:=ft17) 1 (by decide +kernel) (by rfl) fun {σ} Y st=>?_;conv=>whnf
 unfold qaq;refine qq (qkK 0 60 _) rfl 1 rfl ?_
 cases h0:qbP l.near 0 60 with
 | true=>
  conv=>whnf
  exact qb 0 rfl ⟨⟨rfl,rfl⟩,rfl⟩
 | false=>
  conv=>whnf
  refine qq (qkK 1 3 l.books.length) rfl 1 (by
   show some _=some _;simp[qG]) ?_
  conv=>whnf
  cases h1:qbP l.books.length 1 3 with
  | true=>
   conv=>whnf
   exact qb 0 rfl ⟨⟨rfl,rfl⟩,rfl⟩
  | false=>
   have hlen:l.books.length<=3:=by
    have h1:=h1;unfold qbP inB at h1;simp at h1;omega
   simp only[if_false,Bool.false_eq_true];conv=>whnf
   generalize hK:qba [] l.books 0=K;refine zc (T:=tys) qj (by exact qe mixed qj (by decide +kernel)) l.books (fun i (_:Unit)=>⟨[(1,.ptr 1 0),(21,.d (qG l.books)),(22,.d (i64 l.books.length)),(23,.d (i64 i))],[(1,.box (.dd l.cells))],st⟩)
    (fun i r _=>qba (l.books.take i) r i=K) () (Wk.sub (by repeat' first|exact trivial|refine⟨?_,?_⟩|rfl|(simp only[List.length_map];rfl)|simp[PX.get]) ⟨(by first | rfl | (simp only[List.length_map];rfl) | simp[PX.get]),trivial⟩) hK ?_ ?_
   ·rintro i b r _ hx hi hr he
    rw[qba]at he;have htk:l.books.take (i+1)=l.books.take i ++ [b]:=by rw[List.take_succ,hx];rfl
    conv=>whnf
    refine qh (fun _=>?_) (fun h=>absurd hi (by simpa using h));conv=>whnf
    refine qr hx ?_;conv=>whnf
    refine qf (qpV b.name) rfl rfl ?_;unfold qgN at he
    cases h2:qao b.name with
    | false=>
     rw[h2]at he;simp only[if_false,Bool.false_eq_true]at he;conv=>whnf
     refine qc (qa (by(try dsimp only);omega)) ?_;conv=>whnf
     rw[<- he];exact qb 0 rfl ⟨⟨rfl,rfl⟩,rfl⟩
    | true=>
     rw[h2]at he;simp only[if_true]at he;conv=>whnf
     refine qV (by simp;omega) ?_;conv=>whnf
     refine qV (by cases l.books<;>rfl) ?_;conv=>whnf
     refine qq (ds:=[qG (l.books.take i),.clo 62 [.ref b.cells]]) (pa61 (l.books.take i) 62 [.ref b.cells] (fun y=>decide (y.name=b.name)) (by simp;omega) fun y _=>pa62 y b) rfl 1 (by show some _=some _;simp[qG,List.map_take];rfl) ?_;generalize hany:((l.books.take i).any fun y=>decide (y.name=b.name))=A at he ⊢
     cases A with
     | true=>
      simp only[if_true]at he;conv=>whnf
      refine qc (qa (by(try dsimp only);omega)) ?_;conv=>whnf
      rw[<- he];exact qb 0 rfl ⟨⟨rfl,rfl⟩,rfl⟩
     | false=>
      simp only[if_false,Bool.false_eq_true]at he;conv=>whnf
      refine qq (out_4 (-720) 720 b.off.lo b.off.hi b.set.lo b.set.hi) rfl 1 rfl ?_;generalize (qbP b.off.lo (-720) 720||qbP b.off.hi (-720) 720||qbP b.set.lo (-720) 720||qbP b.set.hi (-720) 720)=A at he ⊢
      cases A with
      | true=>
       simp only[if_true]at he;conv=>whnf
       refine qc (qa (by(try dsimp only);omega)) ?_;conv=>whnf
       rw[<- he];exact qb 0 rfl ⟨⟨rfl,rfl⟩,rfl⟩
      | false=>
       simp only[if_false,Bool.false_eq_true]at he;conv=>whnf
       have e1:decide (b.off.lo>b.off.hi)=decide (b.off.hi<b.off.lo):=rfl;have e2:decide (b.set.lo>b.set.hi)=decide (b.set.hi<b.set.lo):=rfl;rw[e1,e2]at he;generalize decide (b.off.hi<b.off.lo)=A at he ⊢
       cases A with
       | true=>
        simp only[Bool.true_or,if_true]at he;conv=>whnf
        refine qc (qa (by(try dsimp only);omega)) ?_;conv=>whnf
        rw[<- he];exact qb 0 rfl ⟨⟨rfl,rfl⟩,rfl⟩
       | false=>
        simp only[Bool.false_or]at he;conv=>whnf
        generalize decide (b.set.hi<b.set.lo)=B at he ⊢
        cases B with
        | true=>
         simp only[if_true]at he;conv=>whnf
         refine qc (qa (by(try dsimp only);omega)) ?_;conv=>whnf
         rw[<- he];exact qb 0 rfl ⟨⟨rfl,rfl⟩,rfl⟩
        | false=>
         simp only[if_false,Bool.false_eq_true]at he;conv=>whnf
         refine qh (fun h3=>?_) (fun h3=>?_)
         ·have h3:b.ents.length>8:=by have:=of_decide_eq_true h3;simp at this;omega
          rw[if_pos h3]at he;conv=>whnf
          refine qc (qa (by(try dsimp only);omega)) ?_;conv=>whnf
          rw[<- he];exact qb 0 rfl ⟨⟨rfl,rfl⟩,rfl⟩
         ·have h3:¬ b.ents.length>8:=by have:=of_decide_eq_false h3;simp at this;omega
          rw[if_neg h3,if_pos rfl]at he;conv=>whnf
          generalize hE:qdx b.ents 0=E at he;refine zc (T:=tys) qj (by exact qe mixed qj (by decide +kernel)) b.ents (fun k (_:Unit)=>⟨[(1,.ptr 1 0),(21,.d (qG l.books)),(22,.d (i64 l.books.length)),(23,.d (i64 i)),(5,.d (i64 i)),(88,.d (qdw b.ents)),(89,.d (i64 b.ents.length)),(90,.d (i64 k))],[(1,.box (.dd l.cells))],st⟩)
           (fun k r _=>qdx r k=E) () (Wk.sub (by repeat' first|exact trivial|refine⟨?_,?_⟩|rfl|(simp only[List.length_map];rfl)|simp[PX.get]) ⟨(by first | rfl | (simp only[List.length_map];rfl) | simp[PX.get]),trivial⟩) hE ?_ ?_
          ·rintro k y r2 _ hy hk hr2 he2
           rw[qdx]at he2;conv=>whnf
           refine qh (fun _=>?_) (fun h=>absurd hk (by simpa using h));conv=>whnf
           refine qr hy ?_;conv=>whnf
           refine qf (pa63 y) rfl rfl ?_;conv=>whnf
           refine qh (fun h4=>?_) (fun h4=>?_)
           ·have h4:¬ qkm y=0:=by simpa using h4
            rw[if_neg h4]at he2;subst he2;rw[if_neg h4]at he;conv=>whnf
            refine qc (qa (by(try dsimp only);omega)) ?_;conv=>whnf
            rw[<- he];exact qb 0 rfl ⟨⟨rfl,rfl⟩,rfl⟩
           ·have h4:qkm y=0:=by simpa using h4
            rw[if_pos h4]at he2;conv=>whnf
            refine qc (qa (by(try dsimp only);omega)) ?_;conv=>whnf
            exact⟨(),he2,(Wk.sub (by repeat' first|exact trivial|refine⟨?_,?_⟩|rfl|(simp only[List.length_map];rfl)|simp[PX.get]) ⟨(by first | rfl | (simp only[List.length_map];rfl) | simp[PX.get]),trivial⟩)⟩
          ·rintro _ he2
           have he2:((0,0):Int×Int)=E:=he2;subst he2;rw[if_pos rfl,<- htk]at he;conv=>whnf
           refine qh (fun h=>absurd h (by simp)) (fun _=>?_);conv=>whnf
           refine qc (qa (by(try dsimp only);omega)) ?_;conv=>whnf
           exact⟨(),he,(Wk.sub (by repeat' first|exact trivial|refine⟨?_,?_⟩|rfl|(simp only[List.length_map];rfl)|simp[PX.get]) ⟨(by first | rfl | (simp only[List.length_map];rfl) | simp[PX.get]),trivial⟩)⟩
   ·rintro _ he
    rw[qba]at he;subst he;conv=>whnf
    refine qh (fun h=>absurd h (by simp)) (fun _=>?_);conv=>whnf
    exact qb 0 rfl ⟨⟨rfl,rfl⟩,rfl⟩
end Go.PX
namespace Go.PX
open Go.Proofs
section
variable {κ ν : Type} [DecidableEq κ] (kd : κ -> D) (vd : ν -> D)
def kvV(m:List (κ×ν)):List (D×D):=m.map fun p=>(kd p.1,vd p.2)
variable {kd vd}
theorem qn(hs:∀ a b,qcH (kd a) (kd b)=some (decide (a=b))){t:κ}:∀ {m:List (κ×ν)},zk m t=none -> ∀ n,qcI (kd t) (kvV kd vd m) n=some none
 | [],_,n=>rfl
 | (u,x)::r,h,n=>by
  rw[zk]at h
  split at h
  ·cases h
  ·rename_i hu
   show(match qcH (kd t) (kd u) with
    | some true=>some (some (n,vd x))
    | some false=>qcI (kd t) (kvV kd vd r) (n+1)
    | none=>none)=_
   rw[hs,decide_eq_false hu];exact qn hs h (n+1)
theorem qw(hs:∀ a b,qcH (kd a) (kd b)=some (decide (a=b))){t:κ}{v:ν}:∀ {m:List (κ×ν)},zk m t=some v -> ∀ n,∃ i,i<m.length/\qcI (kd t) (kvV kd vd m) n=some (some (n+i,vd v))/\(∀ y,(kvV kd vd m).set i (kd t,vd y)=kvV kd vd (jw m t y))/\setKey (kvV kd vd m) i (kd t)=kvV kd vd m /\ ∀ y,setVal (kvV kd vd m) i (vd y)=kvV kd vd (jw m t y)
 | [],h,n=>by cases h
 | (u,x)::r,h,n=>by
  rw[zk]at h
  split at h
  ·rename_i hu
   cases h
   subst hu;refine⟨0,by simp,?_,fun y=>?_,rfl,fun y=>?_⟩
   ·show(match qcH (kd t) (kd t) with
     | some true=>some (some (n,vd v))
     | some false=>qcI (kd t) (kvV kd vd r) (n+1)
     | none=>none)=_
    rw[hs,decide_eq_true rfl];rfl
   ·rw[jw,if_pos rfl];rfl
   ·rw[jw,if_pos rfl];rfl
  ·rename_i hu
   obtain⟨i,h0,h1,h2,h3,h4⟩:=qw hs h (n+1);refine⟨i+1,by simp;omega,?_,fun y=>?_,?_,fun y=>?_⟩
   ·show(match qcH (kd t) (kd u) with
     | some true=>some (some (n,vd x))
     | some false=>qcI (kd t) (kvV kd vd r) (n+1)
     | none=>none)=_
    rw[hs,decide_eq_false hu];show qcI (kd t) (kvV kd vd r) (n+1)=_;rw[h1,show n+1+i=n+(i+1) by omega]
   ·rw[jw,if_neg hu]
    show(kd u,vd x)::(kvV kd vd r).set i (kd t,vd y)=(kd u,vd x)::kvV kd vd (jw r t y);rw[h2 y]
   ·show(kd u,vd x)::setKey (kvV kd vd r) i (kd t)=_
    rw[h3];rfl
   ·rw[jw,if_neg hu]
    show(kd u,vd x)::setVal (kvV kd vd r) i (vd y)=(kd u,vd x)::kvV kd vd (jw r t y);rw[h4 y]
theorem qS{t:κ}(y:ν):∀ {m:List (κ×ν)},zk m t=none->kvV kd vd m ++ [(kd t,vd y)]=kvV kd vd (jw m t y)
 | [],_=>rfl
 | (u,x)::r,h=>by
  rw[zk]at h
  split at h
  ·cases h
  ·rename_i hu
   rw[jw,if_neg hu];show(kd u,vd x)::(kvV kd vd r ++ [(kd t,vd y)])=_;rw[qS y h];rfl
end
def qx(n:Int):D:=i64 n
theorem zz(a b:Per):qcH a.d b.d=some (decide (a=b)):=by
 show some (decide (a.book=b.book)&&(decide (a.n=b.n)&&true))=_
 congr 1
 cases a;cases b
 simp
theorem qp(a b:Int):qcH (qx a) (qx b)=some (decide (a=b)):=rfl
def pmD(m:PM):List (D×D):=kvV Per.d qx m
def qlK(l:List zm):D:=.vs (l.map qoZ)
def persD(l:List (List Per)):D:=.vs (l.map fun r=>[.vs (r.map Per.cells)])
def lookC(l:PLog)(x:LkS):List D:=[i64 l.near,qG l.books,qlK x.steps,persD x.pers,i64 x.many]
def jJ(l:PLog)(x:LkS):D:=.ref (lookC l x)
end Go.PX
namespace Go.PX
open Go.Proofs
theorem qnK:FnV Tryz.prog 70 [] Per.right.d:=by
 refine qA mixed qj Tryz.func70 rfl (ft:=ft70) 0 (by decide +kernel) (by rfl) fun {σ} Y st=>?_;conv=>whnf
 exact qb 0 rfl ⟨⟨rfl,rfl⟩,rfl⟩
structure LookR(x:LkS):Prop where
 len:x.steps.length<=78
 w:∀ e∈x.steps,-1100000<=e.w/\e.w<=1100000
 many:0<=x.many/\x.many<=30
theorem qpz(l:PLog)(x:LkS)(hR:LookR x)(p:Per):FnV Tryz.prog 69 [jJ l x,p.d] (.tup [if qlE x (qdc x p)=true then .mv (pmD (qdc x p)) else .nilm,.bool (qlE x (qdc x p))]):=by
 refine qA mixed qj Tryz.func69 rfl (ft:=ft69) 2 (by decide +kernel) (by rfl) fun {σ} Y st=>?_;conv=>whnf
 have hlen:=hR.len;have hmany:=hR.many;have hst:x.steps.length<4000000000000000000:=by omega
 refine⟨none,rfl,?_⟩;conv=>whnf
 refine qg (((x.many+2).toNat:Nat):Int) (by omega) (qa (by omega)) ?_;conv=>whnf
 unfold qdc;have hK:(x.many+2).toNat<=32:=by omega
 generalize (x.many+2).toNat=N at hK ⊢;generalize hRES:qbw x.steps N [(p,0)]=RES;refine zM (T:=tys) qj (by exact qe mixed qj (by decide +kernel)) (α:=Nat×PM) (fun z=>⟨[(0,.d (jJ l x)),(6,.mp 16),(23,.d (i64 N)),(24,.d (i64 z.1))],[(16,.map (pmD z.2))],st⟩)
  (fun z=>z.1<=N/\qkJ z.2 (100000000*z.1)/\qbw x.steps (N-z.1) z.2=RES) (fun z=>N-z.1) (0,[(p,0)]) (Wk.sub (by repeat' first|exact trivial|refine⟨?_,?_⟩|rfl|(simp only[List.length_map];rfl)|simp[PX.get]) ⟨(by first | rfl | (simp only[List.length_map];rfl) | simp[PX.get]),trivial⟩) ⟨Nat.zero_le _,?_,by simpa using hRES⟩ ?_
 ·intro q v hv
  simp only at hv;rw[zk]at hv
  split at hv
  ·cases hv;simp
  ·cases hv
 rintro ⟨i,m⟩ ⟨hi,hb,hr⟩;simp only at hi hb hr;conv=>whnf
 refine qh (fun h1=>?_) (fun h1=>?_)
 ·have h1:i<N:=by have:=of_decide_eq_true h1;simp only at this;omega
  obtain⟨f,hf⟩:∃ f,N-i=f+1:=⟨N-i-1,by omega⟩;rw[hf,qbw]at hr;generalize hRM:qgI x.steps m=RM at hr;conv=>whnf
  refine zc (T:=tys) qj (by exact qe mixed qj (by decide +kernel)) x.steps (fun k (y:PM×Bool)=>⟨[(0,.d (jJ l x)),(6,.mp 16),(7,.d (.bool y.2)),(23,.d (i64 N)),(24,.d (i64 i)),(29,.d (qlK x.steps)),(30,.d (i64 x.steps.length)),(31,.d (i64 k))],[(16,.map (pmD y.1))],st⟩)
   (fun k r y=>r.foldl qeV y=RM/\qkJ y.1 (100000000*i+1100000*k)) (m,false) (Wk.sub (by repeat' first|exact trivial|refine⟨?_,?_⟩|rfl|(simp only[List.length_map];rfl)|simp[PX.get]) ⟨(by first | rfl | (simp only[List.length_map];rfl) | simp[PX.get]),trivial⟩) ⟨hRM,by simpa using hb⟩ ?_ ?_
  ·rintro k s r ⟨m1,ch⟩ hs hk hr2 ⟨hfold,hbm⟩
   have hsw:=hR.w s (List.mem_of_getElem? hs);have hb2:=qnj (m:=(m1,ch)) hbm hsw;rw[List.foldl_cons]at hfold;conv=>whnf
   refine qh (fun _=>?_) (fun h=>absurd hk (by simpa using h));conv=>whnf
   refine qr hs ?_;conv=>whnf
   cases h2:zk m1 s.a with
   | none=>
    have ht:qeV (m1,ch) s=(m1,ch):=by unfold qeV;simp only[h2]
    rw[ht]at hfold hb2;refine⟨none,qn (kd:=Per.d) zz h2 0,?_⟩;conv=>whnf
    refine qc (qa (by(try dsimp only);omega)) ?_;conv=>whnf
    exact⟨(m1,ch),⟨hfold,fun q v hv=>by have:=hb2 q v hv;omega⟩,(Wk.sub (by repeat' first|exact trivial|refine⟨?_,?_⟩|rfl|(simp only[List.length_map];rfl)|simp[PX.get]) ⟨(by first | rfl | (simp only[List.length_map];rfl) | simp[PX.get]),trivial⟩)⟩
   | some n=>
    have hn:=hbm s.a n h2;obtain⟨ix,_,hx1,_⟩:=qw (kd:=Per.d) (vd:=qx) zz h2 0;refine⟨_,hx1,?_⟩;conv=>whnf
    cases h3:zk m1 s.b with
    | none=>
     have ht:qeV (m1,ch) s=(jw m1 s.b (n+s.w),true):=by unfold qeV;simp only[h2,h3]
     refine⟨none,qn (kd:=Per.d) zz h3 0,?_⟩;conv=>whnf
     refine qc (qa (by(try dsimp only);omega)) ?_;conv=>whnf
     refine⟨none,qn (kd:=Per.d) zz h3 0,?_⟩;rw[ht]at hfold hb2;conv=>whnf
     refine qc (qa (by(try dsimp only);omega)) ?_;conv=>whnf
     refine⟨(jw m1 s.b (n+s.w),true),⟨hfold,fun q v hv=>by have:=hb2 q v hv;omega⟩,Wk.sub ⟨rfl,rfl,rfl,rfl,rfl,rfl,rfl,rfl,trivial⟩ ⟨?_,trivial⟩⟩;exact congrArg (fun z=>some (Obj.map z)) (qS (kd:=Per.d) (vd:=qx) (n+s.w) h3)
    | some v2=>
     obtain⟨iy,_,hy1,hy2,_⟩:=qw (kd:=Per.d) (vd:=qx) zz h3 0;refine⟨_,hy1,?_⟩;conv=>whnf
     refine qc (qa (by(try dsimp only);omega)) ?_;conv=>whnf
     refine qh (fun h4=>?_) (fun h4=>?_)
     ·have h4:n+s.w<v2:=of_decide_eq_true h4
      have ht:qeV (m1,ch) s=(jw m1 s.b (n+s.w),true):=by unfold qeV;simp only[h2,h3];rw[if_pos h4]
      conv=>whnf
      refine qc (qa (by(try dsimp only);omega)) ?_;conv=>whnf
      refine⟨_,hy1,?_⟩;rw[ht]at hfold hb2;conv=>whnf
      refine qc (qa (by(try dsimp only);omega)) ?_;conv=>whnf
      refine⟨(jw m1 s.b (n+s.w),true),⟨hfold,fun q v hv=>by have:=hb2 q v hv;omega⟩,Wk.sub ⟨rfl,rfl,rfl,rfl,rfl,rfl,rfl,rfl,trivial⟩ ⟨?_,trivial⟩⟩
      (show some (Obj.map ((pmD m1).set (0+iy) (s.b.d,i64 (n+s.w))))=_);rw[Nat.zero_add];exact congrArg (fun z=>some (Obj.map z)) (hy2 (n+s.w))
     ·have h4:¬ n+s.w<v2:=of_decide_eq_false h4
      have ht:qeV (m1,ch) s=(m1,ch):=by unfold qeV;simp only[h2,h3];rw[if_neg h4]
      rw[ht]at hfold hb2;conv=>whnf
      refine qc (qa (by(try dsimp only);omega)) ?_;conv=>whnf
      exact⟨(m1,ch),⟨hfold,fun q v hv=>by have:=hb2 q v hv;omega⟩,(Wk.sub (by repeat' first|exact trivial|refine⟨?_,?_⟩|rfl|(simp only[List.length_map];rfl)|simp[PX.get]) ⟨(by first | rfl | (simp only[List.length_map];rfl) | simp[PX.get]),trivial⟩)⟩
  ·rintro ⟨m1,ch⟩ ⟨hfold,hbm⟩
   have hfold:(m1,ch)=RM:=hfold;conv=>whnf
   refine qh (fun h=>absurd h (by simp)) (fun _=>?_);conv=>whnf
   refine qh (fun h2=>?_) (fun h2=>?_)
   ·have h2:ch=false:=by simpa using h2
    subst h2;rw[<- hfold]at hr;simp only[if_false,Bool.false_eq_true]at hr;subst hr;have hbT:qkJ m1 10000000000:=fun q v hv=>by have:=hbm q v hv;omega
    clear hbm;conv=>whnf
    refine zc (T:=tys) qj (by exact qe mixed qj (by decide +kernel)) x.steps (fun k (_:Unit)=>⟨[(0,.d (jJ l x)),(6,.mp 16),(75,.d (qlK x.steps)),(76,.d (i64 x.steps.length)),(77,.d (i64 k))],[(16,.map (pmD m1))],st⟩)
     (fun k r _=>qlE x m1=r.all fun s=>decide (atM m1 s.b<=atM m1 s.a+s.w)) () (Wk.sub (by repeat' first|exact trivial|refine⟨?_,?_⟩|rfl|(simp only[List.length_map];rfl)|simp[PX.get]) ⟨(by first | rfl | (simp only[List.length_map];rfl) | simp[PX.get]),trivial⟩) rfl ?_ ?_
    ·rintro k s r _ hs hk hr2 hall
     have hsw:=hR.w s (List.mem_of_getElem? hs);rw[List.all_cons]at hall;conv=>whnf
     refine qh (fun _=>?_) (fun h=>absurd hk (by simpa using h));conv=>whnf
     refine qr hs ?_;conv=>whnf
     have hba:=hbT s.a;have hbb:=hbT s.b
     cases h2:zk m1 s.a with
     | none=>
      have e1:atM m1 s.a=0:=by unfold atM;rw[h2];rfl
      rw[e1]at hall;refine⟨none,qn (kd:=Per.d) zz h2 0,?_⟩;conv=>whnf
      refine qc (qa (by(try dsimp only);omega)) ?_;conv=>whnf
      cases h3:zk m1 s.b with
      | none=>
       have e2:atM m1 s.b=0:=by unfold atM;rw[h3];rfl
       rw[e2]at hall;refine⟨none,qn (kd:=Per.d) zz h3 0,?_⟩;conv=>whnf
       refine qh (fun h4=>?_) (fun h4=>?_)
       ·have h4:0+s.w<0:=of_decide_eq_true h4
        rw[decide_eq_false (by omega),Bool.false_and]at hall;rw[hall];simp only[if_false,Bool.false_eq_true];conv=>whnf
        exact qb 0 rfl ⟨⟨rfl,rfl⟩,rfl⟩
       ·have h4:¬ 0+s.w<0:=of_decide_eq_false h4
        rw[decide_eq_true (by omega),Bool.true_and]at hall;conv=>whnf
        refine qc (qa (by(try dsimp only);omega)) ?_;conv=>whnf
        exact⟨(),hall,(Wk.sub (by repeat' first|exact trivial|refine⟨?_,?_⟩|rfl|(simp only[List.length_map];rfl)|simp[PX.get]) ⟨(by first | rfl | (simp only[List.length_map];rfl) | simp[PX.get]),trivial⟩)⟩
      | some v2=>
       have e2:atM m1 s.b=v2:=by unfold atM;rw[h3];rfl
       rw[e2]at hall;obtain⟨iy,_,hy1,_⟩:=qw (kd:=Per.d) (vd:=qx) zz h3 0;refine⟨_,hy1,?_⟩;conv=>whnf
       refine qh (fun h4=>?_) (fun h4=>?_)
       ·have h4:0+s.w<v2:=of_decide_eq_true h4
        rw[decide_eq_false (by omega),Bool.false_and]at hall;rw[hall];simp only[if_false,Bool.false_eq_true];conv=>whnf
        exact qb 0 rfl ⟨⟨rfl,rfl⟩,rfl⟩
       ·have h4:¬ 0+s.w<v2:=of_decide_eq_false h4
        rw[decide_eq_true (by omega),Bool.true_and]at hall;conv=>whnf
        refine qc (qa (by(try dsimp only);omega)) ?_;conv=>whnf
        exact⟨(),hall,(Wk.sub (by repeat' first|exact trivial|refine⟨?_,?_⟩|rfl|(simp only[List.length_map];rfl)|simp[PX.get]) ⟨(by first | rfl | (simp only[List.length_map];rfl) | simp[PX.get]),trivial⟩)⟩
     | some n=>
      have hn:=hba n h2;have e1:atM m1 s.a=n:=by unfold atM;rw[h2];rfl
      rw[e1]at hall;obtain⟨ix,_,hx1,_⟩:=qw (kd:=Per.d) (vd:=qx) zz h2 0;refine⟨_,hx1,?_⟩;conv=>whnf
      refine qc (qa (by(try dsimp only);omega)) ?_;conv=>whnf
      cases h3:zk m1 s.b with
      | none=>
       have e2:atM m1 s.b=0:=by unfold atM;rw[h3];rfl
       rw[e2]at hall;refine⟨none,qn (kd:=Per.d) zz h3 0,?_⟩;conv=>whnf
       refine qh (fun h4=>?_) (fun h4=>?_)
       ·have h4:n+s.w<0:=of_decide_eq_true h4
        rw[decide_eq_false (by omega),Bool.false_and]at hall;rw[hall];simp only[if_false,Bool.false_eq_true];conv=>whnf
        exact qb 0 rfl ⟨⟨rfl,rfl⟩,rfl⟩
       ·have h4:¬ n+s.w<0:=of_decide_eq_false h4
        rw[decide_eq_true (by omega),Bool.true_and]at hall;conv=>whnf
        refine qc (qa (by(try dsimp only);omega)) ?_;conv=>whnf
        exact⟨(),hall,(Wk.sub (by repeat' first|exact trivial|refine⟨?_,?_⟩|rfl|(simp only[List.length_map];rfl)|simp[PX.get]) ⟨(by first | rfl | (simp only[List.length_map];rfl) | simp[PX.get]),trivial⟩)⟩
      | some v2=>
       have e2:atM m1 s.b=v2:=by unfold atM;rw[h3];rfl
       rw[e2]at hall;obtain⟨iy,_,hy1,_⟩:=qw (kd:=Per.d) (vd:=qx) zz h3 0;refine⟨_,hy1,?_⟩;conv=>whnf
       refine qh (fun h4=>?_) (fun h4=>?_)
       ·have h4:n+s.w<v2:=of_decide_eq_true h4
        rw[decide_eq_false (by omega),Bool.false_and]at hall;rw[hall];simp only[if_false,Bool.false_eq_true];conv=>whnf
        exact qb 0 rfl ⟨⟨rfl,rfl⟩,rfl⟩
       ·have h4:¬ n+s.w<v2:=of_decide_eq_false h4
        rw[decide_eq_true (by omega),Bool.true_and]at hall;conv=>whnf
        refine qc (qa (by(try dsimp only);omega)) ?_;conv=>whnf
        exact⟨(),hall,(Wk.sub (by repeat' first|exact trivial|refine⟨?_,?_⟩|rfl|(simp only[List.length_map];rfl)|simp[PX.get]) ⟨(by first | rfl | (simp only[List.length_map];rfl) | simp[PX.get]),trivial⟩)⟩
    ·rintro _ hall
     have hall:qlE x m1=true:=hall;rw[hall];simp only[if_true];conv=>whnf
     refine qh (fun h=>absurd h (by simp)) (fun _=>?_);conv=>whnf
     refine qb 1 (ds:=[.mv (pmD m1),.bool true]) (qm (qfG rfl) rfl) ⟨⟨rfl,rfl⟩,rfl⟩
   ·have h2:ch=true:=by simpa using h2
    subst h2;rw[<- hfold]at hr;simp only[if_true]at hr;conv=>whnf
    refine qc (qa (by(try dsimp only);omega)) ?_;conv=>whnf
    exact⟨(i+1,m1),by simp only;omega,⟨by simp only;omega,fun q v hv=>by have:=hbm q v hv;simp only;omega,by simp only;rw[show N-(i+1)=f by omega];exact hr⟩,(Wk.sub (by repeat' first|exact trivial|refine⟨?_,?_⟩|rfl|(simp only[List.length_map];rfl)|simp[PX.get]) ⟨(by first | rfl | (simp only[List.length_map];rfl) | simp[PX.get]),trivial⟩)⟩
 ·have h1:¬ i<N:=by have:=of_decide_eq_false h1;simp only at this;omega
  have hm:m=RES:=by rw[show N-i=0 by omega,qbw]at hr;exact hr
  subst hm;have hbT:qkJ m 10000000000:=fun q v hv=>by have:=hb q v hv;omega
  clear hb;conv=>whnf
  refine zc (T:=tys) qj (by exact qe mixed qj (by decide +kernel)) x.steps (fun k (_:Unit)=>⟨[(0,.d (jJ l x)),(6,.mp 16),(75,.d (qlK x.steps)),(76,.d (i64 x.steps.length)),(77,.d (i64 k))],[(16,.map (pmD m))],st⟩)
   (fun k r _=>qlE x m=r.all fun s=>decide (atM m s.b<=atM m s.a+s.w)) () (Wk.sub (by repeat' first|exact trivial|refine⟨?_,?_⟩|rfl|(simp only[List.length_map];rfl)|simp[PX.get]) ⟨(by first | rfl | (simp only[List.length_map];rfl) | simp[PX.get]),trivial⟩) rfl ?_ ?_
  ·rintro k s r _ hs hk hr2 hall
   have hsw:=hR.w s (List.mem_of_getElem? hs);rw[List.all_cons]at hall;conv=>whnf
   refine qh (fun _=>?_) (fun h=>absurd hk (by simpa using h));conv=>whnf
   refine qr hs ?_;conv=>whnf
   have hba:=hbT s.a;have hbb:=hbT s.b
   cases h2:zk m s.a with
   | none=>
    have e1:atM m s.a=0:=by unfold atM;rw[h2];rfl
    rw[e1]at hall;refine⟨none,qn (kd:=Per.d) zz h2 0,?_⟩;conv=>whnf
    refine qc (qa (by(try dsimp only);omega)) ?_;conv=>whnf
    cases h3:zk m s.b with
    | none=>
     have e2:atM m s.b=0:=by unfold atM;rw[h3];rfl
     rw[e2]at hall;refine⟨none,qn (kd:=Per.d) zz h3 0,?_⟩;conv=>whnf
     refine qh (fun h4=>?_) (fun h4=>?_)
     ·have h4:0+s.w<0:=of_decide_eq_true h4
      rw[decide_eq_false (by omega),Bool.false_and]at hall;rw[hall];simp only[if_false,Bool.false_eq_true];conv=>whnf
      exact qb 0 rfl ⟨⟨rfl,rfl⟩,rfl⟩
     ·have h4:¬ 0+s.w<0:=of_decide_eq_false h4
      rw[decide_eq_true (by omega),Bool.true_and]at hall;conv=>whnf
      refine qc (qa (by(try dsimp only);omega)) ?_;conv=>whnf
      exact⟨(),hall,(Wk.sub (by repeat' first|exact trivial|refine⟨?_,?_⟩|rfl|(simp only[List.length_map];rfl)|simp[PX.get]) ⟨(by first | rfl | (simp only[List.length_map];rfl) | simp[PX.get]),trivial⟩)⟩
    | some v2=>
     have e2:atM m s.b=v2:=by unfold atM;rw[h3];rfl
     rw[e2]at hall;obtain⟨iy,_,hy1,_⟩:=qw (kd:=Per.d) (vd:=qx) zz h3 0;refine⟨_,hy1,?_⟩;conv=>whnf
     refine qh (fun h4=>?_) (fun h4=>?_)
     ·have h4:0+s.w<v2:=of_decide_eq_true h4
      rw[decide_eq_false (by omega),Bool.false_and]at hall;rw[hall];simp only[if_false,Bool.false_eq_true];conv=>whnf
      exact qb 0 rfl ⟨⟨rfl,rfl⟩,rfl⟩
     ·have h4:¬ 0+s.w<v2:=of_decide_eq_false h4
      rw[decide_eq_true (by omega),Bool.true_and]at hall;conv=>whnf
      refine qc (qa (by(try dsimp only);omega)) ?_;conv=>whnf
      exact⟨(),hall,(Wk.sub (by repeat' first|exact trivial|refine⟨?_,?_⟩|rfl|(simp only[List.length_map];rfl)|simp[PX.get]) ⟨(by first | rfl | (simp only[List.length_map];rfl) | simp[PX.get]),trivial⟩)⟩
   | some n=>
    have hn:=hba n h2;have e1:atM m s.a=n:=by unfold atM;rw[h2];rfl
    rw[e1]at hall;obtain⟨ix,_,hx1,_⟩:=qw (kd:=Per.d) (vd:=qx) zz h2 0;refine⟨_,hx1,?_⟩;conv=>whnf
    refine qc (qa (by(try dsimp only);omega)) ?_;conv=>whnf
    cases h3:zk m s.b with
    | none=>
     have e2:atM m s.b=0:=by unfold atM;rw[h3];rfl
     rw[e2]at hall;refine⟨none,qn (kd:=Per.d) zz h3 0,?_⟩;conv=>whnf
     refine qh (fun h4=>?_) (fun h4=>?_)
     ·have h4:n+s.w<0:=of_decide_eq_true h4
      rw[decide_eq_false (by omega),Bool.false_and]at hall;rw[hall];simp only[if_false,Bool.false_eq_true];conv=>whnf
      exact qb 0 rfl ⟨⟨rfl,rfl⟩,rfl⟩
     ·have h4:¬ n+s.w<0:=of_decide_eq_false h4
      rw[decide_eq_true (by omega),Bool.true_and]at hall;conv=>whnf
      refine qc (qa (by(try dsimp only);omega)) ?_;conv=>whnf
      exact⟨(),hall,(Wk.sub (by repeat' first|exact trivial|refine⟨?_,?_⟩|rfl|(simp only[List.length_map];rfl)|simp[PX.get]) ⟨(by first | rfl | (simp only[List.length_map];rfl) | simp[PX.get]),trivial⟩)⟩
    | some v2=>
     have e2:atM m s.b=v2:=by unfold atM;rw[h3];rfl
     rw[e2]at hall;obtain⟨iy,_,hy1,_⟩:=qw (kd:=Per.d) (vd:=qx) zz h3 0;refine⟨_,hy1,?_⟩;conv=>whnf
     refine qh (fun h4=>?_) (fun h4=>?_)
     ·have h4:n+s.w<v2:=of_decide_eq_true h4
      rw[decide_eq_false (by omega),Bool.false_and]at hall;rw[hall];simp only[if_false,Bool.false_eq_true];conv=>whnf
      exact qb 0 rfl ⟨⟨rfl,rfl⟩,rfl⟩
     ·have h4:¬ n+s.w<v2:=of_decide_eq_false h4
      rw[decide_eq_true (by omega),Bool.true_and]at hall;conv=>whnf
      refine qc (qa (by(try dsimp only);omega)) ?_;conv=>whnf
      exact⟨(),hall,(Wk.sub (by repeat' first|exact trivial|refine⟨?_,?_⟩|rfl|(simp only[List.length_map];rfl)|simp[PX.get]) ⟨(by first | rfl | (simp only[List.length_map];rfl) | simp[PX.get]),trivial⟩)⟩
  ·rintro _ hall
   have hall:qlE x m=true:=hall;rw[hall];simp only[if_true];conv=>whnf
   refine qh (fun h=>absurd h (by simp)) (fun _=>?_);conv=>whnf
   refine qb 1 (ds:=[.mv (pmD m),.bool true]) (qm (qfG rfl) rfl) ⟨⟨rfl,rfl⟩,rfl⟩
end Go.PX
namespace Go.PX
open Go.Proofs
theorem qlL{x:LkS}(hR:LookR x):∀ (l:List zm) {y:PM×Bool} {B:Int},(∀ e∈l,e∈x.steps)->qkJ y.1 B->qkJ (l.foldl qeV y).1 (B+1100000*l.length)
 | [],y,B,_,h=>by simpa using h
 | s::r,y,B,hl,h=>by
  rw[List.foldl_cons];have:=qlL hR r (fun e he=>hl e (by simp[he])) (qnj h (hR.w s (hl s (by simp))));intro p v hv;have:=this p v hv;rw[List.length_cons];omega
theorem qhS{x:LkS}(hR:LookR x):∀ (k:Nat) {m:PM} {B:Int},qkJ m B->0<=B->qkJ (qbw x.steps k m) (B+100000000*k)
 | 0,m,B,h,_=>by rw[qbw];simpa using h
 | k+1,m,B,h,hB=>by
  have h1:=qlL hR x.steps (y:=(m,false)) (fun e he=>he) h;have hl:=hR.len;have h2:qkJ (qgI x.steps m).1 (B+100000000):=fun p v hv=>by have:=h1 p v hv;omega
  rw[qbw]
  split
  ·intro p v hv
   have:=qhS hR k h2 (by omega) p v hv;omega
  ·intro p v hv
   have:=h2 p v hv;omega
theorem far_bnd{x:LkS}(hR:LookR x)(p:Per):qkJ (qdc x p) 4000000000:=by
 have h0:qkJ [(p,(0:Int))] 0:=fun q v hv=>by
  rw[zk]at hv
  split at hv
  ·cases hv;simp
  ·cases hv
 have:=qhS hR (x.many+2).toNat h0 (Int.le_refl 0);have hm:=hR.many;intro q v hv;have:=this q v hv;omega
theorem qjR{x:LkS}(hR:LookR x)(p q:Per) : -4000000000<=atM (qdc x p) q/\atM (qdc x p) q<=4000000000:=by
 unfold atM
 cases h:zk (qdc x p) q with
 | none=>simp
 | some v=>exact far_bnd hR p q v h
theorem qkL(m:PM)(q:Per):∃ r,qcI q.d (pmD m) 0=some r/\((r=none/\atM m q=0) \/ ∃ i,r=some (i,i64 (atM m q))):=by
 cases h:zk m q with
 | none=>exact⟨none,qn (kd:=Per.d) zz h 0,.inl ⟨rfl,by unfold atM;rw[h];rfl⟩⟩
 | some v=>
  obtain⟨ix,_,hx,_⟩:=qw (kd:=Per.d) (vd:=qx) zz h 0;exact⟨_,hx,.inr ⟨0+ix,by unfold atM;rw[h];rfl⟩⟩
theorem qqm(l:PLog)(x:LkS)(hR:LookR x)(p q:Per)(hp:qlE x (qdc x p)=true)(hq:qlE x (qdc x q)=true):FnV Tryz.prog 72 [jJ l x,p.d,q.d] (zq x p q).d:=by
 refine qA mixed qj Tryz.func72 rfl (ft:=ft72) 3 (by decide +kernel) (by rfl) fun {σ} Y st=>?_;conv=>whnf
 have h1:FnV Tryz.prog 69 [jJ l x,q.d] (.tup [.mv (pmD (qdc x q)),.bool true]):=FnV.cast (fun {σ}=>qpz l x hR q) (by rw[hq];rfl);have h2:FnV Tryz.prog 69 [jJ l x,p.d] (.tup [.mv (pmD (qdc x p)),.bool true]):=FnV.cast (fun {σ}=>qpz l x hR p) (by rw[hp];rfl);have hb:=qjR hR p q;refine qf (h1) rfl rfl ?_;conv=>whnf
 refine qf (h2) rfl rfl ?_;conv=>whnf
 obtain⟨r1,hr1,hc1⟩:=qkL (qdc x p) q;refine⟨r1,hr1,?_⟩
 rcases hc1 with⟨rfl,e1⟩ | ⟨i1,rfl⟩
 ·conv=>whnf
  refine qc (qa (by(try dsimp only);omega)) ?_;conv=>whnf
  obtain⟨r2,hr2,hc2⟩:=qkL (qdc x q) p;refine⟨r2,hr2,?_⟩
  rcases hc2 with⟨rfl,e2⟩ | ⟨i2,rfl⟩
  ·have hd:(zq x p q).d = .agg [i64 (0-0),i64 0]:=by unfold zq;rw[e2,Int.zero_sub];rw[e1];rfl
   rw[hd];conv=>whnf
   exact qb 0 rfl ⟨⟨rfl,rfl⟩,rfl⟩
  ·have hd:(zq x p q).d = .agg [i64 (0-0),i64 (atM (qdc x q) p)]:=by unfold zq;rw[Int.zero_sub];rw[e1];rfl
   rw[hd];conv=>whnf
   exact qb 0 rfl ⟨⟨rfl,rfl⟩,rfl⟩
 ·conv=>whnf
  refine qc (qa (by(try dsimp only);omega)) ?_;conv=>whnf
  obtain⟨r2,hr2,hc2⟩:=qkL (qdc x q) p;refine⟨r2,hr2,?_⟩
  rcases hc2 with⟨rfl,e2⟩ | ⟨i2,rfl⟩
  ·have hd:(zq x p q).d = .agg [i64 (0-atM (qdc x p) q),i64 0]:=by unfold zq;rw[e2,Int.zero_sub];rfl
   rw[hd];conv=>whnf
   exact qb 0 rfl ⟨⟨rfl,rfl⟩,rfl⟩
  ·have hd:(zq x p q).d = .agg [i64 (0-atM (qdc x p) q),i64 (atM (qdc x q) p)]:=by unfold zq;rw[Int.zero_sub];rfl
   rw[hd];conv=>whnf
   exact qb 0 rfl ⟨⟨rfl,rfl⟩,rfl⟩
end Go.PX
namespace Go.PX
open Go.Proofs
def qcF(l:PLog)(i:Int):PBook:=(l.books[i.toNat]?).getD ⟨.empty,⟨0,0⟩,⟨0,0⟩,[]⟩
def qB(l:PLog):Int:=(qaq l).2.2
def qjS(l:PLog):Bool×Int:=if qB l=0 then (qaV l 0 [],0) else (false,qB l)
def qhi(l:PLog)(book:Int):List Span:=(List.range (zS (qcF l book).ents+1)).map fun(n:Nat)=>zq (qX l 0 []) ⟨book,n⟩ .right
def qiL(l:PLog)(book:Int):List Span×Int:=
 if qB l=0 then
  if qbP book 0 ((l.books.length:Int)-1) then ([],4)
  else if qaV l 0 [] then (qhi l book,0) else ([],9)
 else ([],qB l)
def qkn(l:PLog)(x:PAt):Bool:=!qbP x.book 0 ((l.books.length:Int)-1) && !qbP x.entry 0 (((qcF l x.book).ents.length:Int)-1)
def qbf(l:PLog)(xs:List PAt):Int:=if qB l=0 then (if xs.all (qkn l) then 0 else 4) else qB l
def qgO(l:PLog)(xs:List PAt):Int:=if qbf l xs=0 then (if qaV l 0 [] then 0 else 9) else qbf l xs
def qkM(l:PLog)(x:PAt):Per:=qjI (qX l 0 []).pers x
def qeY(l:PLog)(x:PAt):Span:=
 ⟨(qcb l x).shown-(zq (qX l 0 []) (qkM l x) .right).hi,(qcb l x).shown-(zq (qX l 0 []) (qkM l x) .right).lo⟩
def qgP(l:PLog)(x:PAt):Span×Int:=if qgO l [x]=0 then (qeY l x,0) else (⟨0,0⟩,qgO l [x])
def qay(l:PLog)(a b:PAt):Span:=
 ⟨((qcb l b).shown-(qcb l a).shown)-(zq (qX l 0 []) (qkM l b) (qkM l a)).hi,((qcb l b).shown-(qcb l a).shown)-(zq (qX l 0 []) (qkM l b) (qkM l a)).lo⟩
def qgQ(s:Span):Int:=if s=⟨0,0⟩ then 3 else if 0<s.lo then 1 else if s.hi<0 then 2 else 0
def qde(l:PLog)(a b:PAt):Span×Int×Int:=if qgO l [a,b]=0 then (qay l a b,qgQ (qay l a b),0) else (⟨0,0⟩,0,qgO l [a,b])
def qmg(l:PLog)(x:PAt)(i k:Nat)(y:PEnt):Bool:=
 !decide ((i:Int)=x.book)&&(decide (y.kind=1)&&(decide (y.word=(qcb l x).word)&&(decide ((qay l x ⟨i,k⟩).lo<=l.near)&&decide (-l.near<=(qay l x ⟨i,k⟩).hi))))
def qgR(l:PLog)(x:PAt)(i:Nat):Nat->List PEnt->List PAt
 | _,[]=>[]
 | k,y::r=>if qmg l x i k y then ⟨i,k⟩::qgR l x i (k+1) r else qgR l x i (k+1) r
def qcd(l:PLog)(x:PAt):Nat->List PBook->List PAt
 | _,[]=>[]
 | i,b::r=>qgR l x i 0 b.ents++qcd l x (i+1) r
def qmh(l:PLog)(x:PAt):List PAt×Int:=
 if qbf l [x]=0 then
  if (qcb l x).kind=1 then (if qaV l 0 [] then (qcd l x 0 l.books,0) else ([],9)) else ([],2)
 else ([],qbf l [x])
def jy(does:Int->Bool):Nat->Int->Int->Int
 | 0,_,hi=>hi
 | k+1,lo,hi=>if hi-lo>1 then (if does ((lo+hi)/2) then jy does k lo ((lo+hi)/2) else jy does k ((lo+hi)/2) hi) else hi
def qdy(l:PLog):Int×Int:=
 if qB l=0 then (if qaV l 1048576 [] then (jy (fun w=>qaV l w []) 40 (-1) 1048576,0) else (0,9)) else (0,qB l)
def qko(b:PBook)(n:Int):Nat:=(b.ents.filter fun y=>decide (y.kind=3/\y.number=n)).length
def inN(l:PLog)(n:Int):Nat:=(l.books.filter fun b=>decide (0<qko b n)).length
def qnL(l:PLog)(n:Int):Nat:=(l.books.map fun b=>qko b n).foldl max 0
def jN(l:PLog):List Int:=((List.range' 0 100).map fun(n:Nat)=>(n:Int)).filter fun n=>decide (1<inN l n)
def qaz(of:List Int):Nat->List Int->Nat->List (List Int)
 | 0,p,_=>[p]
 | left+1,p,start=>(List.range' start (of.length-left-start)).flatMap fun(i:Nat)=>qaz of left (p ++ [(of[i]?).getD 0]) (i+1)
def qhT(of:List Int):List (List Int):=(List.range' 0 (of.length+1)).flatMap fun(n:Nat)=>qaz of n [] 0
def qex(l:PLog):List Int×Int:=
 if qB l=0 then (match (qhT (jN l)).find? (qaV l 0) with
  | some c=>(c,0)
  | none=>([],9)) else ([],qB l)
def qjT(l:PLog):List PEnt:=(l.books.flatMap PBook.ents).filter fun y=>decide (y.kind=3)
def qft:List (Int×ByteArray)->List PEnt->Bool
 | _,[]=>false
 | m,y::r=>match zk m y.number with
  | some w=>if w=y.word then qft (jw m y.number y.word) r else true
  | none=>qft (jw m y.number y.word) r
def qiM(l:PLog):Int:=(qjT l).foldl (fun m y=>max m y.number) 0
def qpb(l:PLog):List Int:=((List.range' 1 (qiM l).toNat).map fun(n:Nat)=>(n:Int)).filter fun n=>decide (inN l n=0)
def qpc(l:PLog):List Int:=((List.range' 1 (qiM l).toNat).map fun(n:Nat)=>(n:Int)).filter fun n=>decide (inN l n≠0)&&decide (1<qnL l n)
def qpd(l:PLog):List Int×List Int×Int:=
 if qB l=0 then (if qft [] (qjT l) then ([],[],5) else (qpb l,qpc l,0)) else ([],[],qB l)
theorem qlM:∀ {r:List PEnt} {k:Nat},(∀ x∈r,qkm x=0)->qdx r k=(0,0)
 | [],_,_=>rfl
 | y::r,k,h=>by rw[qdx,if_pos (h y (List.mem_cons_self ..))];exact qlM fun x hx=>h x (List.mem_cons_of_mem _ hx)
theorem qlN:∀ {r:List PEnt} {k:Nat},(qdx r k).2=0 -> ∀ x∈r,qkm x=0
 | [],_,_,x,hx=>by cases hx
 | y::r,k,h,x,hx=>by
  rw[qdx]at h
  split at h
  ·rename_i h1
   rcases List.mem_cons.1 hx with rfl | hx
   ·exact h1
   ·exact qlN h x hx
  ·rename_i h1;exact absurd h h1
theorem qhU:∀ {bs pre:List PBook} {i:Nat},(qba pre bs i).2.2=0 ↔ ∀ k b,bs[k]?=some b->qgN (pre++bs.take k) b=0 /\ ∀ x∈b.ents,qkm x=0
 | [],pre,i=>by simp[qba]
 | c::r,pre,i=>by
  rw[qba]
  by_cases h1:qgN pre c=0
  ·rw[if_pos h1]
   by_cases h2:(qdx c.ents 0).2=0
   ·rw[if_pos h2,qhU]
    constructor
    ·intro h k b hb
     cases k with
     | zero=>
      rw[List.getElem?_cons_zero]at hb
      cases hb
      rw[List.take_zero,List.append_nil];exact⟨h1,qlN h2⟩
     | succ k=>
      rw[List.getElem?_cons_succ]at hb;have:=h k b hb;rw[List.take_succ_cons]
      rwa [List.append_assoc]at this
    ·intro h k b hb
     have:=h (k+1) b (by rw[List.getElem?_cons_succ];exact hb);rw[List.take_succ_cons]at this
     rwa [List.append_assoc]
   ·rw[if_neg h2]
    constructor
    ·intro h;exact absurd h h2
    ·intro h
     have:=(h 0 c rfl).2;exact absurd (by rw[qlM this]) h2
  ·rw[if_neg h1]
   constructor
   ·intro h;exact absurd h h1
   ·intro h
    have:=(h 0 c rfl).1;rw[List.take_zero,List.append_nil]at this;exact absurd this h1
theorem qnk{n lo hi:Int}:inB n lo hi=true↔lo<=n/\n<=hi:=by
 unfold inB;rw[Bool.and_eq_true,decide_eq_true_eq,decide_eq_true_eq]
theorem zA{n lo hi:Int}:qbP n lo hi=false↔lo<=n/\n<=hi:=by
 unfold qbP;rw[Bool.not_eq_false',qnk]
theorem qce{l:PLog}:qB l=0↔(0<=l.near/\l.near<=60)/\(1<=l.books.length/\l.books.length<=3) /\ ∀ k b,l.books[k]?=some b->qgN (l.books.take k) b=0 /\ ∀ x∈b.ents,qkm x=0:=by
 unfold qB qaq
 cases h1:qbP l.near 0 60 with
 | true=>
  simp only[if_true];constructor
  ·intro h;cases h
  ·intro h
   have:=zA.2 h.1;rw[h1]at this;cases this
 | false=>
  simp only[Bool.false_eq_true,if_false];have h1:=zA.1 h1
  cases h2:qbP l.books.length 1 3 with
  | true=>
   simp only[if_true];constructor
   ·intro h;cases h
   ·intro h
    have:=zA (n:=l.books.length) (lo:=1) (hi:=3) |>.2 (by omega)
    rw[h2]at this;cases this
  | false=>
   simp only[Bool.false_eq_true,if_false];have h2:=zA.1 h2;rw[qhU];simp only[List.nil_append];exact⟨fun h=>⟨h1,by omega,h⟩,fun h=>h.2.2⟩
theorem qby{l:PLog}(h:qB l=0):qaq l=(0,0,0):=by
 have key:∀ {bs pre:List PBook} {i:Nat},(qba pre bs i).2.2=0->qba pre bs i=(0,0,0):=by
  intro bs
  induction bs with
  | nil=>intros;rfl
  | cons c r ih=>
   intro pre i h;rw[qba]at h ⊢
   by_cases h1:qgN pre c=0
   ·rw[if_pos h1]at h ⊢
    by_cases h2:(qdx c.ents 0).2=0
    ·rw[if_pos h2]at h ⊢
     exact ih h
    ·rw[if_neg h2]at h;exact absurd h h2
   ·rw[if_neg h1]at h;exact absurd h h1
 have hi:=qce.1 h;have h1:=zA.2 hi.1;have h2:=zA (n:=l.books.length) (lo:=1) (hi:=3) |>.2 (by omega)
 unfold qB qaq at h;unfold qaq;rw[h1,h2]at h ⊢;simp only[Bool.false_eq_true,if_false]at h ⊢;exact key h
structure EntR(x:PEnt):Prop where
 shown:0<=x.shown/\x.shown<=20000
 kind:1<=x.kind/\x.kind<=3
 number:0<=x.number/\x.number<=99
 pass:x.kind=1->qao x.word=true/\x.number=0
 set:x.kind=2->x.word = .empty/\x.number=0
 rep:x.kind=3->qao x.word=true/\1<=x.number
theorem qiN{x:PEnt}:qkm x=0↔EntR x:=by
 unfold qkm
 cases h0:qbP x.shown 0 20000 with
 | true=>
  simp only[if_true];refine⟨fun h=>(by cases h),fun h=>?_⟩;have:=zA.2 h.shown;rw[h0]at this;cases this
 | false=>
  have h0:=zA.1 h0;simp only[Bool.false_eq_true,if_false]
  by_cases h1:x.kind=1
  ·rw[if_pos h1]
   constructor
   ·intro h
    split at h
    case isFalse=>cases h
    rename_i h2;rw[Bool.and_eq_true,decide_eq_true_eq]at h2;exact⟨h0,by omega,by omega,fun _=>h2,fun h=>by omega,fun h=>by omega⟩
   ·intro h
    rw[if_pos (by rw[(h.pass h1).1,decide_eq_true (h.pass h1).2];rfl)]
  ·rw[if_neg h1]
   by_cases h2:x.kind=2
   ·rw[if_pos h2]
    constructor
    ·intro h
     split at h
     case isFalse=>cases h
     rename_i h3;rw[Bool.and_eq_true,decide_eq_true_eq,decide_eq_true_eq]at h3;exact⟨h0,by omega,by omega,fun h=>by omega,fun _=>h3,fun h=>by omega⟩
    ·intro h
     rw[if_pos (by rw[decide_eq_true (h.set h2).1,decide_eq_true (h.set h2).2];rfl)]
   ·rw[if_neg h2]
    by_cases h3:x.kind=3
    ·rw[if_pos h3]
     constructor
     ·intro h
      split at h
      case isFalse=>cases h
      rename_i h4;rw[Bool.and_eq_true,Bool.not_eq_true',zA]at h4;exact⟨h0,by omega,by omega,fun h=>by omega,fun h=>by omega,fun _=>⟨h4.1,h4.2.1⟩⟩
     ·intro h
      have:=zA (n:=x.number) (lo:=1) (hi:=99) |>.2 ⟨(h.rep h3).2,h.number.2⟩
      rw[if_pos (by rw[(h.rep h3).1,this];rfl)]
    ·rw[if_neg h3]
     exact⟨fun h=>(by cases h),fun h=>by have:=h.kind;omega⟩
structure HeadR(pre:List PBook)(b:PBook):Prop where
 name:qao b.name=true
 fresh:∀ x∈pre,x.name≠b.name
 off : -720<=b.off.lo/\b.off.lo<=b.off.hi/\b.off.hi<=720
 set : -720<=b.set.lo/\b.set.lo<=b.set.hi/\b.set.hi<=720
 ents:b.ents.length<=8
theorem qdf{pre:List PBook}{b:PBook}:qgN pre b=0↔HeadR pre b:=by
 unfold qgN
 cases h1:qao b.name with
 | false=>
  simp only[Bool.false_eq_true,if_false];exact⟨fun h=>(by cases h),fun h=>by rw[h.name]at h1;cases h1⟩
 | true=>
  simp only[if_true]
  cases h2:pre.any fun x=>decide (x.name=b.name) with
  | true=>
   simp only[if_true];refine⟨fun h=>(by cases h),fun h=>?_⟩;rw[List.any_eq_true]at h2;obtain⟨x,hx,he⟩:=h2;exact absurd (of_decide_eq_true he) (h.fresh x hx)
  | false=>
   simp only[Bool.false_eq_true,if_false];have hfr:∀ x∈pre,x.name≠b.name:=fun x hx he=>by
    rw[List.any_eq_false]at h2;exact h2 x hx (decide_eq_true he)
   cases h3:qbP b.off.lo (-720) 720||qbP b.off.hi (-720) 720||qbP b.set.lo (-720) 720||qbP b.set.hi (-720) 720 with
   | true=>
    simp only[if_true];refine⟨fun h=>(by cases h),fun h=>?_⟩;have ho:=h.off;have hs:=h.set;rw[zA.2 (by omega),zA.2 (by omega),zA.2 (by omega),zA.2 (by omega)]at h3
    cases h3
   | false=>
    simp only[Bool.or_eq_false_iff,zA]at h3;simp only[Bool.false_eq_true,if_false]
    cases h4:decide (b.off.lo>b.off.hi)||decide (b.set.lo>b.set.hi) with
    | true=>
     simp only[if_true];refine⟨fun h=>(by cases h),fun h=>?_⟩;have ho:=h.off;have hs:=h.set;rw[decide_eq_false (by omega),decide_eq_false (by omega)]at h4
     cases h4
    | false=>
     simp only[Bool.or_eq_false_iff,decide_eq_false_iff_not]at h4;simp only[Bool.false_eq_true,if_false]
     split
     ·rename_i h5
      exact⟨fun h=>(by cases h),fun h=>by have:=h.ents;omega⟩
     ·exact⟨fun _=>⟨h1,hfr,by omega,by omega,by omega⟩,fun _=>rfl⟩
theorem zX{l:PLog}(h:qB l=0):LogR l:=by
 obtain⟨h1,h2,h3⟩:=qce.1 h;refine⟨h1,h2,fun b hb=>?_⟩;obtain⟨k,hk⟩:=List.getElem?_of_mem hb;obtain⟨h4,h5⟩:=h3 k b hk;have h4:=qdf.1 h4;exact⟨h4.off,h4.set,h4.ents,fun x hx=>by have:=qiN.1 (h5 x hx);exact⟨this.shown,this.kind,this.number⟩⟩
theorem qhV{l:PLog}(hR:LogR l){w:Int}(hw:0<=w/\w<=1048576)(conf:List Int):LookR (qX l w conf):=by
 refine⟨look_len hR w conf,fun e he=>just_w hR hw (qlJ e he),?_⟩;have h:=qiJ (N:=jL l) (l:=l) (wider:=w) (conf:=conf) (by simp[jL]) l.books (i:=0) (done:=[]) (s:=⟨[],0,[],[]⟩) ⟨fun e he=>(by cases he),fun x hx=>(by cases hx),rfl,fun p hp=>(by cases hp)⟩ (fun p hp=>List.mem_cons_of_mem _ hp);have hm:(qX l w conf).many=((qbx 0 l.books).length:Nat):=by have:=h.many;rwa [List.nil_append]at this
 rw[hm,qhR];have key:∀ bs:List PBook,(∀ b∈bs,BookR b)->qgM bs<=9*bs.length:=by
  intro bs
  induction bs with
  | nil=>intro _;exact Nat.le_refl _
  | cons b r ih=>
   intro h;have:=ih fun c hc=>h c (List.mem_cons_of_mem _ hc);have h2:=qcA b;have h3:=(h b (List.mem_cons_self ..)).ents;rw[qeX,List.length_cons];omega
 have:=key l.books hR.book;have:=hR.books;omega
theorem qar{l:PLog}{x:PAt}:qkn l x=true ↔ ∃ (i k:Nat) (b:PBook) (y:PEnt),x=⟨i,k⟩/\At l i k b y:=by
 unfold qkn;rw[Bool.and_eq_true,Bool.not_eq_true',Bool.not_eq_true',zA,zA];constructor
 ·rintro ⟨⟨h1,h2⟩,h3,h4⟩
  obtain⟨b,hb⟩:∃ b,l.books[x.book.toNat]?=some b:=⟨_,List.getElem?_eq_getElem (by omega)⟩;have hba:qcF l x.book=b:=by unfold qcF;rw[hb];rfl
  rw[hba]at h4;obtain⟨y,hy⟩:∃ y,b.ents[x.entry.toNat]?=some y:=⟨_,List.getElem?_eq_getElem (by omega)⟩;refine⟨x.book.toNat,x.entry.toNat,b,y,?_,hb,hy⟩
  cases x
  simp only[PAt.mk.injEq];simp only at h1 h3;omega
 ·rintro ⟨i,k,b,y,rfl,h⟩
  have h1:=(List.getElem?_eq_some_iff.1 h.book).1;have h2:=(List.getElem?_eq_some_iff.1 h.ent).1;have hba:qcF l ((⟨i,k⟩:PAt).book)=b:=by unfold qcF;simp only[Int.toNat_natCast,h.book,Option.getD_some]
  rw[hba];simp only;omega
theorem qdg{l:PLog}{i k:Nat}{b:PBook}{y:PEnt}(h:At l i k b y):qkM l ⟨i,k⟩=⟨i,qK b k⟩:=
 qap h ((qev l 0 []).pers.2 i b h.book (qni h))
theorem qiO{l:PLog}{i n:Nat}{b:PBook}(h:l.books[i]?=some b)(hn:n<=zS b.ents):(⟨i,n⟩:Per)∈jL l:=List.mem_of_getElem? (nodes_at h hn)
theorem qas{l:PLog}{x:PAt}(h0:qkn l x=true):qkM l x∈jL l:=by
 obtain⟨i,k,b,y,rfl,h⟩:=qar.1 h0;rw[qdg h];exact qiO h.book (qdu b k)
theorem qcf(l:PLog):Per.right∈jL l:=List.mem_cons_self ..
theorem qiP{l:PLog}{w:Int}{conf:List Int}(hf:qaV l w conf=true){p:Per}(hp:p∈jL l):qlE (qX l w conf) (qdc (qX l w conf) p)=true:=by
 have hs:=qgK l w conf;exact(hs.fit hp).2 ((hs.fit hs.right).1 hf)
end Go.PX
namespace Go.PX
open Go.Proofs
structure TruthX(l:PLog)(w:Int)(conf:List Int)(t:Per->Int):Prop where
 right:t .right=0
 off:∀ (i:Nat) b,l.books[i]?=some b->b.off.lo-w<=t ⟨i,0⟩/\t ⟨i,0⟩<=b.off.hi+w
 set:∀ (i:Nat) b (n:Nat),l.books[i]?=some b->1<=n->n<=zS b.ents->b.set.lo-w<=t ⟨i,n⟩/\t ⟨i,n⟩<=b.set.hi+w
 ord:∀ (i k:Nat) b x y,At l i k b x->At l i (k+1) b y->x.shown-t ⟨i,qK b k⟩<=y.shown-t ⟨i,qK b (k+1)⟩
 rep:∀ (i j m n:Nat) b c x y num,Rep l conf i j m n b c x y num->x.shown-t ⟨i,qK b m⟩=y.shown-t ⟨j,qK c n⟩
theorem qiQ{w:Int}{p:Per}{s:Span}{t:Per->Int}(h0:t .right=0):(∀ e∈jl w p s,t e.b<=t e.a+e.w)↔s.lo-w<=t p/\t p<=s.hi+w:=by
 unfold jl;constructor
 ·intro h
  have h1:=h _ (List.mem_cons_self ..);have h2:=h ⟨p,.right,w-s.lo⟩ (by simp);simp only at h1 h2;omega
 ·intro h e he
  simp only[List.mem_cons,List.not_mem_nil,or_false]at he
  rcases he with rfl | rfl
  ·simp only;omega
  ·simp only;omega
theorem qgS{l:PLog}{w:Int}{conf:List Int}{t:Per->Int}:Truth l w conf t↔TruthX l w conf t:=by
 constructor
 ·intro h
  refine⟨h.right,fun i b hb=>(qiQ h.right).1 fun e he=>h.ok e (.off i b hb e he),fun i b n hb h1 h2=>(qiQ h.right).1 fun e he=>h.ok e (.set i b hb n h1 h2 e he),fun i k b x y hx hy=>?_,fun i j m n b c x y num hr=>?_⟩
  ·have:=h.ok _ (.ord i k b x y hx hy)
   unfold qdd at this;simp only at this;omega
  ·have h1:=h.ok _ (.rep i j m n b c x y num hr)
   have h2:=h.ok _ (.rep j i n m c b y x num ⟨hr.hb,hr.ha,hr.fb,hr.fa,hr.no⟩);unfold qdd at h1 h2;simp only at h1 h2;omega
 ·intro h
  refine⟨h.right,fun e he=>?_⟩
  cases he with
  | off i b hb e he=>exact(qiQ h.right).2 (h.off i b hb) e he
  | set i b hb n h1 h2 e he=>exact(qiQ h.right).2 (h.set i b n hb h1 h2) e he
  | ord i k b x y hx hy=>
   have:=h.ord i k b x y hx hy;unfold qdd;simp only;omega
  | rep i j m n b c x y num hr=>
   have:=h.rep i j m n b c x y num hr;unfold qdd;simp only;omega
theorem qdh{l:PLog}{w:Int}{conf:List Int}:qaV l w conf=true ↔ ∃ t,TruthX l w conf t:=by
 rw[fits_iff];constructor
 ·rintro ⟨t,h⟩;exact⟨t,qgS.1 h⟩
 ·rintro ⟨t,h⟩;exact⟨t,qgS.2 h⟩
def qof(l:PLog)(w:Int)(conf:List Int)(p q:Per):Int:=atM (qdc (qX l w conf) p) q
theorem qhW{l:PLog}{w:Int}{conf:List Int}{t:Per->Int}(ht:TruthX l w conf t){p q:Per}(hp:p∈jL l)(hq:q∈jL l):t q-t p<=qof l w conf p q:=by
 have:=(ahead_in (qdh.2 ⟨t,ht⟩) (qgS.2 ht) hq hp).2;exact this
def qgT(l:PLog)(t:Per->Int)(x:PAt):Int:=(qcb l x).shown-t (qkM l x)
theorem apartS_eq(l:PLog)(a b:PAt):qay l a b=⟨((qcb l b).shown-(qcb l a).shown)-qof l 0 [] (qkM l a) (qkM l b),((qcb l b).shown-(qcb l a).shown)+qof l 0 [] (qkM l b) (qkM l a)⟩:=by
 unfold qay zq qof;simp only[Int.sub_neg]
theorem instS_eq(l:PLog)(x:PAt):qeY l x=⟨(qcb l x).shown-qof l 0 [] .right (qkM l x),(qcb l x).shown+qof l 0 [] (qkM l x) .right⟩:=by
 unfold qeY zq qof;simp only[Int.sub_neg]
theorem apart_in{l:PLog}{t:Per->Int}(ht:TruthX l 0 [] t){a b:PAt}(ha:qkn l a=true)(hb:qkn l b=true):(qay l a b).lo<=qgT l t b-qgT l t a/\qgT l t b-qgT l t a<=(qay l a b).hi:=by
 have h1:=qhW ht (qas ha) (qas hb);have h2:=qhW ht (qas hb) (qas ha);rw[apartS_eq];unfold qgT;simp only;omega
theorem inst_in{l:PLog}{t:Per->Int}(ht:TruthX l 0 [] t){x:PAt}(hx:qkn l x=true):(qeY l x).lo<=qgT l t x/\qgT l t x<=(qeY l x).hi:=by
 have h1:=qhW ht (qas hx) (qcf l);have h2:=qhW ht (qcf l) (qas hx);have h0:=ht.right;rw[instS_eq];unfold qgT;simp only;omega
theorem setsN_app(a r:List PEnt):zS (a++r)=zS a+zS r:=by
 unfold zS;rw[List.filter_append,List.length_append]
end Go.PX
namespace Go.PX
open Go.Proofs
def zj(l:List Int)(n:Nat):Int:=(l[n%l.length]?).getD 0
def qaf(s:Span)(n:Int):Int:=s.lo+n%(s.hi-s.lo+1)
theorem qaR{s:Span}(h:s.lo<=s.hi)(n:Int):s.lo<=qaf s n/\qaf s n<=s.hi:=by
 unfold qaf;have h1:=Int.emod_nonneg n (show s.hi-s.lo+1≠0 by omega);have h2:=Int.emod_lt_of_pos n (show 0<s.hi-s.lo+1 by omega);omega
structure TdE where
 ents:List PEnt
 times:List Int
 mine:List Int
 off:Int
 now:Int
 w:List Int
def atW(w:List Int)(n:Int):Int:=(w[n.toNat]?).getD 0
def qnl(s:TdE)(z:PEnt):Bool:=decide (z.kind=3)&&(zi s.ents z.number 0).isNone
def toF(y:List Int)(b i:Nat)(z:PEnt)(s:TdE):Int:=
 if qnl s z&&decide (0<atW s.w z.number) then atW s.w z.number else s.now+zj y (5*b+i+1)%60
def qkp(y:List Int)(b i:Nat)(z:PEnt)(s:TdE):Bool:=decide (toF y b i z s<s.now)||(decide (toF y b i z s+s.off<0)||decide (20000<toF y b i z s+s.off))
def tdE(x y:List Int)(b i:Nat)(set:Span)(z:PEnt)(s:TdE):TdE:=
 if qkp y b i z s then s else
  ⟨s.ents ++ [{ z with shown:=toF y b i z s+s.off }],s.times ++ [toF y b i z s],
   if z.kind=2 then s.mine ++ [qaf set (zj x (7*b+i+1))] else s.mine,
   if z.kind=2 then qaf set (zj x (7*b+i+1)) else s.off,
   toF y b i z s,
   if qnl s z then s.w.set z.number.toNat (toF y b i z s) else s.w⟩
def qnm(x y:List Int)(b:Nat)(set:Span):Nat->List PEnt->TdE->TdE
 | _,[],s=>s
 | i,z::r,s=>qnm x y b set (i+1) r (tdE x y b i set z s)
structure TdS where
 books:List PBook
 times:List (List Int)
 offs:List (List Int)
 w:List Int
def qmi(x y:List Int)(b:Nat)(bk:PBook)(w:List Int):TdE:=⟨[],[],[qaf bk.off (zj x (7*b))],qaf bk.off (zj x (7*b)),1000+zj y (5*b)%100,w⟩
def tdB(x y:List Int)(b:Nat)(bk:PBook)(s:TdS):TdS:=
 let e:=qnm x y b bk.set 0 bk.ents (qmi x y b bk s.w)
 ⟨s.books ++ [{ bk with ents:=e.ents }],s.times ++ [e.times],s.offs ++ [e.mine],e.w⟩
def qpe(x y:List Int):Nat->List PBook->TdS->TdS
 | _,[],s=>s
 | b,bk::r,s=>qpe x y (b+1) r (tdB x y b bk s)
def qeZ(l:PLog)(x y:List Int):TdS:=qpe x y 0 l.books ⟨[],[],[],List.replicate 100 0⟩
def qpf(l:PLog)(x y:List Int):PLog:=⟨l.near,(qeZ l x y).books⟩
structure BookT(b:PBook)(T O w:List Int):Prop where
 tl:T.length=b.ents.length
 ol:O.length=zS b.ents+1
 off:∀ o,O[0]?=some o->b.off.lo<=o/\o<=b.off.hi
 set:∀ (n:Nat) o,1<=n->O[n]?=some o->b.set.lo<=o/\o<=b.set.hi
 time:∀ (k:Nat) e,b.ents[k]?=some e -> ∃ o,O[qK b k]?=some o/\T[k]?=some (e.shown-o)
 ord:∀ (k:Nat) u v,T[k]?=some u->T[k+1]?=some v->u<=v
 rep:∀ num (m:Nat),zi b.ents num 0=some m -> ∃ u,T[m]?=some u/\0<u/\atW w num=u
 ent:∀ e∈b.ents,EntR e
structure TdI(off set:Span)(s:TdE)(name:ByteArray):Prop where
 book:BookT ⟨name,off,set,s.ents⟩ s.times s.mine s.w
 last:s.mine[zS s.ents]?=some s.off
 le:∀ (k:Nat) u,s.times[k]?=some u->u<=s.now
 pos:0<s.now
 wl:s.w.length=100
theorem qgU{n:Int}{y:PEnt}:∀ {r:List PEnt} {k:Nat},zi (r ++ [y]) n k=match zi r n k with
  | some m=>some m
  | none=>if y.kind=3/\y.number=n then some (k+r.length) else none
 | [],k=>by
  rw[List.nil_append,zi,zi]
  split<;>simp[zi]
 | z::r,k=>by
  rw[List.cons_append,zi,zi]
  split
  ·rfl
  ·rw[qgU (r:=r) (k:=k+1)]
   cases zi r n (k+1) with
   | some m=>rfl
   | none=>
    simp only[List.length_cons];rw[show k+1+r.length=k+(r.length+1) by omega]
theorem perOf_snoc{name:ByteArray}{off set:Span}{r:List PEnt}{y:PEnt}{k:Nat}(hk:k<=r.length):qK ⟨name,off,set,r ++ [y]⟩ k=qK ⟨name,off,set,r⟩ k:=by
 unfold qK;simp only;rw[List.take_append_of_le_length hk]
theorem qnn{w:List Int}{n m v:Int}(hn:0<=n)(hn9:n.toNat<w.length)(hm:0<=m):atW (w.set n.toNat v) m=if m=n then v else atW w m:=by
 unfold atW;rw[List.getElem?_set]
 by_cases h:m=n
 ·subst h
  rw[if_pos rfl,if_pos hn9,if_pos rfl];rfl
 ·rw[if_neg (by omega),if_neg h]
theorem td_step{x y:List Int}{b i:Nat}{off set:Span}{name:ByteArray}{z:PEnt}{s:TdE}(hset:set.lo<=set.hi)(hz:EntR z)(hy:∀ n∈y,0<=n)(h:TdI off set s name):TdI off set (tdE x y b i set z s) name/\(∀ n,0<=n->0<atW s.w n->atW (tdE x y b i set z s).w n=atW s.w n):=by
 have hturn:∀ n,0<=zj y n:=fun n=>by
  unfold zj
  cases h:y[n%y.length]? with
  | none=>simp
  | some v=>exact hy v (List.mem_of_getElem? h)
 unfold tdE
 cases ho:qkp y b i z s with
 | true=>rw[if_pos rfl];exact⟨h,fun n _ _=>rfl⟩
 | false=>
  simp only[Bool.false_eq_true,if_false];unfold qkp at ho;simp only[Bool.or_eq_false_iff,decide_eq_false_iff_not]at ho;obtain⟨ho1,ho2,ho3⟩:=ho;generalize hto:toF y b i z s=to at ho1 ho2 ho3 ⊢;have hpos:=h.pos;have hB:=h.book;have htl:=hB.tl;have hol:=hB.ol;simp only at htl hol;have hnum:=hz.number;have hwl:=h.wl;have hwk:∀ n,0<=n->0<atW s.w n->atW (if qnl s z then s.w.set z.number.toNat to else s.w) n=atW s.w n:=fun n hn hp=>by
   split
   ·rename_i hf
    rw[qnn hnum.1 (by omega) hn]
    split
    ·rename_i he
     subst he;rw[<- hto];unfold toF;rw[hf,decide_eq_true hp];rfl
    ·rfl
   ·rfl
  have hsn:zS (s.ents ++ [{ z with shown:=to+s.off }])=zS s.ents+if z.kind=2 then 1 else 0:=by
   rw[setsN_app];show zS s.ents+zS [({ z with shown:=to+s.off }:PEnt)]=_;rw[qeW];rfl
  have hpn:qK ⟨name,off,set,s.ents ++ [{ z with shown:=to+s.off }]⟩ s.ents.length=zS s.ents:=by
   unfold qK;simp only;rw[List.take_left' rfl]
  have hme:∀ n o,s.mine[n]?=some o->(if z.kind=2 then s.mine ++ [qaf set (zj x (7*b+i+1))] else s.mine)[n]?=some o:=fun n o hno=>by
   split
   ·rw[List.getElem?_append_left (List.getElem?_eq_some_iff.1 hno).1];exact hno
   ·exact hno
  refine⟨⟨⟨?_,?_,?_,?_,?_,?_,?_,?_⟩,?_,?_,?_,?_⟩,hwk⟩
  ·simp only[List.length_append,List.length_singleton];omega
  ·simp only
   rw[hsn]
   split
   ·simp only[List.length_append,List.length_singleton];omega
   ·omega
  ·intro o h0
   obtain⟨o',ho'⟩:∃ o',s.mine[0]?=some o':=⟨_,List.getElem?_eq_getElem (by omega)⟩;have:=hme 0 o' ho';simp only at h0;rw[h0]at this
   cases this
   exact hB.off o ho'
  ·intro n o hn hno
   simp only at hno
   by_cases hlt:n<s.mine.length
   ·obtain⟨o',ho'⟩:∃ o',s.mine[n]?=some o':=⟨_,List.getElem?_eq_getElem hlt⟩
    have:=hme n o' ho';rw[hno]at this
    cases this
    exact hB.set n o hn ho'
   ·split at hno
    ·rw[List.getElem?_append_right (by omega)]at hno
     have:=List.mem_of_getElem? hno;rw[List.mem_singleton]at this;rw[this];exact qaR hset _
    ·rw[List.getElem?_eq_none (by omega)]at hno;cases hno
  ·intro k e hk
   simp only at hk ⊢
   by_cases hlt:k<s.ents.length
   ·rw[List.getElem?_append_left hlt]at hk
    obtain⟨o,h1,h2⟩:=hB.time k e hk;refine⟨o,?_,?_⟩
    ·rw[perOf_snoc (by omega)];exact hme _ _ h1
    ·rw[List.getElem?_append_left (by omega)];exact h2
   ·rw[List.getElem?_append_right (by omega)]at hk
    have hk0:k=s.ents.length:=by
     have:=(List.getElem?_eq_some_iff.1 hk).1;simp at this;omega
    subst hk0;rw[Nat.sub_self,List.getElem?_cons_zero]at hk
    cases hk
    refine⟨s.off,?_,?_⟩
    ·rw[hpn];exact hme _ _ h.last
    ·rw[List.getElem?_append_right (by omega),htl,Nat.sub_self,List.getElem?_cons_zero]
     simp only
     congr 1;omega
  ·intro k u v hu hv
   simp only at hu hv
   by_cases hlt:k+1<s.times.length
   ·rw[List.getElem?_append_left (by omega)]at hu
    rw[List.getElem?_append_left hlt]at hv;exact hB.ord k u v hu hv
   ·rw[List.getElem?_append_right (by omega)]at hv
    have:=List.mem_of_getElem? hv;rw[List.mem_singleton]at this;have hkl:k+1-s.times.length<1:=by have:=(List.getElem?_eq_some_iff.1 hv).1;simpa using this
    rw[List.getElem?_append_left (by omega)]at hu;have:=h.le k u hu;omega
  ·intro num m hm
   simp only at hm ⊢;rw[qgU]at hm
   cases hf:zi s.ents num 0 with
   | some m'=>
    rw[hf]at hm
    cases hm
    obtain⟨u,h1,h2,h3⟩:=hB.rep num m hf;obtain⟨e,_,he,_,hen,_⟩:=qaI hf;have hml:=(List.getElem?_eq_some_iff.1 he).1;have hnum0:0<=num:=by
     have:=(hB.ent e (List.mem_of_getElem? he)).number;omega
    refine⟨u,?_,h2,?_⟩
    ·rw[List.getElem?_append_left (by omega)];exact h1
    ·rw[hwk num hnum0 (by omega)];exact h3
   | none=>
    rw[hf]at hm;simp only at hm
    split at hm
    case isFalse=>cases hm
    rename_i hzn
    cases hm
    (try simp only at hzn)
    have hfb:qnl s z=true:=by
     unfold qnl;rw[decide_eq_true hzn.1,hzn.2,hf];rfl
    rw[Nat.zero_add];refine⟨to,?_,by omega,?_⟩
    ·rw[List.getElem?_append_right (by omega),htl,Nat.sub_self];rfl
    ·rw[if_pos hfb,<- hzn.2,qnn hnum.1 (by omega) hnum.1,if_pos rfl]
  ·intro e he
   simp only at he
   rcases List.mem_append.1 he with he | he
   ·exact hB.ent e he
   ·rw[List.mem_singleton]at he
    subst he;exact⟨by simp only;omega,hz.kind,hz.number,hz.pass,hz.set,hz.rep⟩
  ·simp only
   rw[hsn]
   split
   ·rw[List.getElem?_append_right (by omega),show zS s.ents+1-s.mine.length=0 by omega];rfl
   ·rw[Nat.add_zero];exact h.last
  ·intro k u hu
   simp only at hu ⊢
   by_cases hlt:k<s.times.length
   ·rw[List.getElem?_append_left hlt]at hu
    have:=h.le k u hu;omega
   ·rw[List.getElem?_append_right (by omega)]at hu
    have:=List.mem_of_getElem? hu;rw[List.mem_singleton]at this;omega
  ·simp only;omega
  ·simp only
   split
   ·rw[List.length_set];exact hwl
   ·exact hwl
theorem BookT.mono{b:PBook}{T O w w':List Int}(h:BookT b T O w)(hw:∀ n,0<=n->0<atW w n->atW w' n=atW w n):BookT b T O w':=by
 refine⟨h.tl,h.ol,h.off,h.set,h.time,h.ord,fun num m hm=>?_,h.ent⟩;obtain⟨u,h1,h2,h3⟩:=h.rep num m hm;obtain⟨e,_,he,_,hen,_⟩:=qaI hm;have hnum0:0<=num:=by
  have:=(h.ent e (List.mem_of_getElem? he)).number;omega
 exact⟨u,h1,h2,by rw[hw num hnum0 (by omega)];exact h3⟩
theorem qlO{x y:List Int}{b:Nat}{off set:Span}{name:ByteArray}(hset:set.lo<=set.hi)(hy:∀ n∈y,0<=n):∀ (r:List PEnt) {i:Nat} {s:TdE},(∀ z∈r,EntR z)->TdI off set s name->TdI off set (qnm x y b set i r s) name/\(∀ n,0<=n->0<atW s.w n->atW (qnm x y b set i r s).w n=atW s.w n)
 | [],i,s,_,h=>⟨h,fun n _ _=>rfl⟩
 | z::r,i,s,hr,h=>by
  obtain⟨h1,h2⟩:=td_step (x:=x) (b:=b) (i:=i) hset (hr z (List.mem_cons_self ..)) hy h;obtain⟨h3,h4⟩:=qlO hset hy r (i:=i+1) (fun u hu=>hr u (List.mem_cons_of_mem _ hu)) h1;exact⟨h3,fun n h0 hn=>by
   have:=h2 n h0 hn;rw[qnm,h4 n h0 (by omega),this]⟩
structure ToldR(bs:List PBook)(z:TdS):Prop where
 bl:z.books.length=bs.length
 tl:z.times.length=bs.length
 ol:z.offs.length=bs.length
 wl:z.w.length=100
 book:∀ (i:Nat) b,z.books[i]?=some b -> ∃ b0 T O,bs[i]?=some b0/\b.name=b0.name/\b.off=b0.off/\b.set=b0.set/\z.times[i]?=some T/\z.offs[i]?=some O/\BookT b T O z.w/\b.ents.length<=b0.ents.length
theorem qog{x y:List Int}{b:Nat}{set:Span}:∀ (r:List PEnt) {i:Nat} {s:TdE},(qnm x y b set i r s).ents.length<=s.ents.length+r.length
 | [],i,s=>Nat.le_refl _
 | z::r,i,s=>by
  have h1:=qog (x:=x) (y:=y) (b:=b) (set:=set) r (i:=i+1) (s:=tdE x y b i set z s);have h2:(tdE x y b i set z s).ents.length<=s.ents.length+1:=by
   unfold tdE
   split
   ·omega
   ·simp
  rw[qnm,List.length_cons];omega
theorem told_step{x y:List Int}{bs:List PBook}{bk:PBook}{z:TdS}(h:ToldR bs z)(ho:bk.off.lo<=bk.off.hi)(hs:bk.set.lo<=bk.set.hi)(he:∀ e∈bk.ents,EntR e)(hy:∀ n∈y,0<=n):ToldR (bs ++ [bk]) (tdB x y bs.length bk z):=by
 have hturn:∀ n,0<=zj y n:=fun n=>by
  unfold zj
  cases h:y[n%y.length]? with
  | none=>simp
  | some v=>exact hy v (List.mem_of_getElem? h)
 have h0:TdI bk.off bk.set (qmi x y bs.length bk z.w) bk.name:=by
  refine⟨⟨rfl,rfl,fun o hoo=>?_,fun n o hn hno=>?_,fun k e hk=>by simp[qmi]at hk,fun k u v hu=>by simp[qmi]at hu,fun num m hm=>(by cases hm),fun e he=>(by cases he)⟩,rfl,fun k u hu=>by simp[qmi]at hu,?_,h.wl⟩
  ·simp only[qmi,List.getElem?_cons_zero]at hoo
   cases hoo
   exact qaR ho _
  ·obtain⟨n,rfl⟩:∃ m,n=m+1:=⟨n-1,by omega⟩
   simp[qmi]at hno
  ·have:=hturn (5*bs.length)
   show 0<1000+zj y (5*bs.length)%100;omega
 obtain⟨h1,h2⟩:=qlO (x:=x) (b:=bs.length) hs hy bk.ents (i:=0) he h0;have hlen:=qog (x:=x) (y:=y) (b:=bs.length) (set:=bk.set) bk.ents (i:=0) (s:=qmi x y bs.length bk z.w);unfold tdB;simp only;generalize qnm x y bs.length bk.set 0 bk.ents (qmi x y bs.length bk z.w)=e at h1 h2 hlen;have hw0:(qmi x y bs.length bk z.w).w=z.w:=rfl;have hl0:(qmi x y bs.length bk z.w).ents.length=0:=rfl;rw[hw0]at h2;have hbl:=h.bl;have htl:=h.tl;have hol:=h.ol;refine⟨by simp[h.bl],by simp[h.tl],by simp[h.ol],h1.wl,fun i b hb=>?_⟩;simp only at hb ⊢
 by_cases hlt:i<bs.length
 ·rw[List.getElem?_append_left (by omega)]at hb
  obtain⟨b0,T,O,g1,g2,g3,g4,g5,g6,g7,g8⟩:=h.book i b hb;exact⟨b0,T,O,by rw[List.getElem?_append_left hlt];exact g1,g2,g3,g4,by rw[List.getElem?_append_left (by omega)];exact g5,by rw[List.getElem?_append_left (by omega)];exact g6,g7.mono h2,g8⟩
 ·have hi:i=bs.length:=by
   have:=(List.getElem?_eq_some_iff.1 hb).1;simp at this;omega
  subst hi;rw[List.getElem?_append_right (by omega),hbl,Nat.sub_self,List.getElem?_cons_zero]at hb
  cases hb
  refine⟨bk,e.times,e.mine,by rw[List.getElem?_append_right (Nat.le_refl _),Nat.sub_self];rfl,rfl,rfl,rfl,by rw[List.getElem?_append_right (by omega),htl,Nat.sub_self];rfl,by rw[List.getElem?_append_right (by omega),hol,Nat.sub_self];rfl,h1.book,by simp only;omega⟩
theorem qlP{x y:List Int}(hy:∀ n∈y,0<=n):∀ (r bs:List PBook) {z:TdS},ToldR bs z->(∀ bk∈r,bk.off.lo<=bk.off.hi/\bk.set.lo<=bk.set.hi /\ ∀ e∈bk.ents,EntR e)->ToldR (bs++r) (qpe x y bs.length r z)
 | [],bs,z,h,_=>by rw[List.append_nil];exact h
 | bk::r,bs,z,h,hr=>by
  obtain⟨h1,h2,h3⟩:=hr bk (List.mem_cons_self ..);have h4:=told_step (x:=x) h h1 h2 h3 hy;have h5:=qlP (x:=x) hy r (bs ++ [bk]) h4 fun b hb=>hr b (List.mem_cons_of_mem _ hb);rw[List.append_assoc,List.length_append]at h5;exact h5
theorem told_R{l:PLog}(hb:∀ bk∈l.books,bk.off.lo<=bk.off.hi/\bk.set.lo<=bk.set.hi /\ ∀ e∈bk.ents,EntR e){x y:List Int}(hy:∀ n∈y,0<=n):ToldR l.books (qeZ l x y):=by
 have h0:ToldR [] ⟨[],[],[],List.replicate 100 0⟩:=⟨rfl,rfl,rfl,by simp,fun i b h=>by simp at h⟩;have:=qlP (x:=x) hy l.books [] h0 hb;exact this
def qnM(O:List (List Int))(p:Per):Int:=if p.book<0 then 0 else (((O[p.book.toNat]?).getD [])[p.n.toNat]?).getD 0
theorem told_truth{l:PLog}{bs:List PBook}{z:TdS}(h:ToldR bs z)(hl:l.books=z.books):TruthX l 0 [] (qnM z.offs):=by
 have ev:∀ {i n:Nat} {O:List Int} {o:Int},z.offs[i]?=some O->O[n]?=some o->qnM z.offs ⟨i,n⟩=o:=fun {i n O o} h1 h2=>by
  unfold qnM;rw[if_neg (by simp only;omega)];simp only[Int.toNat_natCast,h1,Option.getD_some,h2]
 refine⟨rfl,fun i b hb=>?_,fun i b n hb h1 h2=>?_,fun i k b u v hu hv=>?_,fun i j m n b c u v num hr=>?_⟩
 ·rw[hl]at hb
  obtain⟨b0,T,O,_,_,_,_,_,g6,g7,_⟩:=h.book i b hb;obtain⟨o,ho⟩:∃ o,O[0]?=some o:=⟨_,List.getElem?_eq_getElem (by rw[g7.ol];omega)⟩;have e0:(⟨(i:Int),0⟩:Per)=⟨i,(0:Nat)⟩:=rfl;rw[e0,ev g6 ho];have:=g7.off o ho;omega
 ·rw[hl]at hb
  obtain⟨b0,T,O,_,_,_,_,_,g6,g7,_⟩:=h.book i b hb;obtain⟨o,ho⟩:∃ o,O[n]?=some o:=⟨_,List.getElem?_eq_getElem (by rw[g7.ol];omega)⟩;rw[ev g6 ho];have:=g7.set n o h1 ho;omega
 ·have hb:=hu.book
  rw[hl]at hb;obtain⟨b0,T,O,_,_,_,_,_,g6,g7,_⟩:=h.book i b hb;obtain⟨o,h1,h2⟩:=g7.time k u hu.ent;obtain⟨o',h3,h4⟩:=g7.time (k+1) v hv.ent;rw[ev g6 h1,ev g6 h3];exact g7.ord k _ _ h2 h4
 ·have hb:=hr.ha.book
  have hc:=hr.hb.book;rw[hl]at hb hc;obtain⟨b0,T,O,_,_,_,_,_,g6,g7,_⟩:=h.book i b hb;obtain⟨c0,T',O',_,_,_,_,_,k6,k7,_⟩:=h.book j c hc;obtain⟨o,h1,h2⟩:=g7.time m u hr.ha.ent;obtain⟨o',h3,h4⟩:=k7.time n v hr.hb.ent;rw[ev g6 h1,ev k6 h3];obtain⟨p,h5,_,h6⟩:=g7.rep num m hr.fa;obtain⟨q,h7,_,h8⟩:=k7.rep num n hr.fb;rw[h2]at h5;rw[h4]at h7
  cases h5
  cases h7
  rw[<- h6,<- h8]
theorem told_inst{l:PLog}{bs:List PBook}{z:TdS}(h:ToldR bs z)(hl:l.books=z.books){i k:Nat}{b:PBook}{e:PEnt}(hA:At l i k b e):∃ T u,z.times[i]?=some T/\T[k]?=some u/\qgT l (qnM z.offs) ⟨i,k⟩=u:=by
 have hb:=hA.book;rw[hl]at hb;obtain⟨b0,T,O,_,_,_,_,g5,g6,g7,_⟩:=h.book i b hb;obtain⟨o,h1,h2⟩:=g7.time k e hA.ent;refine⟨T,_,g5,h2,?_⟩;unfold qgT;rw[qdg hA,zT hA];unfold qnM;rw[if_neg (by simp only;omega)];simp only[Int.toNat_natCast,g6,Option.getD_some,h1]
end Go.PX
