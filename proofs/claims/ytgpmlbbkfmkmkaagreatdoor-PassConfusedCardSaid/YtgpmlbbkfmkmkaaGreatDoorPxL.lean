import Derived.Test.YtgpmlbbkfmkmkaaGreatDoorPxK
import Derived.Test.YtgpmlbbkfmkmkaaGreatDoorPxI
import Derived.Test.YtgpmlbbkfmkmkaaGreatDoorPxJ
import Derived.Shelf.Strings.Builder1
import Derived.Shelf.Strconv.Itoa3
import Derived.Shelf.Strconv.AtoiAll
import Derived.Shelf.Strings.Split
import Derived.Shelf.Strings.Cut
import Derived.Lib.ItoaNum
set_option linter.all false
set_option maxRecDepth 10000
namespace Go.PX
open Go.Proofs
def qgG(bs:List PBook):Nat:=(bs.map fun b=>jm b.ents+1).sum
def qoU(l:PLog)(i n:Nat):Nat:=1+n+qgG (l.books.take i)
theorem qeW(b:PBook)(r:List PBook):qgG (b::r)=jm b.ents+1+qgG r:=by
 unfold qgG;rw[List.map_cons,List.sum_cons]
theorem qeu(i:Nat)(b:PBook):(qjE i b).length=jm b.ents+1:=by
 unfold qjE;rw[List.length_map,List.length_range]
theorem qhH:∀ (bs:List PBook) (i:Nat),(qbp i bs).length=qgG bs
 | [],_=>rfl
 | b::r,i=>by
  rw[qbp,List.length_append,qeu,qhH r,qeW]
theorem qjJ:∀ {bs:List PBook} {i0 i:Nat} {b:PBook} {n:Nat},bs[i]?=some b->n<=jm b.ents->(qbp i0 bs)[n+qgG (bs.take i)]?=some ⟨(i0+i:Nat),n⟩
 | [],_,i,b,n,h,_=>by simp at h
 | c::r,i0,0,b,n,h,hn=>by
  rw[List.getElem?_cons_zero]at h
  cases h
  rw[qbp,List.take_zero];show(qjE i0 c++qbp (i0+1) r)[n+0]?=_;rw[Nat.add_zero,List.getElem?_append_left (by rw[qeu];omega)];unfold qjE;rw[List.getElem?_map,List.getElem?_range (by omega)];rfl
 | c::r,i0,i+1,b,n,h,hn=>by
  rw[List.getElem?_cons_succ]at h;rw[qbp,List.take_succ_cons,qeW,List.getElem?_append_right (by rw[qeu];omega),qeu,show n+(jm c.ents+1+qgG (r.take i))-(jm c.ents+1)=n+qgG (r.take i) by omega,qjJ (i0:=i0+1) h hn,show i0+1+i=i0+(i+1) by omega]
theorem nodes_at{l:PLog}{i:Nat}{b:PBook}{n:Nat}(h:l.books[i]?=some b)(hn:n<=jm b.ents):(qaE l)[qoU l i n]?=some ⟨i,n⟩:=by
 unfold qaE qoU;rw[show 1+n+qgG (l.books.take i)=(n+qgG (l.books.take i))+1 by omega,List.getElem?_cons_succ,qjJ (i0:=0) h hn,Nat.zero_add]
structure BookR(b:PBook):Prop where
 off : -720<=b.off.lo/\b.off.lo<=b.off.hi/\b.off.hi<=720
 set : -720<=b.set.lo/\b.set.lo<=b.set.hi/\b.set.hi<=720
 ents:b.ents.length<=8
 ent:∀ x∈b.ents,(0<=x.shown/\x.shown<=20000)/\(1<=x.kind/\x.kind<=3)/\(0<=x.number/\x.number<=99)
structure LogR(l:PLog):Prop where
 near:0<=l.near/\l.near<=60
 books:1<=l.books.length/\l.books.length<=3
 book:∀ b∈l.books,BookR b
theorem qnY{wider:Int}{p:Per}{s:Span}{e:zl}(he:e∈jh wider p s)(hs : -720<=s.lo/\s.lo<=s.hi/\s.hi<=720)(hw:0<=wider/\wider<=1048576) : -1100000<=e.w/\e.w<=1100000:=by
 unfold jh at he;simp only[List.mem_cons,List.not_mem_nil,or_false]at he
 rcases he with rfl | rfl
 ·simp only;omega
 ·simp only;omega
theorem just_w{l:PLog}{wider:Int}{conf:List Int}(hR:LogR l)(hw:0<=wider/\wider<=1048576){e:zl}(h:Just l wider conf e) : -1100000<=e.w/\e.w<=1100000:=by
 have sh:∀ {i k b x},At l i k b x->0<=x.shown/\x.shown<=20000:=fun {i k b x} hx=>((hR.book b (List.mem_of_getElem? hx.book)).ent x (List.mem_of_getElem? hx.ent)).1
 cases h with
 | off i b hb e he=>exact qnY he (hR.book b (List.mem_of_getElem? hb)).off hw
 | set i b hb n h1 h2 e he=>exact qnY he (hR.book b (List.mem_of_getElem? hb)).set hw
 | ord i k b x y hx hy=>
  have h1:=sh hx;have h2:=sh hy;show -1100000<=y.shown-x.shown/\y.shown-x.shown<=1100000;omega
 | rep i j m n b c x y num h=>
  have h1:=sh h.ha;have h2:=sh h.hb;show -1100000<=y.shown-x.shown/\y.shown-x.shown<=1100000;omega
theorem qdn(b:PBook):jm b.ents<=b.ents.length:=by
 unfold jm;exact List.length_filter_le _ _
theorem entS_len{l:PLog}{wider:Int}{conf:List Int}{i:Nat}{b:PBook}{pers:List (List Per)}{k:Nat}{y:PEnt}{s:LkE}:(qmm l wider conf i b pers k y s).steps.length<=s.steps.length+3:=by
 have h1:∀ (st:List zl) (e:zl),(if k=0 then st else st ++ [e]).length<=st.length+1:=fun st e=>by split<;>simp
 unfold qmm;simp only;have h2:=h1 s.steps ⟨((s.of ++ [s.now])[k-1]?).getD .right,s.now,y.shown-((b.ents[k-1]?).getD ⟨0,0,.empty,0⟩).shown⟩;generalize (if k=0 then s.steps else s.steps ++ [(⟨((s.of ++ [s.now])[k-1]?).getD .right,s.now,y.shown-((b.ents[k-1]?).getD ⟨0,0,.empty,0⟩).shown⟩:zl)])=st at h2 ⊢
 split
 ·simp only[List.length_append,jh,List.length_cons,List.length_nil];omega
 ·split
  ·split
   ·simp only;omega
   ·split
    ·simp only;omega
    ·simp only[List.length_append,List.length_cons,List.length_nil];omega
  ·simp only;omega
theorem qjK{l:PLog}{wider:Int}{conf:List Int}{i:Nat}{b:PBook}{pers:List (List Per)}:∀ (r:List PEnt) {k:Nat} {s:LkE},(qdN l wider conf i b pers k r s).steps.length<=s.steps.length+3*r.length
 | [],k,s=>Nat.le_refl _
 | y::r,k,s=>by
  rw[qdN,List.length_cons];have h1:=qjK (l:=l) (wider:=wider) (conf:=conf) (i:=i) (b:=b) (pers:=pers) r (k:=k+1) (s:=qmm l wider conf i b pers k y s);have h2:=entS_len (l:=l) (wider:=wider) (conf:=conf) (i:=i) (b:=b) (pers:=pers) (k:=k) (y:=y) (s:=s);omega
theorem qjL{l:PLog}{wider:Int}{conf:List Int}:∀ (bs:List PBook) {i:Nat} {s:LkS},(∀ b∈bs,b.ents.length<=8)->(qdO l wider conf i bs s).steps.length<=s.steps.length+26*bs.length
 | [],i,s,_=>Nat.le_refl _
 | b::r,i,s,h=>by
  rw[qdO,List.length_cons];have h1:=qjL (l:=l) (wider:=wider) (conf:=conf) r (i:=i+1) (s:=qgD l wider conf i b s) fun c hc=>h c (by simp[hc]);have h2:=qjK (l:=l) (wider:=wider) (conf:=conf) (i:=i) (b:=b) (pers:=s.pers) b.ents (k:=0) (s:=⟨s.steps++jh wider ⟨i,0⟩ b.off,s.many+1,s.first,⟨i,0⟩,[],[]⟩);have h3:=h b (by simp);have h4:(qgD l wider conf i b s).steps.length<=s.steps.length+2+3*b.ents.length:=by
   refine Nat.le_trans h2 ?_;simp[jh]
  omega
theorem look_len{l:PLog}(hR:LogR l)(wider:Int)(conf:List Int):(qZ l wider conf).steps.length<=78:=by
 have:=qjL (l:=l) (wider:=wider) (conf:=conf) l.books (i:=0) (s:=⟨[],0,[],[]⟩) fun b hb=>(hR.book b hb).ents;have h2:=hR.books;unfold qZ;simp only[List.length_nil]at this;omega
def qkD(m:PM)(B:Int):Prop:=∀ p v,zj m p=some v -> -B<=v/\v<=B
theorem qne{m:PM×Bool}{s:zl}{B:Int}(h:qkD m.1 B)(hs : -1100000<=s.w/\s.w<=1100000):qkD (qeV m s).1 (B+1100000):=by
 have up:qkD m.1 (B+1100000):=fun p v hv=>by have:=h p v hv;omega
 unfold qeV
 cases h1:zj m.1 s.a with
 | none=>exact up
 | some n=>
  have hn:=h s.a n h1;have hput:qkD (jr m.1 s.b (n+s.w)) (B+1100000):=fun p v hv=>by
   rw[zu]at hv
   split at hv
   ·cases hv;omega
   ·exact up p v hv
  simp only
  cases h2:zj m.1 s.b with
  | none=>exact hput
  | some x=>
   simp only
   split
   ·exact hput
   ·exact up
end Go.PX
namespace Go.PX
open Go.Proofs
def qX(x:PEnt):D:=if x.kind=1 then .ifc 138 (.agg [.str x.word]) else if x.kind=2 then .ifc 175 (.agg []) else if x.kind=3 then .ifc 156 (.agg [.str x.word,i64 x.number]) else .nili
theorem qnu(x:PEnt):FnV Tryz.prog 83 [x.d] (qX x):=by
 refine qC mixed qh Tryz.func83 rfl (ft:=ft83) 1 (by decide +kernel) (by rfl) fun {σ} Y st=>?_;conv=>whnf
 unfold qX;refine qg (fun h1=>?_) (fun h1=>?_)
 ·rw[if_pos (of_decide_eq_true h1)]
  conv=>whnf
  exact qb 0 rfl ⟨⟨rfl,rfl⟩,rfl⟩
 ·rw[if_neg (of_decide_eq_false h1)]
  conv=>whnf
  refine qg (fun h2=>?_) (fun h2=>?_)
  ·rw[if_pos (of_decide_eq_true h2)]
   conv=>whnf
   exact qb 0 rfl ⟨⟨rfl,rfl⟩,rfl⟩
  ·rw[if_neg (of_decide_eq_false h2)]
   conv=>whnf
   refine qg (fun h3=>?_) (fun h3=>?_)
   ·rw[if_pos (of_decide_eq_true h3)]
    conv=>whnf
    exact qb 0 rfl ⟨⟨rfl,rfl⟩,rfl⟩
   ·rw[if_neg (of_decide_eq_false h3)]
    conv=>whnf
    exact qb 0 rfl ⟨⟨rfl,rfl⟩,rfl⟩
def qbV(n lo hi:Int):Bool:=!inB n lo hi
theorem qkE(lo hi n:Int):FnV Tryz.prog 59 [i64 lo,i64 hi,.vs [[i64 n]]] (.bool (qbV n lo hi)):=FnV.cast (fn51_1 lo hi n) rfl
def qkj(x:PEnt):Int:=
 if qbV x.shown 0 20000 then 7
 else if x.kind=1 then (if qai x.word&&decide (x.number=0) then 0 else 6)
 else if x.kind=2 then (if decide (x.word = .empty)&&decide (x.number=0) then 0 else 6)
 else if x.kind=3 then (if qai x.word && !qbV x.number 1 99 then 0 else 6)
 else 4
theorem pa63(x:PEnt):FnV Tryz.prog 63 [x.d] (i64 (qkj x)):=by
 refine qC mixed qh Tryz.func63 rfl (ft:=ft63) 1 (by decide +kernel) (by rfl) fun {σ} Y st=>?_;conv=>whnf
 refine qo (qkE 0 20000 x.shown) rfl 1 rfl ?_;unfold qkj
 cases h0:qbV x.shown 0 20000 with
 | true=>
  conv=>whnf
  exact qb 0 rfl ⟨⟨rfl,rfl⟩,rfl⟩
 | false=>
  conv=>whnf
  refine qe (qnu x) rfl rfl ?_;conv=>whnf
  have hw0:(x.word=(⟨#[]⟩:ByteArray))↔x.word = .empty:=Iff.rfl
  by_cases h1:x.kind=1
  ·have ht:qX x = .ifc 138 (.agg [.str x.word]):=by unfold qX;rw[if_pos h1]
   rw[ht,if_pos h1];conv=>whnf
   refine qe (qpK x.word) rfl rfl ?_;conv=>whnf
   cases hn:qai x.word with
   | false=>
    conv=>whnf
    exact qb 0 rfl ⟨⟨rfl,rfl⟩,rfl⟩
   | true=>
    conv=>whnf
    generalize decide (x.number=0)=B
    cases B with
    | false=>
     conv=>whnf
     exact qb 0 rfl ⟨⟨rfl,rfl⟩,rfl⟩
    | true=>
     conv=>whnf
     exact qb 0 rfl ⟨⟨rfl,rfl⟩,rfl⟩
  ·rw[if_neg h1]
   by_cases h2:x.kind=2
   ·have ht:qX x = .ifc 175 (.agg []):=by unfold qX;rw[if_neg h1,if_pos h2]
    rw[ht,if_pos h2];conv=>whnf
    have hw1:decide (x.word = .empty)=decide (x.word=(⟨#[]⟩:ByteArray)):=rfl;rw[hw1];generalize decide (x.word=(⟨#[]⟩:ByteArray))=A
    cases A with
    | false=>
     conv=>whnf
     exact qb 0 rfl ⟨⟨rfl,rfl⟩,rfl⟩
    | true=>
     conv=>whnf
     generalize decide (x.number=0)=B
     cases B with
     | false=>
      conv=>whnf
      exact qb 0 rfl ⟨⟨rfl,rfl⟩,rfl⟩
     | true=>
      conv=>whnf
      exact qb 0 rfl ⟨⟨rfl,rfl⟩,rfl⟩
   ·rw[if_neg h2]
    by_cases h3:x.kind=3
    ·have ht:qX x = .ifc 156 (.agg [.str x.word,i64 x.number]):=by unfold qX;rw[if_neg h1,if_neg h2,if_pos h3]
     rw[ht,if_pos h3];conv=>whnf
     refine qe (qpK x.word) rfl rfl ?_;conv=>whnf
     cases hn:qai x.word with
     | false=>
      conv=>whnf
      exact qb 0 rfl ⟨⟨rfl,rfl⟩,rfl⟩
     | true=>
      conv=>whnf
      refine qo (qkE 1 99 x.number) rfl 1 rfl ?_
      cases h4:qbV x.number 1 99 with
      | false=>
       conv=>whnf
       exact qb 0 rfl ⟨⟨rfl,rfl⟩,rfl⟩
      | true=>
       conv=>whnf
       exact qb 0 rfl ⟨⟨rfl,rfl⟩,rfl⟩
    ·have ht:qX x = .nili:=by unfold qX;rw[if_neg h1,if_neg h2,if_neg h3]
     rw[ht,if_neg h3];conv=>whnf
     exact qb 0 rfl ⟨⟨rfl,rfl⟩,rfl⟩
theorem pa62(y x:PBook):FnV Tryz.prog 62 [.agg y.cells,.ref x.cells] (.bool (decide (y.name=x.name))):=by
 refine qC mixed qh Tryz.func62 rfl (ft:=ft62) 2 (by decide +kernel) (by rfl) fun {σ} Y st=>?_;conv=>whnf
 exact qb 0 rfl ⟨⟨rfl,rfl⟩,rfl⟩
theorem pa108(l:List PBook)(g:FuncId)(caps:List D)(p:PBook->Bool)(hl:l.length<4000000000000000000)(hp:∀ x∈l,FnV Tryz.prog g (.agg x.cells::caps) (.bool (p x))) :
  FnV Tryz.prog 108 [qG l,.clo g caps] (i64 (zX p l 0)):=by
 refine qC mixed qh Tryz.func108 rfl (ft:=ft108) 2 (by decide +kernel) (by rfl) fun {σ} Y st=>?_;conv=>whnf
 refine zf (T:=tys) qh (by exact qd mixed qh (by decide +kernel)) l (fun i (_:Unit)=>⟨[(0,.d (qG l)),(1,.d (.clo g caps)),(7,.d (i64 l.length)),(8,.d (i64 i))],[],st⟩) (fun i r _=>zX p l 0=zX p r i) () (Wk.sub (by repeat' first|exact trivial|refine⟨?_,?_⟩|rfl|(simp only[List.length_map];rfl)|simp[PX.get]) trivial) rfl ?_ ?_
 ·intro i x r _ hx hi hr he
  rw[zX]at he;conv=>whnf
  refine qg (fun _=>?_) (fun h=>absurd hi (by simpa using h));conv=>whnf
  refine qy hx ?_;conv=>whnf
  refine qe (hp x (List.mem_of_getElem? hx)) rfl rfl ?_;conv=>whnf
  refine qg (fun h1=>?_) (fun h1=>?_)
  ·conv=>whnf
   rw[he,if_pos h1];exact qb 0 rfl ⟨⟨rfl,rfl⟩,rfl⟩
  ·rw[if_neg (by simp[h1])]at he
   conv=>whnf
   refine qc (qa (by(try dsimp only);omega)) ?_;conv=>whnf
   exact⟨(),he,(Wk.sub (by repeat' first|exact trivial|refine⟨?_,?_⟩|rfl|(simp only[List.length_map];rfl)|simp[PX.get]) trivial)⟩
 ·intro _ he
  conv=>whnf
  refine qg (fun h=>absurd h (by simp)) (fun _=>?_);conv=>whnf
  rw[he];exact qb 0 rfl ⟨⟨rfl,rfl⟩,rfl⟩
theorem pa61(l:List PBook)(g:FuncId)(caps:List D)(p:PBook->Bool)(hl:l.length<4000000000000000000)(hp:∀ x∈l,FnV Tryz.prog g (.agg x.cells::caps) (.bool (p x))) :
  FnV Tryz.prog 61 [qG l,.clo g caps] (.bool (l.any p)):=by
 refine qC mixed qh Tryz.func61 rfl (ft:=ft61) 2 (by decide +kernel) (by rfl) fun {σ} Y st=>?_;conv=>whnf
 refine qe (pa108 l g caps p hl hp) rfl rfl ?_;conv=>whnf
 refine qb 0 rfl ⟨⟨?_,rfl⟩,rfl⟩;rw[<- qbm p l 0 (by omega)];rfl
def qgH(pre:List PBook)(b:PBook):Int:=
 if qai b.name then
  if pre.any (fun x=>decide (x.name=b.name)) then 5
  else if qbV b.off.lo (-720) 720||qbV b.off.hi (-720) 720||qbV b.set.lo (-720) 720||qbV b.set.hi (-720) 720 then 7
  else if decide (b.off.lo>b.off.hi)||decide (b.set.lo>b.set.hi) then 2
  else if b.ents.length>8 then 3 else 0
 else 6
def qdq:List PEnt->Nat->Int×Int
 | [],_=>(0,0)
 | y::r,k=>if qkj y=0 then qdq r (k+1) else (k,qkj y)
def qaO:List PBook->List PBook->Nat->Int×Int×Int
 | _,[],_=>(0,0,0)
 | pre,b::r,i=>if qgH pre b=0 then (if (qdq b.ents 0).2=0 then qaO (pre ++ [b]) r (i+1) else ((i+1:Nat),(qdq b.ents 0).1,(qdq b.ents 0).2)) else ((i+1:Nat),0,qgH pre b)
def qak(l:PLog):Int×Int×Int:=
 if qbV l.near 0 60 then (0,0,7) else if qbV l.books.length 1 3 then (0,0,3) else qaO [] l.books 0
def qqd(x:Int×Int×Int):D:=.tup [i64 x.1,i64 x.2.1,i64 x.2.2]
theorem out_4(lo hi a b c d:Int):FnV Tryz.prog 59 [i64 lo,i64 hi,.vs [[i64 a],[i64 b],[i64 c],[i64 d]]] (.bool (qbV a lo hi||qbV b lo hi||qbV c lo hi||qbV d lo hi)):=FnV.cast (qqc lo hi [a,b,c,d] (by simp)) (by simp[qbV,inB,Bool.or_assoc,Int.not_le];grind)
theorem pa17(l:PLog):FnV Tryz.prog 17 [l.d] (qqd (qak l)):=by
 refine qC mixed qh Tryz.func17 rfl (ft:=ft17) 1 (by decide +kernel) (by rfl) fun {σ} Y st=>?_;conv=>whnf
 unfold qak;refine qo (qkE 0 60 _) rfl 1 rfl ?_
 cases h0:qbV l.near 0 60 with
 | true=>
  conv=>whnf
  exact qb 0 rfl ⟨⟨rfl,rfl⟩,rfl⟩
 | false=>
  conv=>whnf
  refine qo (qkE 1 3 l.books.length) rfl 1 (by
   show some _=some _;simp[qG]) ?_
  conv=>whnf
  cases h1:qbV l.books.length 1 3 with
  | true=>
   conv=>whnf
   exact qb 0 rfl ⟨⟨rfl,rfl⟩,rfl⟩
  | false=>
   have hlen:l.books.length<=3:=by
    have h1:=h1;unfold qbV inB at h1;simp at h1;omega
   simp only[if_false,Bool.false_eq_true];conv=>whnf
   generalize hK:qaO [] l.books 0=K;refine zf (T:=tys) qh (by exact qd mixed qh (by decide +kernel)) l.books (fun i (_:Unit)=>⟨[(1,.ptr 1 0),(21,.d (qG l.books)),(22,.d (i64 l.books.length)),(23,.d (i64 i))],[(1,.box (.dd l.cells))],st⟩)
    (fun i r _=>qaO (l.books.take i) r i=K) () (Wk.sub (by repeat' first|exact trivial|refine⟨?_,?_⟩|rfl|(simp only[List.length_map];rfl)|simp[PX.get]) ⟨(by first | rfl | (simp only[List.length_map];rfl) | simp[PX.get]),trivial⟩) hK ?_ ?_
   ·rintro i b r _ hx hi hr he
    rw[qaO]at he;have htk:l.books.take (i+1)=l.books.take i ++ [b]:=by rw[List.take_succ,hx];rfl
    conv=>whnf
    refine qg (fun _=>?_) (fun h=>absurd hi (by simpa using h));conv=>whnf
    refine qy hx ?_;conv=>whnf
    refine qe (qpK b.name) rfl rfl ?_;unfold qgH at he
    cases h2:qai b.name with
    | false=>
     rw[h2]at he;simp only[if_false,Bool.false_eq_true]at he;conv=>whnf
     refine qc (qa (by(try dsimp only);omega)) ?_;conv=>whnf
     rw[<- he];exact qb 0 rfl ⟨⟨rfl,rfl⟩,rfl⟩
    | true=>
     rw[h2]at he;simp only[if_true]at he;conv=>whnf
     refine zo (by simp;omega) ?_;conv=>whnf
     refine zo (by cases l.books<;>rfl) ?_;conv=>whnf
     refine qo (ds:=[qG (l.books.take i),.clo 62 [.ref b.cells]]) (pa61 (l.books.take i) 62 [.ref b.cells] (fun y=>decide (y.name=b.name)) (by simp;omega) fun y _=>pa62 y b) rfl 1 (by show some _=some _;simp[qG,List.map_take];rfl) ?_;generalize hany:((l.books.take i).any fun y=>decide (y.name=b.name))=A at he ⊢
     cases A with
     | true=>
      simp only[if_true]at he;conv=>whnf
      refine qc (qa (by(try dsimp only);omega)) ?_;conv=>whnf
      rw[<- he];exact qb 0 rfl ⟨⟨rfl,rfl⟩,rfl⟩
     | false=>
      simp only[if_false,Bool.false_eq_true]at he;conv=>whnf
      refine qo (out_4 (-720) 720 b.off.lo b.off.hi b.set.lo b.set.hi) rfl 1 rfl ?_;generalize (qbV b.off.lo (-720) 720||qbV b.off.hi (-720) 720||qbV b.set.lo (-720) 720||qbV b.set.hi (-720) 720)=A at he ⊢
      cases A with
      | true=>
       simp only[if_true]at he;conv=>whnf
       refine qc (qa (by(try dsimp only);omega)) ?_;conv=>whnf
       rw[<- he];exact qb 0 rfl ⟨⟨rfl,rfl⟩,rfl⟩
      | false=>
       simp only[if_false,Bool.false_eq_true]at he;conv=>whnf
       have e1:decide (b.off.lo>b.off.hi)=decide (b.off.hi<b.off.lo):=rfl;have e2:decide (b.set.lo>b.set.hi)=decide (b.set.hi<b.set.lo):=rfl;rw[e1,e2]at he;generalize decide (b.off.hi<b.off.lo)=A at he ⊢
       cases A with
       | true=>
        simp only[Bool.true_or,if_true]at he;conv=>whnf
        refine qc (qa (by(try dsimp only);omega)) ?_;conv=>whnf
        rw[<- he];exact qb 0 rfl ⟨⟨rfl,rfl⟩,rfl⟩
       | false=>
        simp only[Bool.false_or]at he;conv=>whnf
        generalize decide (b.set.hi<b.set.lo)=B at he ⊢
        cases B with
        | true=>
         simp only[if_true]at he;conv=>whnf
         refine qc (qa (by(try dsimp only);omega)) ?_;conv=>whnf
         rw[<- he];exact qb 0 rfl ⟨⟨rfl,rfl⟩,rfl⟩
        | false=>
         simp only[if_false,Bool.false_eq_true]at he;conv=>whnf
         refine qg (fun h3=>?_) (fun h3=>?_)
         ·have h3:b.ents.length>8:=by have:=of_decide_eq_true h3;simp at this;omega
          rw[if_pos h3]at he;conv=>whnf
          refine qc (qa (by(try dsimp only);omega)) ?_;conv=>whnf
          rw[<- he];exact qb 0 rfl ⟨⟨rfl,rfl⟩,rfl⟩
         ·have h3:¬ b.ents.length>8:=by have:=of_decide_eq_false h3;simp at this;omega
          rw[if_neg h3,if_pos rfl]at he;conv=>whnf
          generalize hE:qdq b.ents 0=E at he;refine zf (T:=tys) qh (by exact qd mixed qh (by decide +kernel)) b.ents (fun k (_:Unit)=>⟨[(1,.ptr 1 0),(21,.d (qG l.books)),(22,.d (i64 l.books.length)),(23,.d (i64 i)),(5,.d (i64 i)),(88,.d (qdM b.ents)),(89,.d (i64 b.ents.length)),(90,.d (i64 k))],[(1,.box (.dd l.cells))],st⟩)
           (fun k r _=>qdq r k=E) () (Wk.sub (by repeat' first|exact trivial|refine⟨?_,?_⟩|rfl|(simp only[List.length_map];rfl)|simp[PX.get]) ⟨(by first | rfl | (simp only[List.length_map];rfl) | simp[PX.get]),trivial⟩) hE ?_ ?_
          ·rintro k y r2 _ hy hk hr2 he2
           rw[qdq]at he2;conv=>whnf
           refine qg (fun _=>?_) (fun h=>absurd hk (by simpa using h));conv=>whnf
           refine qy hy ?_;conv=>whnf
           refine qe (pa63 y) rfl rfl ?_;conv=>whnf
           refine qg (fun h4=>?_) (fun h4=>?_)
           ·have h4:¬ qkj y=0:=by simpa using h4
            rw[if_neg h4]at he2;subst he2;rw[if_neg h4]at he;conv=>whnf
            refine qc (qa (by(try dsimp only);omega)) ?_;conv=>whnf
            rw[<- he];exact qb 0 rfl ⟨⟨rfl,rfl⟩,rfl⟩
           ·have h4:qkj y=0:=by simpa using h4
            rw[if_pos h4]at he2;conv=>whnf
            refine qc (qa (by(try dsimp only);omega)) ?_;conv=>whnf
            exact⟨(),he2,(Wk.sub (by repeat' first|exact trivial|refine⟨?_,?_⟩|rfl|(simp only[List.length_map];rfl)|simp[PX.get]) ⟨(by first | rfl | (simp only[List.length_map];rfl) | simp[PX.get]),trivial⟩)⟩
          ·rintro _ he2
           have he2:((0,0):Int×Int)=E:=he2;subst he2;rw[if_pos rfl,<- htk]at he;conv=>whnf
           refine qg (fun h=>absurd h (by simp)) (fun _=>?_);conv=>whnf
           refine qc (qa (by(try dsimp only);omega)) ?_;conv=>whnf
           exact⟨(),he,(Wk.sub (by repeat' first|exact trivial|refine⟨?_,?_⟩|rfl|(simp only[List.length_map];rfl)|simp[PX.get]) ⟨(by first | rfl | (simp only[List.length_map];rfl) | simp[PX.get]),trivial⟩)⟩
   ·rintro _ he
    rw[qaO]at he;subst he;conv=>whnf
    refine qg (fun h=>absurd h (by simp)) (fun _=>?_);conv=>whnf
    exact qb 0 rfl ⟨⟨rfl,rfl⟩,rfl⟩
end Go.PX
namespace Go.PX
open Go.Proofs
section
variable {κ ν : Type} [DecidableEq κ] (kd : κ -> D) (vd : ν -> D)
def kvV(m:List (κ×ν)):List (D×D):=m.map fun p=>(kd p.1,vd p.2)
variable {kd vd}
theorem ql(hs:∀ a b,qcB (kd a) (kd b)=some (decide (a=b))){t:κ}:∀ {m:List (κ×ν)},zj m t=none -> ∀ n,qcC (kd t) (kvV kd vd m) n=some none
 | [],_,n=>rfl
 | (u,x)::r,h,n=>by
  rw[zj]at h
  split at h
  ·cases h
  ·rename_i hu
   show(match qcB (kd t) (kd u) with
    | some true=>some (some (n,vd x))
    | some false=>qcC (kd t) (kvV kd vd r) (n+1)
    | none=>none)=_
   rw[hs,decide_eq_false hu];exact ql hs h (n+1)
theorem qs(hs:∀ a b,qcB (kd a) (kd b)=some (decide (a=b))){t:κ}{v:ν}:∀ {m:List (κ×ν)},zj m t=some v -> ∀ n,∃ i,i<m.length/\qcC (kd t) (kvV kd vd m) n=some (some (n+i,vd v))/\(∀ y,(kvV kd vd m).set i (kd t,vd y)=kvV kd vd (jr m t y))/\setKey (kvV kd vd m) i (kd t)=kvV kd vd m /\ ∀ y,setVal (kvV kd vd m) i (vd y)=kvV kd vd (jr m t y)
 | [],h,n=>by cases h
 | (u,x)::r,h,n=>by
  rw[zj]at h
  split at h
  ·rename_i hu
   cases h
   subst hu;refine⟨0,by simp,?_,fun y=>?_,rfl,fun y=>?_⟩
   ·show(match qcB (kd t) (kd t) with
     | some true=>some (some (n,vd v))
     | some false=>qcC (kd t) (kvV kd vd r) (n+1)
     | none=>none)=_
    rw[hs,decide_eq_true rfl];rfl
   ·rw[jr,if_pos rfl];rfl
   ·rw[jr,if_pos rfl];rfl
  ·rename_i hu
   obtain⟨i,h0,h1,h2,h3,h4⟩:=qs hs h (n+1);refine⟨i+1,by simp;omega,?_,fun y=>?_,?_,fun y=>?_⟩
   ·show(match qcB (kd t) (kd u) with
     | some true=>some (some (n,vd x))
     | some false=>qcC (kd t) (kvV kd vd r) (n+1)
     | none=>none)=_
    rw[hs,decide_eq_false hu];show qcC (kd t) (kvV kd vd r) (n+1)=_;rw[h1,show n+1+i=n+(i+1) by omega]
   ·rw[jr,if_neg hu]
    show(kd u,vd x)::(kvV kd vd r).set i (kd t,vd y)=(kd u,vd x)::kvV kd vd (jr r t y);rw[h2 y]
   ·show(kd u,vd x)::setKey (kvV kd vd r) i (kd t)=_
    rw[h3];rfl
   ·rw[jr,if_neg hu]
    show(kd u,vd x)::setVal (kvV kd vd r) i (vd y)=(kd u,vd x)::kvV kd vd (jr r t y);rw[h4 y]
theorem qS{t:κ}(y:ν):∀ {m:List (κ×ν)},zj m t=none->kvV kd vd m ++ [(kd t,vd y)]=kvV kd vd (jr m t y)
 | [],_=>rfl
 | (u,x)::r,h=>by
  rw[zj]at h
  split at h
  ·cases h
  ·rename_i hu
   rw[jr,if_neg hu];show(kd u,vd x)::(kvV kd vd r ++ [(kd t,vd y)])=_;rw[qS y h];rfl
end
def qu(n:Int):D:=i64 n
theorem zB(a b:Per):qcB a.d b.d=some (decide (a=b)):=by
 show some (decide (a.book=b.book)&&(decide (a.n=b.n)&&true))=_
 congr 1
 cases a;cases b
 simp
theorem qn(a b:Int):qcB (qu a) (qu b)=some (decide (a=b)):=rfl
def pmD(m:PM):List (D×D):=kvV Per.d qu m
def qlC(l:List zl):D:=.vs (l.map qoT)
def persD(l:List (List Per)):D:=.vs (l.map fun r=>[.vs (r.map Per.cells)])
def lookC(l:PLog)(x:LkS):List D:=[i64 l.near,qG l.books,qlC x.steps,persD x.pers,i64 x.many]
def jH(l:PLog)(x:LkS):D:=.ref (lookC l x)
end Go.PX
namespace Go.PX
open Go.Proofs
theorem qnE:FnV Tryz.prog 70 [] Per.right.d:=by
 refine qC mixed qh Tryz.func70 rfl (ft:=ft70) 0 (by decide +kernel) (by rfl) fun {σ} Y st=>?_;conv=>whnf
 exact qb 0 rfl ⟨⟨rfl,rfl⟩,rfl⟩
structure LookR(x:LkS):Prop where
 len:x.steps.length<=78
 w:∀ e∈x.steps,-1100000<=e.w/\e.w<=1100000
 many:0<=x.many/\x.many<=30
theorem qpp(l:PLog)(x:LkS)(hR:LookR x)(p:Per):FnV Tryz.prog 69 [jH l x,p.d] (.tup [if qlw x (qdl x p)=true then .mv (pmD (qdl x p)) else .nilm,.bool (qlw x (qdl x p))]):=by
 refine qC mixed qh Tryz.func69 rfl (ft:=ft69) 2 (by decide +kernel) (by rfl) fun {σ} Y st=>?_;conv=>whnf
 have hlen:=hR.len;have hmany:=hR.many;have hst:x.steps.length<4000000000000000000:=by omega
 refine⟨none,rfl,?_⟩;conv=>whnf
 refine qj (((x.many+2).toNat:Nat):Int) (by omega) (qa (by omega)) ?_;conv=>whnf
 unfold qdl;have hK:(x.many+2).toNat<=32:=by omega
 generalize (x.many+2).toNat=N at hK ⊢;generalize hRES:qbo x.steps N [(p,0)]=RES;refine zy (T:=tys) qh (by exact qd mixed qh (by decide +kernel)) (α:=Nat×PM) (fun z=>⟨[(0,.d (jH l x)),(6,.mp 16),(23,.d (i64 N)),(24,.d (i64 z.1))],[(16,.map (pmD z.2))],st⟩)
  (fun z=>z.1<=N/\qkD z.2 (100000000*z.1)/\qbo x.steps (N-z.1) z.2=RES) (fun z=>N-z.1) (0,[(p,0)]) (Wk.sub (by repeat' first|exact trivial|refine⟨?_,?_⟩|rfl|(simp only[List.length_map];rfl)|simp[PX.get]) ⟨(by first | rfl | (simp only[List.length_map];rfl) | simp[PX.get]),trivial⟩) ⟨Nat.zero_le _,?_,by simpa using hRES⟩ ?_
 ·intro q v hv
  simp only at hv;rw[zj]at hv
  split at hv
  ·cases hv;simp
  ·cases hv
 rintro ⟨i,m⟩ ⟨hi,hb,hr⟩;simp only at hi hb hr;conv=>whnf
 refine qg (fun h1=>?_) (fun h1=>?_)
 ·have h1:i<N:=by have:=of_decide_eq_true h1;simp only at this;omega
  obtain⟨f,hf⟩:∃ f,N-i=f+1:=⟨N-i-1,by omega⟩;rw[hf,qbo]at hr;generalize hRM:qgE x.steps m=RM at hr;conv=>whnf
  refine zf (T:=tys) qh (by exact qd mixed qh (by decide +kernel)) x.steps (fun k (y:PM×Bool)=>⟨[(0,.d (jH l x)),(6,.mp 16),(7,.d (.bool y.2)),(23,.d (i64 N)),(24,.d (i64 i)),(29,.d (qlC x.steps)),(30,.d (i64 x.steps.length)),(31,.d (i64 k))],[(16,.map (pmD y.1))],st⟩)
   (fun k r y=>r.foldl qeV y=RM/\qkD y.1 (100000000*i+1100000*k)) (m,false) (Wk.sub (by repeat' first|exact trivial|refine⟨?_,?_⟩|rfl|(simp only[List.length_map];rfl)|simp[PX.get]) ⟨(by first | rfl | (simp only[List.length_map];rfl) | simp[PX.get]),trivial⟩) ⟨hRM,by simpa using hb⟩ ?_ ?_
  ·rintro k s r ⟨m1,ch⟩ hs hk hr2 ⟨hfold,hbm⟩
   have hsw:=hR.w s (List.mem_of_getElem? hs);have hb2:=qne (m:=(m1,ch)) hbm hsw;rw[List.foldl_cons]at hfold;conv=>whnf
   refine qg (fun _=>?_) (fun h=>absurd hk (by simpa using h));conv=>whnf
   refine qy hs ?_;conv=>whnf
   cases h2:zj m1 s.a with
   | none=>
    have ht:qeV (m1,ch) s=(m1,ch):=by unfold qeV;simp only[h2]
    rw[ht]at hfold hb2;refine⟨none,ql (kd:=Per.d) zB h2 0,?_⟩;conv=>whnf
    refine qc (qa (by(try dsimp only);omega)) ?_;conv=>whnf
    exact⟨(m1,ch),⟨hfold,fun q v hv=>by have:=hb2 q v hv;omega⟩,(Wk.sub (by repeat' first|exact trivial|refine⟨?_,?_⟩|rfl|(simp only[List.length_map];rfl)|simp[PX.get]) ⟨(by first | rfl | (simp only[List.length_map];rfl) | simp[PX.get]),trivial⟩)⟩
   | some n=>
    have hn:=hbm s.a n h2;obtain⟨ix,_,hx1,_⟩:=qs (kd:=Per.d) (vd:=qu) zB h2 0;refine⟨_,hx1,?_⟩;conv=>whnf
    cases h3:zj m1 s.b with
    | none=>
     have ht:qeV (m1,ch) s=(jr m1 s.b (n+s.w),true):=by unfold qeV;simp only[h2,h3]
     refine⟨none,ql (kd:=Per.d) zB h3 0,?_⟩;conv=>whnf
     refine qc (qa (by(try dsimp only);omega)) ?_;conv=>whnf
     refine⟨none,ql (kd:=Per.d) zB h3 0,?_⟩;rw[ht]at hfold hb2;conv=>whnf
     refine qc (qa (by(try dsimp only);omega)) ?_;conv=>whnf
     refine⟨(jr m1 s.b (n+s.w),true),⟨hfold,fun q v hv=>by have:=hb2 q v hv;omega⟩,Wk.sub ⟨rfl,rfl,rfl,rfl,rfl,rfl,rfl,rfl,trivial⟩ ⟨?_,trivial⟩⟩;exact congrArg (fun z=>some (Obj.map z)) (qS (kd:=Per.d) (vd:=qu) (n+s.w) h3)
    | some v2=>
     obtain⟨iy,_,hy1,hy2,_⟩:=qs (kd:=Per.d) (vd:=qu) zB h3 0;refine⟨_,hy1,?_⟩;conv=>whnf
     refine qc (qa (by(try dsimp only);omega)) ?_;conv=>whnf
     refine qg (fun h4=>?_) (fun h4=>?_)
     ·have h4:n+s.w<v2:=of_decide_eq_true h4
      have ht:qeV (m1,ch) s=(jr m1 s.b (n+s.w),true):=by unfold qeV;simp only[h2,h3];rw[if_pos h4]
      conv=>whnf
      refine qc (qa (by(try dsimp only);omega)) ?_;conv=>whnf
      refine⟨_,hy1,?_⟩;rw[ht]at hfold hb2;conv=>whnf
      refine qc (qa (by(try dsimp only);omega)) ?_;conv=>whnf
      refine⟨(jr m1 s.b (n+s.w),true),⟨hfold,fun q v hv=>by have:=hb2 q v hv;omega⟩,Wk.sub ⟨rfl,rfl,rfl,rfl,rfl,rfl,rfl,rfl,trivial⟩ ⟨?_,trivial⟩⟩
      (show some (Obj.map ((pmD m1).set (0+iy) (s.b.d,i64 (n+s.w))))=_);rw[Nat.zero_add];exact congrArg (fun z=>some (Obj.map z)) (hy2 (n+s.w))
     ·have h4:¬ n+s.w<v2:=of_decide_eq_false h4
      have ht:qeV (m1,ch) s=(m1,ch):=by unfold qeV;simp only[h2,h3];rw[if_neg h4]
      rw[ht]at hfold hb2;conv=>whnf
      refine qc (qa (by(try dsimp only);omega)) ?_;conv=>whnf
      exact⟨(m1,ch),⟨hfold,fun q v hv=>by have:=hb2 q v hv;omega⟩,(Wk.sub (by repeat' first|exact trivial|refine⟨?_,?_⟩|rfl|(simp only[List.length_map];rfl)|simp[PX.get]) ⟨(by first | rfl | (simp only[List.length_map];rfl) | simp[PX.get]),trivial⟩)⟩
  ·rintro ⟨m1,ch⟩ ⟨hfold,hbm⟩
   have hfold:(m1,ch)=RM:=hfold;conv=>whnf
   refine qg (fun h=>absurd h (by simp)) (fun _=>?_);conv=>whnf
   refine qg (fun h2=>?_) (fun h2=>?_)
   ·have h2:ch=false:=by simpa using h2
    subst h2;rw[<- hfold]at hr;simp only[if_false,Bool.false_eq_true]at hr;subst hr;have hbT:qkD m1 10000000000:=fun q v hv=>by have:=hbm q v hv;omega
    clear hbm;conv=>whnf
    refine zf (T:=tys) qh (by exact qd mixed qh (by decide +kernel)) x.steps (fun k (_:Unit)=>⟨[(0,.d (jH l x)),(6,.mp 16),(75,.d (qlC x.steps)),(76,.d (i64 x.steps.length)),(77,.d (i64 k))],[(16,.map (pmD m1))],st⟩)
     (fun k r _=>qlw x m1=r.all fun s=>decide (atM m1 s.b<=atM m1 s.a+s.w)) () (Wk.sub (by repeat' first|exact trivial|refine⟨?_,?_⟩|rfl|(simp only[List.length_map];rfl)|simp[PX.get]) ⟨(by first | rfl | (simp only[List.length_map];rfl) | simp[PX.get]),trivial⟩) rfl ?_ ?_
    ·rintro k s r _ hs hk hr2 hall
     have hsw:=hR.w s (List.mem_of_getElem? hs);rw[List.all_cons]at hall;conv=>whnf
     refine qg (fun _=>?_) (fun h=>absurd hk (by simpa using h));conv=>whnf
     refine qy hs ?_;conv=>whnf
     have hba:=hbT s.a;have hbb:=hbT s.b
     cases h2:zj m1 s.a with
     | none=>
      have e1:atM m1 s.a=0:=by unfold atM;rw[h2];rfl
      rw[e1]at hall;refine⟨none,ql (kd:=Per.d) zB h2 0,?_⟩;conv=>whnf
      refine qc (qa (by(try dsimp only);omega)) ?_;conv=>whnf
      cases h3:zj m1 s.b with
      | none=>
       have e2:atM m1 s.b=0:=by unfold atM;rw[h3];rfl
       rw[e2]at hall;refine⟨none,ql (kd:=Per.d) zB h3 0,?_⟩;conv=>whnf
       refine qg (fun h4=>?_) (fun h4=>?_)
       ·have h4:0+s.w<0:=of_decide_eq_true h4
        rw[decide_eq_false (by omega),Bool.false_and]at hall;rw[hall];simp only[if_false,Bool.false_eq_true];conv=>whnf
        exact qb 0 rfl ⟨⟨rfl,rfl⟩,rfl⟩
       ·have h4:¬ 0+s.w<0:=of_decide_eq_false h4
        rw[decide_eq_true (by omega),Bool.true_and]at hall;conv=>whnf
        refine qc (qa (by(try dsimp only);omega)) ?_;conv=>whnf
        exact⟨(),hall,(Wk.sub (by repeat' first|exact trivial|refine⟨?_,?_⟩|rfl|(simp only[List.length_map];rfl)|simp[PX.get]) ⟨(by first | rfl | (simp only[List.length_map];rfl) | simp[PX.get]),trivial⟩)⟩
      | some v2=>
       have e2:atM m1 s.b=v2:=by unfold atM;rw[h3];rfl
       rw[e2]at hall;obtain⟨iy,_,hy1,_⟩:=qs (kd:=Per.d) (vd:=qu) zB h3 0;refine⟨_,hy1,?_⟩;conv=>whnf
       refine qg (fun h4=>?_) (fun h4=>?_)
       ·have h4:0+s.w<v2:=of_decide_eq_true h4
        rw[decide_eq_false (by omega),Bool.false_and]at hall;rw[hall];simp only[if_false,Bool.false_eq_true];conv=>whnf
        exact qb 0 rfl ⟨⟨rfl,rfl⟩,rfl⟩
       ·have h4:¬ 0+s.w<v2:=of_decide_eq_false h4
        rw[decide_eq_true (by omega),Bool.true_and]at hall;conv=>whnf
        refine qc (qa (by(try dsimp only);omega)) ?_;conv=>whnf
        exact⟨(),hall,(Wk.sub (by repeat' first|exact trivial|refine⟨?_,?_⟩|rfl|(simp only[List.length_map];rfl)|simp[PX.get]) ⟨(by first | rfl | (simp only[List.length_map];rfl) | simp[PX.get]),trivial⟩)⟩
     | some n=>
      have hn:=hba n h2;have e1:atM m1 s.a=n:=by unfold atM;rw[h2];rfl
      rw[e1]at hall;obtain⟨ix,_,hx1,_⟩:=qs (kd:=Per.d) (vd:=qu) zB h2 0;refine⟨_,hx1,?_⟩;conv=>whnf
      refine qc (qa (by(try dsimp only);omega)) ?_;conv=>whnf
      cases h3:zj m1 s.b with
      | none=>
       have e2:atM m1 s.b=0:=by unfold atM;rw[h3];rfl
       rw[e2]at hall;refine⟨none,ql (kd:=Per.d) zB h3 0,?_⟩;conv=>whnf
       refine qg (fun h4=>?_) (fun h4=>?_)
       ·have h4:n+s.w<0:=of_decide_eq_true h4
        rw[decide_eq_false (by omega),Bool.false_and]at hall;rw[hall];simp only[if_false,Bool.false_eq_true];conv=>whnf
        exact qb 0 rfl ⟨⟨rfl,rfl⟩,rfl⟩
       ·have h4:¬ n+s.w<0:=of_decide_eq_false h4
        rw[decide_eq_true (by omega),Bool.true_and]at hall;conv=>whnf
        refine qc (qa (by(try dsimp only);omega)) ?_;conv=>whnf
        exact⟨(),hall,(Wk.sub (by repeat' first|exact trivial|refine⟨?_,?_⟩|rfl|(simp only[List.length_map];rfl)|simp[PX.get]) ⟨(by first | rfl | (simp only[List.length_map];rfl) | simp[PX.get]),trivial⟩)⟩
      | some v2=>
       have e2:atM m1 s.b=v2:=by unfold atM;rw[h3];rfl
       rw[e2]at hall;obtain⟨iy,_,hy1,_⟩:=qs (kd:=Per.d) (vd:=qu) zB h3 0;refine⟨_,hy1,?_⟩;conv=>whnf
       refine qg (fun h4=>?_) (fun h4=>?_)
       ·have h4:n+s.w<v2:=of_decide_eq_true h4
        rw[decide_eq_false (by omega),Bool.false_and]at hall;rw[hall];simp only[if_false,Bool.false_eq_true];conv=>whnf
        exact qb 0 rfl ⟨⟨rfl,rfl⟩,rfl⟩
       ·have h4:¬ n+s.w<v2:=of_decide_eq_false h4
        rw[decide_eq_true (by omega),Bool.true_and]at hall;conv=>whnf
        refine qc (qa (by(try dsimp only);omega)) ?_;conv=>whnf
        exact⟨(),hall,(Wk.sub (by repeat' first|exact trivial|refine⟨?_,?_⟩|rfl|(simp only[List.length_map];rfl)|simp[PX.get]) ⟨(by first | rfl | (simp only[List.length_map];rfl) | simp[PX.get]),trivial⟩)⟩
    ·rintro _ hall
     have hall:qlw x m1=true:=hall;rw[hall];simp only[if_true];conv=>whnf
     refine qg (fun h=>absurd h (by simp)) (fun _=>?_);conv=>whnf
     refine qb 1 (ds:=[.mv (pmD m1),.bool true]) (qx (qfD rfl) rfl) ⟨⟨rfl,rfl⟩,rfl⟩
   ·have h2:ch=true:=by simpa using h2
    subst h2;rw[<- hfold]at hr;simp only[if_true]at hr;conv=>whnf
    refine qc (qa (by(try dsimp only);omega)) ?_;conv=>whnf
    exact⟨(i+1,m1),by simp only;omega,⟨by simp only;omega,fun q v hv=>by have:=hbm q v hv;simp only;omega,by simp only;rw[show N-(i+1)=f by omega];exact hr⟩,(Wk.sub (by repeat' first|exact trivial|refine⟨?_,?_⟩|rfl|(simp only[List.length_map];rfl)|simp[PX.get]) ⟨(by first | rfl | (simp only[List.length_map];rfl) | simp[PX.get]),trivial⟩)⟩
 ·have h1:¬ i<N:=by have:=of_decide_eq_false h1;simp only at this;omega
  have hm:m=RES:=by rw[show N-i=0 by omega,qbo]at hr;exact hr
  subst hm;have hbT:qkD m 10000000000:=fun q v hv=>by have:=hb q v hv;omega
  clear hb;conv=>whnf
  refine zf (T:=tys) qh (by exact qd mixed qh (by decide +kernel)) x.steps (fun k (_:Unit)=>⟨[(0,.d (jH l x)),(6,.mp 16),(75,.d (qlC x.steps)),(76,.d (i64 x.steps.length)),(77,.d (i64 k))],[(16,.map (pmD m))],st⟩)
   (fun k r _=>qlw x m=r.all fun s=>decide (atM m s.b<=atM m s.a+s.w)) () (Wk.sub (by repeat' first|exact trivial|refine⟨?_,?_⟩|rfl|(simp only[List.length_map];rfl)|simp[PX.get]) ⟨(by first | rfl | (simp only[List.length_map];rfl) | simp[PX.get]),trivial⟩) rfl ?_ ?_
  ·rintro k s r _ hs hk hr2 hall
   have hsw:=hR.w s (List.mem_of_getElem? hs);rw[List.all_cons]at hall;conv=>whnf
   refine qg (fun _=>?_) (fun h=>absurd hk (by simpa using h));conv=>whnf
   refine qy hs ?_;conv=>whnf
   have hba:=hbT s.a;have hbb:=hbT s.b
   cases h2:zj m s.a with
   | none=>
    have e1:atM m s.a=0:=by unfold atM;rw[h2];rfl
    rw[e1]at hall;refine⟨none,ql (kd:=Per.d) zB h2 0,?_⟩;conv=>whnf
    refine qc (qa (by(try dsimp only);omega)) ?_;conv=>whnf
    cases h3:zj m s.b with
    | none=>
     have e2:atM m s.b=0:=by unfold atM;rw[h3];rfl
     rw[e2]at hall;refine⟨none,ql (kd:=Per.d) zB h3 0,?_⟩;conv=>whnf
     refine qg (fun h4=>?_) (fun h4=>?_)
     ·have h4:0+s.w<0:=of_decide_eq_true h4
      rw[decide_eq_false (by omega),Bool.false_and]at hall;rw[hall];simp only[if_false,Bool.false_eq_true];conv=>whnf
      exact qb 0 rfl ⟨⟨rfl,rfl⟩,rfl⟩
     ·have h4:¬ 0+s.w<0:=of_decide_eq_false h4
      rw[decide_eq_true (by omega),Bool.true_and]at hall;conv=>whnf
      refine qc (qa (by(try dsimp only);omega)) ?_;conv=>whnf
      exact⟨(),hall,(Wk.sub (by repeat' first|exact trivial|refine⟨?_,?_⟩|rfl|(simp only[List.length_map];rfl)|simp[PX.get]) ⟨(by first | rfl | (simp only[List.length_map];rfl) | simp[PX.get]),trivial⟩)⟩
    | some v2=>
     have e2:atM m s.b=v2:=by unfold atM;rw[h3];rfl
     rw[e2]at hall;obtain⟨iy,_,hy1,_⟩:=qs (kd:=Per.d) (vd:=qu) zB h3 0;refine⟨_,hy1,?_⟩;conv=>whnf
     refine qg (fun h4=>?_) (fun h4=>?_)
     ·have h4:0+s.w<v2:=of_decide_eq_true h4
      rw[decide_eq_false (by omega),Bool.false_and]at hall;rw[hall];simp only[if_false,Bool.false_eq_true];conv=>whnf
      exact qb 0 rfl ⟨⟨rfl,rfl⟩,rfl⟩
     ·have h4:¬ 0+s.w<v2:=of_decide_eq_false h4
      rw[decide_eq_true (by omega),Bool.true_and]at hall;conv=>whnf
      refine qc (qa (by(try dsimp only);omega)) ?_;conv=>whnf
      exact⟨(),hall,(Wk.sub (by repeat' first|exact trivial|refine⟨?_,?_⟩|rfl|(simp only[List.length_map];rfl)|simp[PX.get]) ⟨(by first | rfl | (simp only[List.length_map];rfl) | simp[PX.get]),trivial⟩)⟩
   | some n=>
    have hn:=hba n h2;have e1:atM m s.a=n:=by unfold atM;rw[h2];rfl
    rw[e1]at hall;obtain⟨ix,_,hx1,_⟩:=qs (kd:=Per.d) (vd:=qu) zB h2 0;refine⟨_,hx1,?_⟩;conv=>whnf
    refine qc (qa (by(try dsimp only);omega)) ?_;conv=>whnf
    cases h3:zj m s.b with
    | none=>
     have e2:atM m s.b=0:=by unfold atM;rw[h3];rfl
     rw[e2]at hall;refine⟨none,ql (kd:=Per.d) zB h3 0,?_⟩;conv=>whnf
     refine qg (fun h4=>?_) (fun h4=>?_)
     ·have h4:n+s.w<0:=of_decide_eq_true h4
      rw[decide_eq_false (by omega),Bool.false_and]at hall;rw[hall];simp only[if_false,Bool.false_eq_true];conv=>whnf
      exact qb 0 rfl ⟨⟨rfl,rfl⟩,rfl⟩
     ·have h4:¬ n+s.w<0:=of_decide_eq_false h4
      rw[decide_eq_true (by omega),Bool.true_and]at hall;conv=>whnf
      refine qc (qa (by(try dsimp only);omega)) ?_;conv=>whnf
      exact⟨(),hall,(Wk.sub (by repeat' first|exact trivial|refine⟨?_,?_⟩|rfl|(simp only[List.length_map];rfl)|simp[PX.get]) ⟨(by first | rfl | (simp only[List.length_map];rfl) | simp[PX.get]),trivial⟩)⟩
    | some v2=>
     have e2:atM m s.b=v2:=by unfold atM;rw[h3];rfl
     rw[e2]at hall;obtain⟨iy,_,hy1,_⟩:=qs (kd:=Per.d) (vd:=qu) zB h3 0;refine⟨_,hy1,?_⟩;conv=>whnf
     refine qg (fun h4=>?_) (fun h4=>?_)
     ·have h4:n+s.w<v2:=of_decide_eq_true h4
      rw[decide_eq_false (by omega),Bool.false_and]at hall;rw[hall];simp only[if_false,Bool.false_eq_true];conv=>whnf
      exact qb 0 rfl ⟨⟨rfl,rfl⟩,rfl⟩
     ·have h4:¬ n+s.w<v2:=of_decide_eq_false h4
      rw[decide_eq_true (by omega),Bool.true_and]at hall;conv=>whnf
      refine qc (qa (by(try dsimp only);omega)) ?_;conv=>whnf
      exact⟨(),hall,(Wk.sub (by repeat' first|exact trivial|refine⟨?_,?_⟩|rfl|(simp only[List.length_map];rfl)|simp[PX.get]) ⟨(by first | rfl | (simp only[List.length_map];rfl) | simp[PX.get]),trivial⟩)⟩
  ·rintro _ hall
   have hall:qlw x m=true:=hall;rw[hall];simp only[if_true];conv=>whnf
   refine qg (fun h=>absurd h (by simp)) (fun _=>?_);conv=>whnf
   refine qb 1 (ds:=[.mv (pmD m),.bool true]) (qx (qfD rfl) rfl) ⟨⟨rfl,rfl⟩,rfl⟩
end Go.PX
namespace Go.PX
open Go.Proofs
theorem qlD{x:LkS}(hR:LookR x):∀ (l:List zl) {y:PM×Bool} {B:Int},(∀ e∈l,e∈x.steps)->qkD y.1 B->qkD (l.foldl qeV y).1 (B+1100000*l.length)
 | [],y,B,_,h=>by simpa using h
 | s::r,y,B,hl,h=>by
  rw[List.foldl_cons];have:=qlD hR r (fun e he=>hl e (by simp[he])) (qne h (hR.w s (hl s (by simp))));intro p v hv;have:=this p v hv;rw[List.length_cons];omega
theorem qhI{x:LkS}(hR:LookR x):∀ (k:Nat) {m:PM} {B:Int},qkD m B->0<=B->qkD (qbo x.steps k m) (B+100000000*k)
 | 0,m,B,h,_=>by rw[qbo];simpa using h
 | k+1,m,B,h,hB=>by
  have h1:=qlD hR x.steps (y:=(m,false)) (fun e he=>he) h;have hl:=hR.len;have h2:qkD (qgE x.steps m).1 (B+100000000):=fun p v hv=>by have:=h1 p v hv;omega
  rw[qbo]
  split
  ·intro p v hv
   have:=qhI hR k h2 (by omega) p v hv;omega
  ·intro p v hv
   have:=h2 p v hv;omega
theorem far_bnd{x:LkS}(hR:LookR x)(p:Per):qkD (qdl x p) 4000000000:=by
 have h0:qkD [(p,(0:Int))] 0:=fun q v hv=>by
  rw[zj]at hv
  split at hv
  ·cases hv;simp
  ·cases hv
 have:=qhI hR (x.many+2).toNat h0 (Int.le_refl 0);have hm:=hR.many;intro q v hv;have:=this q v hv;omega
theorem qjM{x:LkS}(hR:LookR x)(p q:Per) : -4000000000<=atM (qdl x p) q/\atM (qdl x p) q<=4000000000:=by
 unfold atM
 cases h:zj (qdl x p) q with
 | none=>simp
 | some v=>exact far_bnd hR p q v h
theorem qkF(m:PM)(q:Per):∃ r,qcC q.d (pmD m) 0=some r/\((r=none/\atM m q=0) \/ ∃ i,r=some (i,i64 (atM m q))):=by
 cases h:zj m q with
 | none=>exact⟨none,ql (kd:=Per.d) zB h 0,.inl ⟨rfl,by unfold atM;rw[h];rfl⟩⟩
 | some v=>
  obtain⟨ix,_,hx,_⟩:=qs (kd:=Per.d) (vd:=qu) zB h 0;exact⟨_,hx,.inr ⟨0+ix,by unfold atM;rw[h];rfl⟩⟩
theorem qqe(l:PLog)(x:LkS)(hR:LookR x)(p q:Per)(hp:qlw x (qdl x p)=true)(hq:qlw x (qdl x q)=true):FnV Tryz.prog 72 [jH l x,p.d,q.d] (zK x p q).d:=by
 refine qC mixed qh Tryz.func72 rfl (ft:=ft72) 3 (by decide +kernel) (by rfl) fun {σ} Y st=>?_;conv=>whnf
 have h1:FnV Tryz.prog 69 [jH l x,q.d] (.tup [.mv (pmD (qdl x q)),.bool true]):=FnV.cast (fun {σ}=>qpp l x hR q) (by rw[hq];rfl);have h2:FnV Tryz.prog 69 [jH l x,p.d] (.tup [.mv (pmD (qdl x p)),.bool true]):=FnV.cast (fun {σ}=>qpp l x hR p) (by rw[hp];rfl);have hb:=qjM hR p q;refine qe (h1) rfl rfl ?_;conv=>whnf
 refine qe (h2) rfl rfl ?_;conv=>whnf
 obtain⟨r1,hr1,hc1⟩:=qkF (qdl x p) q;refine⟨r1,hr1,?_⟩
 rcases hc1 with⟨rfl,e1⟩ | ⟨i1,rfl⟩
 ·conv=>whnf
  refine qc (qa (by(try dsimp only);omega)) ?_;conv=>whnf
  obtain⟨r2,hr2,hc2⟩:=qkF (qdl x q) p;refine⟨r2,hr2,?_⟩
  rcases hc2 with⟨rfl,e2⟩ | ⟨i2,rfl⟩
  ·have hd:(zK x p q).d = .agg [i64 (0-0),i64 0]:=by unfold zK;rw[e2,Int.zero_sub];rw[e1];rfl
   rw[hd];conv=>whnf
   exact qb 0 rfl ⟨⟨rfl,rfl⟩,rfl⟩
  ·have hd:(zK x p q).d = .agg [i64 (0-0),i64 (atM (qdl x q) p)]:=by unfold zK;rw[Int.zero_sub];rw[e1];rfl
   rw[hd];conv=>whnf
   exact qb 0 rfl ⟨⟨rfl,rfl⟩,rfl⟩
 ·conv=>whnf
  refine qc (qa (by(try dsimp only);omega)) ?_;conv=>whnf
  obtain⟨r2,hr2,hc2⟩:=qkF (qdl x q) p;refine⟨r2,hr2,?_⟩
  rcases hc2 with⟨rfl,e2⟩ | ⟨i2,rfl⟩
  ·have hd:(zK x p q).d = .agg [i64 (0-atM (qdl x p) q),i64 0]:=by unfold zK;rw[e2,Int.zero_sub];rfl
   rw[hd];conv=>whnf
   exact qb 0 rfl ⟨⟨rfl,rfl⟩,rfl⟩
  ·have hd:(zK x p q).d = .agg [i64 (0-atM (qdl x p) q),i64 (atM (qdl x q) p)]:=by unfold zK;rw[Int.zero_sub];rfl
   rw[hd];conv=>whnf
   exact qb 0 rfl ⟨⟨rfl,rfl⟩,rfl⟩
end Go.PX
namespace Go.PX
open Go.Proofs
def qdx(l:PLog)(i:Int):PBook:=(l.books[i.toNat]?).getD ⟨.empty,⟨0,0⟩,⟨0,0⟩,[]⟩
def qA(l:PLog):Int:=(qak l).2.2
def qlZ(l:PLog):Bool×Int:=if qA l=0 then (qbB l 0 [],0) else (false,qA l)
def qoV(l:PLog)(book:Int):List Span:=(List.range (jm (qdx l book).ents+1)).map fun(n:Nat)=>zK (qZ l 0 []) ⟨book,n⟩ .right
def qkG(l:PLog)(book:Int):List Span×Int:=
 if qA l=0 then
  if qbV book 0 ((l.books.length:Int)-1) then ([],4)
  else if qbB l 0 [] then (qoV l book,0) else ([],9)
 else ([],qA l)
def qnZ(l:PLog)(x:PAt):Bool:=!qbV x.book 0 ((l.books.length:Int)-1) && !qbV x.entry 0 (((qdx l x.book).ents.length:Int)-1)
def qbv(l:PLog)(xs:List PAt):Int:=if qA l=0 then (if xs.all (qnZ l) then 0 else 4) else qA l
def qiz(l:PLog)(xs:List PAt):Int:=if qbv l xs=0 then (if qbB l 0 [] then 0 else 9) else qbv l xs
def qoa(l:PLog)(x:PAt):Per:=qjB (qZ l 0 []).pers x
def qnF(l:PLog)(x:PAt):Span:=
 ⟨(qeU l x).shown-(zK (qZ l 0 []) (qoa l x) .right).hi,(qeU l x).shown-(zK (qZ l 0 []) (qoa l x) .right).lo⟩
def qiA(l:PLog)(x:PAt):Span×Int:=if qiz l [x]=0 then (qnF l x,0) else (⟨0,0⟩,qiz l [x])
def qcW(l:PLog)(a b:PAt):Span:=
 ⟨((qeU l b).shown-(qeU l a).shown)-(zK (qZ l 0 []) (qoa l b) (qoa l a)).hi,((qeU l b).shown-(qeU l a).shown)-(zK (qZ l 0 []) (qoa l b) (qoa l a)).lo⟩
def qnf(s:Span):Int:=if s=⟨0,0⟩ then 3 else if 0<s.lo then 1 else if s.hi<0 then 2 else 0
def qev(l:PLog)(a b:PAt):Span×Int×Int:=if qiz l [a,b]=0 then (qcW l a b,qnf (qcW l a b),0) else (⟨0,0⟩,0,qiz l [a,b])
def qoo(l:PLog)(x:PAt)(i k:Nat)(y:PEnt):Bool:=
 !decide ((i:Int)=x.book)&&(decide (y.kind=1)&&(decide (y.word=(qeU l x).word)&&(decide ((qcW l x ⟨i,k⟩).lo<=l.near)&&decide (-l.near<=(qcW l x ⟨i,k⟩).hi))))
def qma(l:PLog)(x:PAt)(i:Nat):Nat->List PEnt->List PAt
 | _,[]=>[]
 | k,y::r=>if qoo l x i k y then ⟨i,k⟩::qma l x i (k+1) r else qma l x i (k+1) r
def qgI(l:PLog)(x:PAt):Nat->List PBook->List PAt
 | _,[]=>[]
 | i,b::r=>qma l x i 0 b.ents++qgI l x (i+1) r
def qnG(l:PLog)(x:PAt):List PAt×Int:=
 if qbv l [x]=0 then
  if (qeU l x).kind=1 then (if qbB l 0 [] then (qgI l x 0 l.books,0) else ([],9)) else ([],2)
 else ([],qbv l [x])
def qaF(does:Int->Bool):Nat->Int->Int->Int
 | 0,_,hi=>hi
 | k+1,lo,hi=>if hi-lo>1 then (if does ((lo+hi)/2) then qaF does k lo ((lo+hi)/2) else qaF does k ((lo+hi)/2) hi) else hi
def qng(l:PLog):Int×Int:=
 if qA l=0 then (if qbB l 1048576 [] then (qaF (fun w=>qbB l w []) 40 (-1) 1048576,0) else (0,9)) else (0,qA l)
def qjN(b:PBook)(n:Int):Nat:=(b.ents.filter fun y=>decide (y.kind=3/\y.number=n)).length
def inN(l:PLog)(n:Int):Nat:=(l.books.filter fun b=>decide (0<qjN b n)).length
def qnH(l:PLog)(n:Int):Nat:=(l.books.map fun b=>qjN b n).foldl max 0
def jg(l:PLog):List Int:=((List.range' 0 100).map fun(n:Nat)=>(n:Int)).filter fun n=>decide (1<inN l n)
def qap(of:List Int):Nat->List Int->Nat->List (List Int)
 | 0,p,_=>[p]
 | left+1,p,start=>(List.range' start (of.length-left-start)).flatMap fun(i:Nat)=>qap of left (p ++ [(of[i]?).getD 0]) (i+1)
def qhJ(of:List Int):List (List Int):=(List.range' 0 (of.length+1)).flatMap fun(n:Nat)=>qap of n [] 0
def qdP(l:PLog):List Int×Int:=
 if qA l=0 then (match (qhJ (jg l)).find? (qbB l 0) with
  | some c=>(c,0)
  | none=>([],9)) else ([],qA l)
def qjO(l:PLog):List PEnt:=(l.books.flatMap PBook.ents).filter fun y=>decide (y.kind=3)
def qfq:List (Int×ByteArray)->List PEnt->Bool
 | _,[]=>false
 | m,y::r=>match zj m y.number with
  | some w=>if w=y.word then qfq (jr m y.number y.word) r else true
  | none=>qfq (jr m y.number y.word) r
def qiB(l:PLog):Int:=(qjO l).foldl (fun m y=>max m y.number) 0
def qoW(l:PLog):List Int:=((List.range' 1 (qiB l).toNat).map fun(n:Nat)=>(n:Int)).filter fun n=>decide (inN l n=0)
def qoX(l:PLog):List Int:=((List.range' 1 (qiB l).toNat).map fun(n:Nat)=>(n:Int)).filter fun n=>decide (inN l n≠0)&&decide (1<qnH l n)
def qoY(l:PLog):List Int×List Int×Int:=
 if qA l=0 then (if qfq [] (qjO l) then ([],[],5) else (qoW l,qoX l,0)) else ([],[],qA l)
theorem qlE:∀ {r:List PEnt} {k:Nat},(∀ x∈r,qkj x=0)->qdq r k=(0,0)
 | [],_,_=>rfl
 | y::r,k,h=>by rw[qdq,if_pos (h y (List.mem_cons_self ..))];exact qlE fun x hx=>h x (List.mem_cons_of_mem _ hx)
theorem qlF:∀ {r:List PEnt} {k:Nat},(qdq r k).2=0 -> ∀ x∈r,qkj x=0
 | [],_,_,x,hx=>by cases hx
 | y::r,k,h,x,hx=>by
  rw[qdq]at h
  split at h
  ·rename_i h1
   rcases List.mem_cons.1 hx with rfl | hx
   ·exact h1
   ·exact qlF h x hx
  ·rename_i h1;exact absurd h h1
theorem qhK:∀ {bs pre:List PBook} {i:Nat},(qaO pre bs i).2.2=0 ↔ ∀ k b,bs[k]?=some b->qgH (pre++bs.take k) b=0 /\ ∀ x∈b.ents,qkj x=0
 | [],pre,i=>by simp[qaO]
 | c::r,pre,i=>by
  rw[qaO]
  by_cases h1:qgH pre c=0
  ·rw[if_pos h1]
   by_cases h2:(qdq c.ents 0).2=0
   ·rw[if_pos h2,qhK]
    constructor
    ·intro h k b hb
     cases k with
     | zero=>
      rw[List.getElem?_cons_zero]at hb
      cases hb
      rw[List.take_zero,List.append_nil];exact⟨h1,qlF h2⟩
     | succ k=>
      rw[List.getElem?_cons_succ]at hb;have:=h k b hb;rw[List.take_succ_cons]
      rwa [List.append_assoc]at this
    ·intro h k b hb
     have:=h (k+1) b (by rw[List.getElem?_cons_succ];exact hb);rw[List.take_succ_cons]at this
     rwa [List.append_assoc]
   ·rw[if_neg h2]
    constructor
    ·intro h;exact absurd h h2
    ·intro h
     have:=(h 0 c rfl).2;exact absurd (by rw[qlE this]) h2
  ·rw[if_neg h1]
   constructor
   ·intro h;exact absurd h h1
   ·intro h
    have:=(h 0 c rfl).1;rw[List.take_zero,List.append_nil]at this;exact absurd this h1
theorem qnh{n lo hi:Int}:inB n lo hi=true↔lo<=n/\n<=hi:=by
 unfold inB;rw[Bool.and_eq_true,decide_eq_true_eq,decide_eq_true_eq]
theorem zC{n lo hi:Int}:qbV n lo hi=false↔lo<=n/\n<=hi:=by
 unfold qbV;rw[Bool.not_eq_false',qnh]
theorem qbW{l:PLog}:qA l=0↔(0<=l.near/\l.near<=60)/\(1<=l.books.length/\l.books.length<=3) /\ ∀ k b,l.books[k]?=some b->qgH (l.books.take k) b=0 /\ ∀ x∈b.ents,qkj x=0:=by
 unfold qA qak
 cases h1:qbV l.near 0 60 with
 | true=>
  simp only[if_true];constructor
  ·intro h;cases h
  ·intro h
   have:=zC.2 h.1;rw[h1]at this;cases this
 | false=>
  simp only[Bool.false_eq_true,if_false];have h1:=zC.1 h1
  cases h2:qbV l.books.length 1 3 with
  | true=>
   simp only[if_true];constructor
   ·intro h;cases h
   ·intro h
    have:=zC (n:=l.books.length) (lo:=1) (hi:=3) |>.2 (by omega)
    rw[h2]at this;cases this
  | false=>
   simp only[Bool.false_eq_true,if_false];have h2:=zC.1 h2;rw[qhK];simp only[List.nil_append];exact⟨fun h=>⟨h1,by omega,h⟩,fun h=>h.2.2⟩
theorem qbq{l:PLog}(h:qA l=0):qak l=(0,0,0):=by
 have key:∀ {bs pre:List PBook} {i:Nat},(qaO pre bs i).2.2=0->qaO pre bs i=(0,0,0):=by
  intro bs
  induction bs with
  | nil=>intros;rfl
  | cons c r ih=>
   intro pre i h;rw[qaO]at h ⊢
   by_cases h1:qgH pre c=0
   ·rw[if_pos h1]at h ⊢
    by_cases h2:(qdq c.ents 0).2=0
    ·rw[if_pos h2]at h ⊢
     exact ih h
    ·rw[if_neg h2]at h;exact absurd h h2
   ·rw[if_neg h1]at h;exact absurd h h1
 have hi:=qbW.1 h;have h1:=zC.2 hi.1;have h2:=zC (n:=l.books.length) (lo:=1) (hi:=3) |>.2 (by omega)
 unfold qA qak at h;unfold qak;rw[h1,h2]at h ⊢;simp only[Bool.false_eq_true,if_false]at h ⊢;exact key h
structure EntR(x:PEnt):Prop where
 shown:0<=x.shown/\x.shown<=20000
 kind:1<=x.kind/\x.kind<=3
 number:0<=x.number/\x.number<=99
 pass:x.kind=1->qai x.word=true/\x.number=0
 set:x.kind=2->x.word = .empty/\x.number=0
 rep:x.kind=3->qai x.word=true/\1<=x.number
theorem qiC{x:PEnt}:qkj x=0↔EntR x:=by
 unfold qkj
 cases h0:qbV x.shown 0 20000 with
 | true=>
  simp only[if_true];refine⟨fun h=>(by cases h),fun h=>?_⟩;have:=zC.2 h.shown;rw[h0]at this;cases this
 | false=>
  have h0:=zC.1 h0;simp only[Bool.false_eq_true,if_false]
  by_cases h1:x.kind=1
  ·rw[if_pos h1]
   constructor
   ·intro h
    split at h
    case isFalse=>cases h
    rename_i h2;rw[Bool.and_eq_true,decide_eq_true_eq]at h2;exact⟨h0,by omega,by omega,fun _=>h2,fun h=>by omega,fun h=>by omega⟩
   ·intro h
    rw[if_pos (by rw[(h.pass h1).1,decide_eq_true (h.pass h1).2];rfl)]
  ·rw[if_neg h1]
   by_cases h2:x.kind=2
   ·rw[if_pos h2]
    constructor
    ·intro h
     split at h
     case isFalse=>cases h
     rename_i h3;rw[Bool.and_eq_true,decide_eq_true_eq,decide_eq_true_eq]at h3;exact⟨h0,by omega,by omega,fun h=>by omega,fun _=>h3,fun h=>by omega⟩
    ·intro h
     rw[if_pos (by rw[decide_eq_true (h.set h2).1,decide_eq_true (h.set h2).2];rfl)]
   ·rw[if_neg h2]
    by_cases h3:x.kind=3
    ·rw[if_pos h3]
     constructor
     ·intro h
      split at h
      case isFalse=>cases h
      rename_i h4;rw[Bool.and_eq_true,Bool.not_eq_true',zC]at h4;exact⟨h0,by omega,by omega,fun h=>by omega,fun h=>by omega,fun _=>⟨h4.1,h4.2.1⟩⟩
     ·intro h
      have:=zC (n:=x.number) (lo:=1) (hi:=99) |>.2 ⟨(h.rep h3).2,h.number.2⟩
      rw[if_pos (by rw[(h.rep h3).1,this];rfl)]
    ·rw[if_neg h3]
     exact⟨fun h=>(by cases h),fun h=>by have:=h.kind;omega⟩
structure HeadR(pre:List PBook)(b:PBook):Prop where
 name:qai b.name=true
 fresh:∀ x∈pre,x.name≠b.name
 off : -720<=b.off.lo/\b.off.lo<=b.off.hi/\b.off.hi<=720
 set : -720<=b.set.lo/\b.set.lo<=b.set.hi/\b.set.hi<=720
 ents:b.ents.length<=8
theorem qcX{pre:List PBook}{b:PBook}:qgH pre b=0↔HeadR pre b:=by
 unfold qgH
 cases h1:qai b.name with
 | false=>
  simp only[Bool.false_eq_true,if_false];exact⟨fun h=>(by cases h),fun h=>by rw[h.name]at h1;cases h1⟩
 | true=>
  simp only[if_true]
  cases h2:pre.any fun x=>decide (x.name=b.name) with
  | true=>
   simp only[if_true];refine⟨fun h=>(by cases h),fun h=>?_⟩;rw[List.any_eq_true]at h2;obtain⟨x,hx,he⟩:=h2;exact absurd (of_decide_eq_true he) (h.fresh x hx)
  | false=>
   simp only[Bool.false_eq_true,if_false];have hfr:∀ x∈pre,x.name≠b.name:=fun x hx he=>by
    rw[List.any_eq_false]at h2;exact h2 x hx (decide_eq_true he)
   cases h3:qbV b.off.lo (-720) 720||qbV b.off.hi (-720) 720||qbV b.set.lo (-720) 720||qbV b.set.hi (-720) 720 with
   | true=>
    simp only[if_true];refine⟨fun h=>(by cases h),fun h=>?_⟩;have ho:=h.off;have hs:=h.set;rw[zC.2 (by omega),zC.2 (by omega),zC.2 (by omega),zC.2 (by omega)]at h3
    cases h3
   | false=>
    simp only[Bool.or_eq_false_iff,zC]at h3;simp only[Bool.false_eq_true,if_false]
    cases h4:decide (b.off.lo>b.off.hi)||decide (b.set.lo>b.set.hi) with
    | true=>
     simp only[if_true];refine⟨fun h=>(by cases h),fun h=>?_⟩;have ho:=h.off;have hs:=h.set;rw[decide_eq_false (by omega),decide_eq_false (by omega)]at h4
     cases h4
    | false=>
     simp only[Bool.or_eq_false_iff,decide_eq_false_iff_not]at h4;simp only[Bool.false_eq_true,if_false]
     split
     ·rename_i h5
      exact⟨fun h=>(by cases h),fun h=>by have:=h.ents;omega⟩
     ·exact⟨fun _=>⟨h1,hfr,by omega,by omega,by omega⟩,fun _=>rfl⟩
theorem zV{l:PLog}(h:qA l=0):LogR l:=by
 obtain⟨h1,h2,h3⟩:=qbW.1 h;refine⟨h1,h2,fun b hb=>?_⟩;obtain⟨k,hk⟩:=List.getElem?_of_mem hb;obtain⟨h4,h5⟩:=h3 k b hk;have h4:=qcX.1 h4;exact⟨h4.off,h4.set,h4.ents,fun x hx=>by have:=qiC.1 (h5 x hx);exact⟨this.shown,this.kind,this.number⟩⟩
theorem qhL{l:PLog}(hR:LogR l){w:Int}(hw:0<=w/\w<=1048576)(conf:List Int):LookR (qZ l w conf):=by
 refine⟨look_len hR w conf,fun e he=>just_w hR hw (qlB e he),?_⟩;have h:=qix (N:=qaE l) (l:=l) (wider:=w) (conf:=conf) (by simp[qaE]) l.books (i:=0) (done:=[]) (s:=⟨[],0,[],[]⟩) ⟨fun e he=>(by cases he),fun x hx=>(by cases hx),rfl,fun p hp=>(by cases hp)⟩ (fun p hp=>List.mem_cons_of_mem _ hp);have hm:(qZ l w conf).many=((qbp 0 l.books).length:Nat):=by have:=h.many;rwa [List.nil_append]at this
 rw[hm,qhH];have key:∀ bs:List PBook,(∀ b∈bs,BookR b)->qgG bs<=9*bs.length:=by
  intro bs
  induction bs with
  | nil=>intro _;exact Nat.le_refl _
  | cons b r ih=>
   intro h;have:=ih fun c hc=>h c (List.mem_cons_of_mem _ hc);have h2:=qdn b;have h3:=(h b (List.mem_cons_self ..)).ents;rw[qeW,List.length_cons];omega
 have:=key l.books hR.book;have:=hR.books;omega
theorem qcv{l:PLog}{x:PAt}:qnZ l x=true ↔ ∃ (i k:Nat) (b:PBook) (y:PEnt),x=⟨i,k⟩/\At l i k b y:=by
 unfold qnZ;rw[Bool.and_eq_true,Bool.not_eq_true',Bool.not_eq_true',zC,zC];constructor
 ·rintro ⟨⟨h1,h2⟩,h3,h4⟩
  obtain⟨b,hb⟩:∃ b,l.books[x.book.toNat]?=some b:=⟨_,List.getElem?_eq_getElem (by omega)⟩;have hba:qdx l x.book=b:=by unfold qdx;rw[hb];rfl
  rw[hba]at h4;obtain⟨y,hy⟩:∃ y,b.ents[x.entry.toNat]?=some y:=⟨_,List.getElem?_eq_getElem (by omega)⟩;refine⟨x.book.toNat,x.entry.toNat,b,y,?_,hb,hy⟩
  cases x
  simp only[PAt.mk.injEq];simp only at h1 h3;omega
 ·rintro ⟨i,k,b,y,rfl,h⟩
  have h1:=(List.getElem?_eq_some_iff.1 h.book).1;have h2:=(List.getElem?_eq_some_iff.1 h.ent).1;have hba:qdx l ((⟨i,k⟩:PAt).book)=b:=by unfold qdx;simp only[Int.toNat_natCast,h.book,Option.getD_some]
  rw[hba];simp only;omega
theorem qdQ{l:PLog}{i k:Nat}{b:PBook}{y:PEnt}(h:At l i k b y):qoa l ⟨i,k⟩=⟨i,qN b k⟩:=
 qaj h ((qet l 0 []).pers.2 i b h.book (qnd h))
theorem qlG{l:PLog}{i n:Nat}{b:PBook}(h:l.books[i]?=some b)(hn:n<=jm b.ents):(⟨i,n⟩:Per)∈qaE l:=List.mem_of_getElem? (nodes_at h hn)
theorem qgJ{l:PLog}{x:PAt}(h0:qnZ l x=true):qoa l x∈qaE l:=by
 obtain⟨i,k,b,y,rfl,h⟩:=qcv.1 h0;rw[qdQ h];exact qlG h.book (qdm b k)
theorem qhM(l:PLog):Per.right∈qaE l:=List.mem_cons_self ..
theorem qiD{l:PLog}{w:Int}{conf:List Int}(hf:qbB l w conf=true){p:Per}(hp:p∈qaE l):qlw (qZ l w conf) (qdl (qZ l w conf) p)=true:=by
 have hs:=qjG l w conf;exact(hs.fit hp).2 ((hs.fit hs.right).1 hf)
end Go.PX
namespace Go.PX
open Go.Proofs
structure TruthX(l:PLog)(w:Int)(conf:List Int)(t:Per->Int):Prop where
 right:t .right=0
 off:∀ (i:Nat) b,l.books[i]?=some b->b.off.lo-w<=t ⟨i,0⟩/\t ⟨i,0⟩<=b.off.hi+w
 set:∀ (i:Nat) b (n:Nat),l.books[i]?=some b->1<=n->n<=jm b.ents->b.set.lo-w<=t ⟨i,n⟩/\t ⟨i,n⟩<=b.set.hi+w
 ord:∀ (i k:Nat) b x y,At l i k b x->At l i (k+1) b y->x.shown-t ⟨i,qN b k⟩<=y.shown-t ⟨i,qN b (k+1)⟩
 rep:∀ (i j m n:Nat) b c x y num,Rep l conf i j m n b c x y num->x.shown-t ⟨i,qN b m⟩=y.shown-t ⟨j,qN c n⟩
theorem qiE{w:Int}{p:Per}{s:Span}{t:Per->Int}(h0:t .right=0):(∀ e∈jh w p s,t e.b<=t e.a+e.w)↔s.lo-w<=t p/\t p<=s.hi+w:=by
 unfold jh;constructor
 ·intro h
  have h1:=h _ (List.mem_cons_self ..);have h2:=h ⟨p,.right,w-s.lo⟩ (by simp);simp only at h1 h2;omega
 ·intro h e he
  simp only[List.mem_cons,List.not_mem_nil,or_false]at he
  rcases he with rfl | rfl
  ·simp only;omega
  ·simp only;omega
theorem qjP{l:PLog}{w:Int}{conf:List Int}{t:Per->Int}:Truth l w conf t↔TruthX l w conf t:=by
 constructor
 ·intro h
  refine⟨h.right,fun i b hb=>(qiE h.right).1 fun e he=>h.ok e (.off i b hb e he),fun i b n hb h1 h2=>(qiE h.right).1 fun e he=>h.ok e (.set i b hb n h1 h2 e he),fun i k b x y hx hy=>?_,fun i j m n b c x y num hr=>?_⟩
  ·have:=h.ok _ (.ord i k b x y hx hy)
   unfold qcV at this;simp only at this;omega
  ·have h1:=h.ok _ (.rep i j m n b c x y num hr)
   have h2:=h.ok _ (.rep j i n m c b y x num ⟨hr.hb,hr.ha,hr.fb,hr.fa,hr.no⟩);unfold qcV at h1 h2;simp only at h1 h2;omega
 ·intro h
  refine⟨h.right,fun e he=>?_⟩
  cases he with
  | off i b hb e he=>exact(qiE h.right).2 (h.off i b hb) e he
  | set i b hb n h1 h2 e he=>exact(qiE h.right).2 (h.set i b n hb h1 h2) e he
  | ord i k b x y hx hy=>
   have:=h.ord i k b x y hx hy;unfold qcV;simp only;omega
  | rep i j m n b c x y num hr=>
   have:=h.rep i j m n b c x y num hr;unfold qcV;simp only;omega
theorem qiF{l:PLog}{w:Int}{conf:List Int}:qbB l w conf=true ↔ ∃ t,TruthX l w conf t:=by
 rw[fits_iff];constructor
 ·rintro ⟨t,h⟩;exact⟨t,qjP.1 h⟩
 ·rintro ⟨t,h⟩;exact⟨t,qjP.2 h⟩
end Go.PX
namespace Go.PX
open Go.Proofs
end Go.PX
namespace Go.PX
open Go.Proofs Go.RowKit Go.ChangeShapes
theorem c3:Tryz.prog.cellsOf 3=1:=by kernel_rfl
theorem c9:Tryz.prog.cellsOf 9=1:=by kernel_rfl
theorem c22:Tryz.prog.cellsOf 22=1:=by kernel_rfl
theorem c24:Tryz.prog.cellsOf 24=2:=by kernel_rfl
theorem c37:Tryz.prog.cellsOf 37=2:=by kernel_rfl
theorem c75:Tryz.prog.cellsOf 75=4:=by kernel_rfl
theorem c80:Tryz.prog.cellsOf 80=1:=by kernel_rfl
theorem c82:Tryz.prog.cellsOf 82=6:=by kernel_rfl
section
variable (W : World)
theorem qmb:Rd Tryz.prog W 3 fun ds=>∃ n,ds = [i64 n]:=Rd.int Tryz.underlying3
theorem qoZ:Rd Tryz.prog W 9 fun ds=>∃ s,ds = [.str s]:=Rd.str Tryz.underlying9
theorem qob:Rd Tryz.prog W 37 fun ds=>∃ p:Span,ds=p.cells:=
 (Rd.struct Tryz.underlying37 c37 (.cons rfl c3 (qmb W) (.cons rfl c3 (qmb W) (.nil _)))).mono fun ds h=>by
  obtain⟨_,_,rfl,⟨a,rfl⟩,_,_,rfl,⟨b,rfl⟩,rfl⟩:=h;exact⟨⟨a,b⟩,rfl⟩
theorem rdEnt:Rd Tryz.prog W 75 fun ds=>∃ x:PEnt,ds=x.cells:=
 (Rd.struct Tryz.underlying75 c75 (.cons rfl c3 (qmb W) (.cons rfl c3 (qmb W) (.cons rfl c9 (qoZ W) (.cons rfl c3 (qmb W) (.nil _)))))).mono fun ds h=>by
  obtain⟨_,_,rfl,⟨a,rfl⟩,_,_,rfl,⟨b,rfl⟩,_,_,rfl,⟨c,rfl⟩,_,_,rfl,⟨d,rfl⟩,rfl⟩:=h;exact⟨⟨a,b,c,d⟩,rfl⟩
theorem rdEnts:Rd Tryz.prog W 80 fun ds=>∃ l:List PEnt,ds = [qdM l]:=
 (Rd.slice Tryz.underlying80 c75 (by omega) (rdEnt W)).mono fun ds h=>by
  obtain⟨es,rfl,he⟩:=h;obtain⟨l,rfl⟩:=qkA (f:=PEnt.cells) (fun _ h=>h) he;exact⟨l,rfl⟩
theorem rdBook:Rd Tryz.prog W 82 fun ds=>∃ b:PBook,ds=b.cells:=
 (Rd.struct Tryz.underlying82 c82 (.cons rfl c9 (qoZ W) (.cons rfl c37 (qob W) (.cons rfl c37 (qob W) (.cons rfl c80 (rdEnts W) (.nil _)))))).mono fun ds h=>by
  obtain⟨_,_,rfl,⟨a,rfl⟩,_,_,rfl,⟨b,rfl⟩,_,_,rfl,⟨c,rfl⟩,_,_,rfl,⟨d,rfl⟩,rfl⟩:=h;exact⟨⟨a,b,c,d⟩,rfl⟩
theorem rdBooks:Rd Tryz.prog W 22 fun ds=>∃ l:List PBook,ds = [qG l]:=
 (Rd.slice Tryz.underlying22 c82 (by omega) (rdBook W)).mono fun ds h=>by
  obtain⟨es,rfl,he⟩:=h;obtain⟨l,rfl⟩:=qkA (f:=PBook.cells) (fun _ h=>h) he;exact⟨l,rfl⟩
theorem rdLog:Rd Tryz.prog W 24 fun ds=>∃ c:PLog,ds=c.cells:=
 (Rd.struct Tryz.underlying24 c24 (.cons rfl c3 (qmb W) (.cons rfl c22 (rdBooks W) (.nil _)))).mono fun ds h=>by
  obtain⟨_,_,rfl,⟨a,rfl⟩,_,_,rfl,⟨b,rfl⟩,rfl⟩:=h;exact⟨⟨a,b⟩,rfl⟩
end
end Go.PX
namespace Go.PX
open Go.RowKit
structure Grown(w w':World):Prop where
 os:w'.os=w.os
 tape:w'.tape=w.tape
 output:w'.output=w.output
 size:w.heap.size<=w'.heap.size
 heap:∀ b,b<w.heap.size->w'.heap[b]?=w.heap[b]?
theorem Grown.refl(w:World):Grown w w:=⟨rfl,rfl,rfl,Nat.le_refl _,fun _ _=>rfl⟩
theorem Grown.tr{w w':World}(h:Grown w w'){F F':Nat->Nat}(hf:∀ b,w.heap.size<=b->F b=0)(hF:∀ b,b<w.heap.size->F' b=F b):Tr F w F' w':=by
 have lt:∀ b o,o<F b->b<w.heap.size:=fun b o ho=>by
  rcases Nat.lt_or_ge b w.heap.size with h | h
  ·exact h
  ·rw[hf b h]at ho;omega
 refine⟨h.os,h.tape,h.output,h.size,fun b=>?_,fun b o ho=>qbb (h.heap b (lt b o ho)),fun b e c hb hm=>by rw[h.heap b (lt b 0 hb)];exact hm⟩
 rcases Nat.lt_or_ge b w.heap.size with h | h
 ·rw[hF b h];exact Nat.le_refl _
 ·rw[hf b h];exact Nat.zero_le _
theorem qcY{P:Program}{f:FuncId}{ds:List D}{r:D}(he:∀ (vs:Array Value) (w:World),(callFunc f vs).run P w = .ok (.enter f vs) w)
  (h:∀ (vals:Array Value) (w:World) (F:Nat->Nat),Laid P w->(∀ b,w.heap.size<=b->F b=0)->RepDL F w ds vals.toList ->
   Calls P f vals w fun e w'=>∃ x,e = .returned x/\Grown w w' /\ ∃ F',(∀ b,b<w.heap.size->F' b=F b)/\(∀ b,w'.heap.size<=b->F' b=0)/\RepD F' w' r x):FnV P f ds r:=by
 intro σ Y s;refine⟨he,fun cx hY L F vals w hh hr=>?_⟩;refine(callsIn_wide.2 (h vals w F (hY.laid _ _ _ hh.hg) hh.fresh (RepVL.inj.1 hr))).mono ?_;rintro e w' ⟨x,rfl,hgr,F',hF,hf',hx⟩;have tr:=hgr.tr hh.fresh hF;refine⟨x,rfl,_,[],s,L,F',⟨⟨rfl,rfl⟩,rfl⟩,⟨cx.stable hh.hg tr hf' fun b hb=>⟨hgr.heap b (hh.csz b hb),hF b (hh.csz b hb)⟩,fun b hb=>Nat.lt_of_lt_of_le (hh.csz b hb) hgr.size,hf',(fun _ _ h=>by cases h),(fun _ _ h=>by cases h),(fun _ _ _ _ h=>by cases h)⟩,hx,tr,fun _ _=>⟨rfl,rfl⟩⟩
theorem enters {P : Program} {f : FuncId} {fn : Func} {c : Code} (hf : P.funcs[f]? = some fn) (hb : fn.body = some c) (hname : (fn.name != "runtime.NumGoroutine") = true) (vs : Array Value) (w : World) : (callFunc f vs).run P w = .ok (.enter f vs) w := by
 simp only[bne_iff_ne,ne_eq]at hname;simp[callFunc,hf,hname,hb,Go.mark]
end Go.PX
namespace Go.PX
open Go.Proofs
open Go.RowKit Go.Proofs
set_option maxHeartbeats 1000000 in
set_option maxRecDepth 100000 in
theorem bld_used(b:Nat)(w:World)(h0:w.cell? ⟨b,0,none⟩=some (.pointer (some ⟨b,0,none⟩))) :
  Calls Tryz.prog 130 #[.pointer (some ⟨b,0,none⟩)] w fun e w'=>e = .returned (.tuple #[])/\w'=w:=by
 obtain⟨j,hj,hjs⟩:=Option.map_eq_some_iff.1 (show(Tryz.prog.info? 188).map (·.size)=some 2 by kernel_rfl)
 go_enter Tryz.func130,Tryz.ntmps130
 go_wp2
 rw[Lib.run_neq_ptr_same w _ Tryz.underlying185 hj]
 go_wp2
 go_end0
 exact⟨rfl,rfl⟩
set_option maxHeartbeats 1000000 in
set_option maxRecDepth 100000 in
theorem bld_fresh(b:Nat)(w:World)(h0:w.cell? ⟨b,0,none⟩=some (.pointer none))(hsh:w.shape? b=some (188,2))(hfz:w.frozen? ⟨b,0,none⟩=false) :
  Calls Tryz.prog 130 #[.pointer (some ⟨b,0,none⟩)] w fun e w'=>e = .returned (.tuple #[])/\w'=w.setCell ⟨b,0,none⟩ (.pointer (some ⟨b,0,none⟩)):=by
 obtain⟨j,hj,hjs⟩:=Option.map_eq_some_iff.1 (show(Tryz.prog.info? 188).map (·.size)=some 2 by kernel_rfl)
 go_enter Tryz.func130,Tryz.ntmps130
 go_wp2
 rw[Lib.run_to_unsafe w ⟨b,0,none⟩ Tryz.underlying185 Tryz.underlying209 hj (by rw[hjs];decide) hsh (Nat.zero_lt_succ 1)];simp only[Result.andThen];rw[Oper.upon_value]
 go_wp2
 rw[run_callFunc_extern Tryz.func139 (by kernel_rfl) (by kernel_rfl) (by kernel_rfl) (e:=Extern.AbiNoEscape.same) (by kernel_rfl)];rw[Lib.run_noEscape];simp only[Result.andThen];rw[Oper.upon_value]
 go_wp2
 rw[Lib.run_from_unsafe w ⟨b,0,none⟩ Tryz.underlying209 Tryz.underlying185 hj hsh (by kernel_rfl)];simp only[Result.andThen];rw[Oper.upon_value]
 go_wp2
 go_end0
 exact⟨rfl,rfl⟩
end Go.PX
namespace Go.PX
open Go.Proofs
open Go.RowKit Go.Proofs
set_option maxHeartbeats 1000000 in
set_option maxRecDepth 100000 in
theorem bld_string(b g cap:Nat)(p:Value)(s:ByteArray)(c:Array Value)(w:World)(hb:w.heap[b]?=some (.cells #[p,.slice (some ⟨g,0,none⟩) s.size cap] 188 (0,0)))(hg:w.heap[g]?=some (.cells c 5 (0,0)))
  (h0:0<s.size) (hcap:s.size<=cap) (hc:s.size<=c.size) (hm:s.size<=140737488355328) (htake:c.toList.take s.size=qK s) :
  Calls Tryz.prog 121 #[.pointer (some ⟨b,0,none⟩)] w fun e w'=>e = .returned (.string s)/\w'=(w.drew).freeze ⟨g,0,none⟩ s.size:=by
 have c1:w.drew.cell? ⟨b,1,none⟩=some (.slice (some ⟨g,0,none⟩) s.size cap):=by
  have:w.drew.heap[b]?=some (.cells #[p,.slice (some ⟨g,0,none⟩) s.size cap] 188 (0,0)):=hb;rw[Lib.cell_of_heap this];rfl
 have hSD:(Builtin.unsafeSliceData_ #[186] 204 #[.slice (some ⟨g,0,none⟩) s.size cap]).run Tryz.prog w.drew = .ok (.pointer (some ⟨g,0,none⟩)) w.drew:=
  Lib.run_unsafeSliceData_row _ _ _ _ _ _ (by omega)
 have hsl:s.data.toList.length=s.size:=by rw[Array.length_toList];rfl
 have hUS:(Builtin.unsafeString_ #[204,3] 9 #[.pointer (some ⟨g,0,none⟩),.int .i64 s.size]).run Tryz.prog w.drew = .ok (.string s) (w.drew.freeze ⟨g,0,none⟩ s.size):=by
  have:=Lib.run_unsafeString_row (P:=Tryz.prog) w.drew 204 3 9 5 Tryz.underlying204 (by kernel_rfl) g c.size (by have hg':w.drew.heap[g]?=some (.cells c 5 (0,0)):=hg;simp[World.shape?,hg']) s.data.toList (by intro e;rw[e]at hsl;simp at hsl;omega) (by omega) (by omega) (by
   intro j x hx;have hj:j<s.size:=by rw[<- hsl];exact(List.getElem?_eq_some_iff.1 hx).1
   have hv:(qK s)[j]?=some (.int .u8 x.toNat):=by simp[qK,hx]
   rw[<- htake,List.getElem?_take_of_lt hj]at hv;have hg':w.drew.heap[g]?=some (.cells c 5 (0,0)):=hg;rw[jo,Nat.zero_add,Lib.cell_of_heap hg'];simpa using hv)
  rw[hsl]at this;exact this
 go_enter Tryz.func121,Tryz.ntmps121
 go_wp2
 go_region
 all_goals (go_wp2;go_ret;exact⟨rfl,rfl⟩)
end Go.PX
namespace Go.PX
open Go.RowKit
theorem HeapOk.turn{σ:Type}{cx:Cx σ}{L:Loc}{F:Nat->Nat}{h:Heap}{s:σ}{w w':World}(hh:HeapOk cx L F h s w)(g:Nat)(hF:F g=0)(hC:¬ cx.C s g)(hos:w'.os=w.os)(ht:w'.tape=w.tape)(hu:w'.output=w.output)
  (hsz:w'.heap.size=w.heap.size) (hk:∀ b,b≠g->w'.heap[b]?=w.heap[b]?) (hne:∀ id o,get h id=some o->Backed L id o->L.ρ id≠g):HeapOk cx L F h s w'/\Tr F w F w':=by
 have tr:Tr F w F w':=.of_keep hos ht hu (by omega) (fun _=>Nat.le_refl _) hh.fresh fun b _ hF'=>hk b (by rintro rfl;omega);exact⟨hh.keep tr (fun b hb=>hh.fresh b (by omega)) (fun b hb=>⟨hk b (by rintro rfl;exact hC hb),rfl⟩) fun id o hi hb=>⟨hk _ (hne id o hi hb),rfl⟩,tr⟩
theorem qgK{P:Program}{f:FuncId}{args:List V}{h0 h1:Heap}{v0:V}(he:∀ (vs:Array Value) (w:World),(callFunc f vs).run P w = .ok (.enter f vs) w)
  (h:∀ {σ:Type} (cx:Cx σ) (L:Loc) (F:Nat->Nat) (s:σ) (vals:Array Value) (w:World),HeapOk cx L F h0 s w->RepVL cx.yv L F w args vals.toList ->
   Calls P f vals w fun e w'=>∃ x,e = .returned x/\HeapOk cx L F h1 s w'/\RepV cx.yv L F w' v0 x/\Tr F w F w'):FnU P f args h0 fun v h'=>v=v0/\h'=h1:=by
 intro σ Y s;refine⟨he,fun cx hY L F vals w hh hr=>?_⟩;refine(callsIn_wide.2 (h cx L F s vals w hh hr)).mono ?_;rintro e w' ⟨x,rfl,hh',hx,tr⟩;exact⟨x,rfl,_,_,s,L,F,⟨⟨rfl,rfl⟩,rfl⟩,hh',hx,tr,fun _ _=>⟨rfl,rfl⟩⟩
section
variable {P : Program} {σ : Type} {Y : Hd σ}
theorem qbX(n:Nat)(ids:List Nat){e:Env}{h h':Heap}{s:σ}{d:Option Nat}{f:FuncId}{args args':List V}{K:St σ->Prop}(hv:qcs (qcc (qH ids h) n) args=args')(hh:qkz h (ja (qH ids h))=h')
  (hk:CallA P Y ⟨e,h',s⟩ d f args' K):CallA P Y ⟨e,h,s⟩ d f args K:=by
 obtain⟨he,hk⟩:=hk;subst hh hv;refine⟨he,fun cx hY r m L F a w vals hg hd hr=>?_⟩;obtain⟨F1,hg1,tr1,hvw⟩:=hg.frzPart2 (h:=qH ids h) (fun i o hi=>jz ids h i o hi) n;rw[qaD]at hg1;refine(hk cx hY r m L F1 a w vals hg1 hd (hvw _ _ hr)).mono ?_;rintro en w' (⟨x,rfl,st',L',F',k1,k2,k3⟩ | ⟨pv,pe,ph,ps,L',F',he,hy,hgp,trp⟩)
 ·exact .inl ⟨x,rfl,st',L',F',k1,k2,Tr.trans tr1 k3⟩
 ·exact .inr ⟨pv,pe,ph,ps,L',F',he,hy,hgp,Tr.trans tr1 trp⟩
end
end Go.PX
namespace Go.PX
open Go.Proofs
open Go.RowKit
theorem qgL{yv:Option Nat}{L:Loc}{F:Nat->Nat}{w:World}{v:V}{vals:Array Value}(h:RepVL yv L F w [v] vals.toList):∃ x,vals = #[x]/\RepV yv L F w v x:=by
 obtain⟨x,l',h1,h2,h3⟩:=h;have h3:l' = []:=h3;subst h3;exact⟨x,Array.ext' h1,h2⟩
def qpa(i:Nat):Heap:=[(i,.tb 188 [.d .nilp,.d .nils])]
def qfs(i k:Nat)(b:ByteArray):Heap:=[(i,.tb 188 [.ptr i 0,.sl k 1 0 b.size]),(k,.buf 5 b)]
theorem qeX(b:ByteArray):FnU Tryz.prog 130 [.ptr 1000000 0] (qfs 1000000 1000001 b) fun v h'=>v = .d (.tup [])/\h'=qfs 1000000 1000001 b:=by
 refine qgK (enters Tryz.func130 rfl (by decide +kernel)) fun {σ} cx L F s vals w hh hr=>?_;obtain⟨x,rfl,hx⟩:=qgL hr;have hx:x = .pointer (some ⟨L.ρ 1000000,0,none⟩):=hx;subst hx;obtain⟨c,hc,hrc⟩:=hh.obj 1000000 _ rfl;obtain⟨x0,l',hl,h0,_⟩:=hrc;have h0:x0 = .pointer (some ⟨L.ρ 1000000,0,none⟩):=h0;subst h0;refine(bld_used (L.ρ 1000000) w (by rw[cell_of_row _ _ _ _ _ _ hc,<- Array.getElem?_toList,hl];rfl)).mono ?_;rintro e w' ⟨rfl,rfl⟩;exact⟨_,rfl,hh,⟨#[],rfl,rfl⟩,Tr.refl F _⟩
theorem pa130_fresh:FnU Tryz.prog 130 [.ptr 1000000 0] (qpa 1000000) fun v h'=>v = .d (.tup [])/\h' = [(1000000,.tb 188 [.ptr 1000000 0,.d .nils])]:=by
 refine qgK (enters Tryz.func130 rfl (by decide +kernel)) fun {σ} cx L F s vals w hh hr=>?_;obtain⟨x,rfl,hx⟩:=qgL hr;have hx:x = .pointer (some ⟨L.ρ 1000000,0,none⟩):=hx;subst hx;obtain⟨c,hc,hrc⟩:=hh.obj 1000000 _ rfl;obtain⟨x0,l',hl,h0,x1,l'',hl',h1,hnil⟩:=hrc;have h0:x0 = .pointer none:=h0;have h1:x1 = .slice none 0 0:=h1;have hnil:l'' = []:=hnil;subst h0 h1 hnil hl';have hc':c = #[.pointer none,.slice none 0 0]:=Array.ext' hl;subst hc';refine(bld_fresh (L.ρ 1000000) w (by rw[cell_of_row _ _ _ _ _ _ hc];rfl) (by simp[World.shape?,hc]) (by simp[World.frozen?,hc])).mono ?_;rintro e w' ⟨rfl,rfl⟩;have hg:Good { cx with pρ:=L.ρ,pκ:=L.κ,base:=[] } none [] L F (⟨[],qpa 1000000,s⟩:St σ) { tmps:=#[],defers:=[] } w:=
  ⟨⟨hh.hg,hh.csz,hh.fresh,hh.obj,hh.own,hh.inj⟩,fun t v ht=>(by cases ht),rfl,(fun b hb=>by cases hb),List.nodup_nil,(fun l hl=>by cases hl),fun _ _=>⟨rfl,rfl⟩,by simp⟩
 have hblk:(w.setCell ⟨L.ρ 1000000,0,none⟩ (.pointer (some ⟨L.ρ 1000000,0,none⟩))).heap[L.ρ 1000000]?=some (.cells #[.pointer (some ⟨L.ρ 1000000,0,none⟩),.slice none 0 0] 188 (0,0)):=by
  simp[World.setCell,Array.getElem?_modify,hc]
 obtain⟨g1,g2⟩:=hg.obj (id:=1000000) (o:=.tb 188 [.ptr 1000000 0,.d .nils]) rfl trivial (w':=w.setCell ⟨L.ρ 1000000,0,none⟩ (.pointer (some ⟨L.ρ 1000000,0,none⟩))) rfl rfl rfl (by simp[World.setCell]) (fun b hb=>by simp[World.setCell,Array.getElem?_modify,Ne.symm hb])
  (by rw[hc];intro ds e;cases e) (by rw[hc];intro lp e;cases e) ⟨_,hblk,_,_,rfl,rfl,_,_,rfl,rfl,rfl⟩
 have g3:=g1.heap;exact⟨_,rfl,⟨g3.hg,g3.csz,g3.fresh,g3.obj,g3.own,g3.inj⟩,⟨#[],rfl,rfl⟩,g2⟩
theorem pa121(b:ByteArray)(h0:0<b.size)(hm:b.size<=140737488355328):FnU Tryz.prog 121 [.ptr 1000000 0] (qfs 1000000 1000001 b) fun v h'=>v = .d (.str b)/\h' = [(1000000,.tb 188 [.ptr 1000000 0,.unk])]:=by
 refine qgK (enters Tryz.func121 rfl (by decide +kernel)) fun {σ} cx L F s vals w hh hr=>?_;obtain⟨x,rfl,hx⟩:=qgL hr;have hx:x = .pointer (some ⟨L.ρ 1000000,0,none⟩):=hx;subst hx;obtain⟨c,hc,hrc⟩:=hh.obj 1000000 _ rfl;obtain⟨x0,l',hl,h0',x1,l'',hl',h1,hnil⟩:=hrc;have h0':x0 = .pointer (some ⟨L.ρ 1000000,0,none⟩):=h0';have hnil:l'' = []:=hnil;subst h0' hnil hl';obtain⟨ad,cap,rfl,hcap,_,hb⟩:=h1
 rcases hb with⟨e,_⟩ | ⟨rfl,hb⟩
 ·omega
 rw[Nat.zero_add,Nat.mul_one]at hb;have hc':c = #[.pointer (some ⟨L.ρ 1000000,0,none⟩),.slice (some ⟨L.ρ 1000001,0,none⟩) b.size cap]:=Array.ext' hl;subst hc';obtain⟨c2,hc2,hk2,hs2,ht2⟩:=hh.obj 1000001 _ rfl;refine(bld_string (L.ρ 1000000) (L.ρ 1000001) cap _ b c2 w hc hc2 h0 hcap hs2 hm ht2).mono ?_;rintro e w' ⟨rfl,rfl⟩;obtain⟨q1,q2⟩:=hh.own 1000001 _ rfl trivial;have hne:L.ρ 1000000≠L.ρ 1000001:=fun e=>by
  have:=hh.inj 1000000 1000001 _ _ rfl rfl trivial trivial e;omega
 have hh2:HeapOk cx L F [(1000000,.tb 188 [.ptr 1000000 0,.unk])] s w:=by
  refine⟨hh.hg,hh.csz,hh.fresh,fun id o ho=>?_,fun id o ho hb=>?_,fun i j o p hi hj hbi hbj e=>?_⟩
  ·obtain⟨rfl,rfl⟩:id=1000000/\o = .tb 188 [.ptr 1000000 0,.unk]:=by
    simp only[get]at ho
    split at ho
    ·rename_i he;cases ho;exact⟨(Nat.eq_of_beq_eq_true he).symm,rfl⟩
    ·cases ho
   exact⟨_,hc,_,_,rfl,rfl,_,_,rfl,rfl,rfl⟩
  ·obtain⟨rfl,rfl⟩:id=1000000/\o = .tb 188 [.ptr 1000000 0,.unk]:=by
    simp only[get]at ho
    split at ho
    ·rename_i he;cases ho;exact⟨(Nat.eq_of_beq_eq_true he).symm,rfl⟩
    ·cases ho
   exact hh.own 1000000 _ rfl trivial
  ·simp only[get]at hi hj
   split at hi
   ·rename_i he
    split at hj
    ·rename_i he2
     rw[<- Nat.eq_of_beq_eq_true he,<- Nat.eq_of_beq_eq_true he2]
    ·cases hj
   ·cases hi
 obtain⟨r1,r2⟩:=hh2.turn (w':=w.drew.freeze ⟨L.ρ 1000001,0,none⟩ b.size) (L.ρ 1000001) q1 q2 (by simp[World.freeze];split<;>rfl) (by simp[World.freeze];split<;>rfl) (by simp[World.freeze];split<;>rfl) (by simp[World.freeze];split<;>simp)
  (fun x hx=>by
   simp only[World.freeze]
   split
   ·rfl
   ·simp[Array.getElem?_modify,Ne.symm hx];rfl) (fun id o ho hb e=>by
   simp only[get]at ho
   split at ho
   ·rename_i he
    rw[<- Nat.eq_of_beq_eq_true he]at e;exact hne e
   ·cases ho)
 exact⟨_,rfl,r1,rfl,r2⟩
end Go.PX
namespace Go.PX
open Go.Proofs
open Go.RowKit
def qpb(s:ByteArray):D:=.tup [i64 s.size,.nili]
theorem pa119_new(s:ByteArray)(h0:0<s.size)(hm:s.size<=140737488355328):FnU Tryz.prog 119 [.ptr 1000000 0,.d (.str s)] (qpa 1000000) fun v h'=>v = .d (qpb s)/\h'=qfs 1000000 2000000 s:=by
 intro σ Y st;refine qao mixed qh Tryz.func119 rfl (ft:=qnD) (args:=[.ptr 1000000 0,.d (.str s)]) (show fnB qnD Tryz.f119 2=true from by decide +kernel) ?_;conv=>whnf
 refine qI pa130_fresh [1000000] rfl ⟨_,_,rfl,rfl,rfl⟩ rfl ?_;conv=>whnf
 refine zo (by simp[h0,hm]) ?_;conv=>whnf
 exact qq [14] [.d (i64 s.size),.d .nili] (qfs 1000000 2000000 s) rfl ⟨rfl,rfl,trivial⟩ rfl ⟨⟨rfl,rfl⟩,rfl⟩
theorem qmc(b s:ByteArray)(h0:0<b.size)(hm:b.size+s.size<=140737488355328):FnU Tryz.prog 119 [.ptr 1000000 0,.d (.str s)] (qfs 1000000 1000001 b) fun v h'=>v = .d (qpb s)/\h'=qfs 1000000 2000000 (b++s):=by
 intro σ Y st;refine qao mixed qh Tryz.func119 rfl (ft:=qnD) (args:=[.ptr 1000000 0,.d (.str s)]) (show fnB qnD Tryz.f119 2=true from by decide +kernel) ?_;conv=>whnf
 refine qI (qeX b) [1000000,1000001] rfl ⟨_,_,rfl,rfl,_,_,rfl,rfl,rfl⟩ rfl ?_;conv=>whnf
 refine zo (by simp[h0,hm]) ?_;conv=>whnf
 exact qq [14] [.d (i64 s.size),.d .nili] (qfs 1000000 2000000 (b++s)) rfl ⟨rfl,rfl,trivial⟩ rfl ⟨⟨rfl,rfl⟩,rfl⟩
theorem qpc(b:ByteArray)(h0:0<b.size)(hm:b.size+1<=140737488355328):FnU Tryz.prog 118 [.ptr 1000000 0,.d (.int .u8 10)] (qfs 1000000 1000001 b) fun v h'=>v = .d .nili/\h'=qfs 1000000 2000000 (b++⟨#[10]⟩):=by
 intro σ Y st;refine qao mixed qh Tryz.func118 rfl (ft:=qnC) (args:=[.ptr 1000000 0,.d (.int .u8 10)]) (show fnB qnC Tryz.f118 2=true from by decide +kernel) ?_;conv=>whnf
 refine qI (qeX b) [1000000,1000001] rfl ⟨_,_,rfl,rfl,_,_,rfl,rfl,rfl⟩ rfl ?_;conv=>whnf
 refine zo (by simp[h0];exact hm) ?_;conv=>whnf
 exact qq [14] [.d .nili] (qfs 1000000 2000000 (b++⟨#[10]⟩)) rfl ⟨rfl,rfl,trivial⟩ rfl ⟨⟨rfl,rfl⟩,rfl⟩
end Go.PX
namespace Go.PX
open Go.Proofs
def qop:Nat->Nat->List UInt8
 | 0,_=>[]
 | f+1,u=>if u<10 then [UInt8.ofNat (48+u)] else qop f (u/10) ++ [UInt8.ofNat (48+u%10)]
theorem qkH:∀ (f u:Nat),u<10^f->0<f->qop f u=Lib.decDigits u
 | 0,_,_,h=>absurd h (by omega)
 | f+1,u,hu,_=>by
  rw[qop,Lib.decDigits]
  by_cases h:u<10
  ·rw[if_pos h,dif_pos h]
  ·rw[if_neg h,dif_neg h]
   have h2:u/10<10^f:=by
    rw[Nat.pow_succ]at hu;exact Nat.div_lt_of_lt_mul (by omega)
   have hf:0<f:=by
    rcases Nat.eq_zero_or_pos f with rfl | h3
    ·simp at h2;omega
    ·exact h3
   rw[qkH f (u/10) h2 hf]
theorem qiG:∀ (f u:Nat),(qop f u).length<=f
 | 0,_=>Nat.le_refl _
 | f+1,u=>by
  rw[qop]
  split
  ·simp
  ·have:=qiG f (u/10)
   simp;omega
def qpd(n:Int):List UInt8:=if n<0 then 45::qop 19 n.natAbs else qop 19 n.toNat
def qkI(n:Int):ByteArray:=⟨(qpd n).toArray⟩
theorem numL_eq{n:Int}(h : -1000000000000000000<=n/\n<=1000000000000000000):qpd n=Lib.itoa n:=by
  unfold qpd Lib.itoa
  split
  · rw[qkH 19 n.natAbs (by have:(10:Nat)^19=10000000000000000000:=(by decide);omega) (by omega)]
  · rw[qkH 19 n.toNat (by have:(10:Nat)^19=10000000000000000000:=(by decide);omega) (by omega)]
theorem numB_size(n:Int):(qkI n).size<=20:=by
 show(qpd n).toArray.size<=20;rw[List.size_toArray];unfold qpd
 split
 ·have:=qiG 19 n.natAbs;simp;omega
 ·have:=qiG 19 n.toNat;omega
end Go.PX
