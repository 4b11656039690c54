import Derived.Test.YtgpmlbbkfmkmkaaGreatDoorPxP
import Derived.Test.YtgpmlbbkfmkmkaaGreatDoorPxQ
import Derived.Test.YtgpmlbbkfmkmkaaGreatDoorPxN
import Derived.Test.YtgpmlbbkfmkmkaaGreatDoorPxM
import Derived.Test.YtgpmlbbkfmkmkaaGreatDoorPxJ
import Derived.Lib.AtoiAllCases
import Derived.Laws.IdiomStrings
set_option linter.all false
set_option maxRecDepth 10000
namespace Go.PX
open Go.Proofs
open Go.RowKit
deriving instance DecidableEq for PEnt
deriving instance DecidableEq for PBook
deriving instance DecidableEq for PLog
theorem qAL(a b:List PAt)(ha:a.length<1000000):FnV Tryz.prog 31 [qkN a,qkN b] (.bool (decide (a=b))):=by
 refine qJ mixed qm Tryz.func31 rfl (ft:=qzB) 2 (by decide +kernel) (by rfl) fun {σ} Y st=>?_;conv=>whnf
 refine qj (fun h0=>?_) (fun h0=>?_)
 ·have h0:a.length≠b.length:=by
   intro e;simp[e]at h0
  conv=>whnf
  rw[decide_eq_false (by rintro rfl;exact h0 rfl)];exact qc 0 rfl ⟨⟨rfl,rfl⟩,rfl⟩
 ·have h0:a.length=b.length:=by
   have:=h0;simp at this;omega
  conv=>whnf
  refine zI (T:=tys) qm (by exact qg mixed qm (by decide +kernel)) (α:=Nat) (fun i=>⟨[(0,.d (qkN a)),(1,.d (qkN b)),(5,.d (i64 i))],[],st⟩) (fun i=>i<=a.length/\a.take i=b.take i) (fun i=>a.length-i) 0
   (Wk.sub ⟨rfl,rfl,rfl,trivial⟩ trivial) (by simp) ?_
  rintro i ⟨hi,he⟩;conv=>whnf
  refine qj (fun hc=>?_) (fun hc=>?_)
  ·have hc:i<a.length:=by simpa using hc
   have hc':i<b.length:=by omega
   conv=>whnf
   refine qK a[i].cells (by simp[hc]) ?_;conv=>whnf
   refine qK b[i].cells (by simp[hc']) ?_;conv=>whnf
   refine qj (fun h1=>?_) (fun h1=>?_)
   ·conv=>whnf
    have h1:a[i]≠b[i]:=by
     intro e;rw[e]at h1;simp at h1
    rw[decide_eq_false (by rintro rfl;exact h1 rfl)];exact qc 0 rfl ⟨⟨rfl,rfl⟩,rfl⟩
   ·have h1:a[i]=b[i]:=by
     cases hx:a[i]with
     | mk x y=>
      cases hy:b[i]with
      | mk u v=>
       rw[hx,hy]at h1;simpa using h1
    refine qe (qb (by(try dsimp only);omega)) ?_;conv=>whnf
    exact⟨i+1,by omega,⟨hc,by rw[List.take_succ_eq_append_getElem hc,List.take_succ_eq_append_getElem hc',he,h1]⟩,Wk.sub ⟨rfl,rfl,rfl,trivial⟩ trivial⟩
  ·have hc:¬ i<a.length:=by simpa using hc
   conv=>whnf
   rw[List.take_of_length_le (by omega),List.take_of_length_le (by omega)]at he;rw[decide_eq_true he];exact qc 0 rfl ⟨⟨rfl,rfl⟩,rfl⟩
structure FewP(l:PLog):Prop where
 books:l.books.length<1000000
 ents:∀ b∈l.books,b.ents.length<1000000
set_option maxHeartbeats 4000000 in
theorem qAM(a b:PLog)(ha:FewP a):FnV Tryz.prog 43 [a.d,b.d] (.bool (decide (a=b))):=by
 refine qJ mixed qm Tryz.func43 rfl (ft:=qzH) 2 (by decide +kernel) (by rfl) fun {σ} Y st=>?_;conv=>whnf
 have hm1:=ha.books;refine qj (fun h0=>?_) (fun h0=>?_)
 ·have h0:a.near≠b.near:=by
   intro e;simp[e]at h0
  conv=>whnf
  rw[decide_eq_false (by rintro rfl;exact h0 rfl)];exact qc 0 rfl ⟨⟨rfl,rfl⟩,rfl⟩
 have hnr:a.near=b.near:=by simpa using h0
 conv=>whnf
 refine qj (fun h0=>?_) (fun h0=>?_)
 ·have h0:a.books.length≠b.books.length:=by
   intro e;simp[e]at h0
  conv=>whnf
  rw[decide_eq_false (by rintro rfl;exact h0 rfl)];exact qc 0 rfl ⟨⟨rfl,rfl⟩,rfl⟩
 have hml:a.books.length=b.books.length:=by
  have:=h0;simp at this;omega
 conv=>whnf
 refine zI (T:=tys) qm (by exact qg mixed qm (by decide +kernel)) (α:=Nat) (fun i=>⟨[(2,.ptr 2 0),(3,.ptr 3 0),(5,.d (i64 i))],[(2,.box (.dd a.cells)),(3,.box (.dd b.cells))],st⟩) (fun i=>i<=a.books.length/\a.books.take i=b.books.take i) (fun i=>a.books.length-i) 0
  (Wk.sub (by repeat' first|constructor|(simp only[List.length_map];rfl)|simp[PX.get]) (by repeat' first|constructor|(simp only[List.length_map];rfl)|simp[PX.get])) (by simp) ?_
 rintro i ⟨hi,he⟩;conv=>whnf
 refine qj (fun hc=>?_) (fun hc=>?_)
 ·have hc:i<a.books.length:=by simpa using hc
  have hc':i<b.books.length:=by omega
  have hpl:=ha.ents a.books[i] (List.getElem_mem hc);have hne:a.books[i]≠b.books[i]->a≠b:=by rintro h rfl;exact h rfl
  have hnx:a.books[i]=b.books[i]->a.books.take (i+1)=b.books.take (i+1):=fun h1=>by rw[List.take_succ_eq_append_getElem hc,List.take_succ_eq_append_getElem hc',he,h1]
  generalize hx:a.books[i]=x at *;generalize hy:b.books[i]=y at *;conv=>whnf
  refine qK x.cells (by simp[hc,hx]) ?_;conv=>whnf
  refine qK y.cells (by simp[hc',hy]) ?_;conv=>whnf
  refine qj (fun h1=>?_) (fun h1=>?_)
  ·have h1:x≠y:=by rintro rfl;simp at h1
   conv=>whnf
   rw[decide_eq_false (hne h1)];exact qc 0 rfl ⟨⟨rfl,rfl⟩,rfl⟩
  have n1:x.name=y.name:=by simpa using h1
  conv=>whnf
  refine qj (fun h1=>?_) (fun h1=>?_)
  ·have h1:x≠y:=by rintro rfl;simp at h1
   conv=>whnf
   rw[decide_eq_false (hne h1)];exact qc 0 rfl ⟨⟨rfl,rfl⟩,rfl⟩
  have n2:x.off=y.off:=by
   cases h4:x.off with
   | mk p q=>
    cases h5:y.off with
    | mk u v=>
     rw[h4,h5]at h1;simpa using h1
  conv=>whnf
  refine qj (fun h1=>?_) (fun h1=>?_)
  ·have h1:x≠y:=by rintro rfl;simp at h1
   conv=>whnf
   rw[decide_eq_false (hne h1)];exact qc 0 rfl ⟨⟨rfl,rfl⟩,rfl⟩
  have n3:x.set=y.set:=by
   cases h4:x.set with
   | mk p q=>
    cases h5:y.set with
    | mk u v=>
     rw[h4,h5]at h1;simpa using h1
  conv=>whnf
  refine qj (fun h1=>?_) (fun h1=>?_)
  ·have h1:x≠y:=by rintro rfl;simp at h1
   conv=>whnf
   rw[decide_eq_false (hne h1)];exact qc 0 rfl ⟨⟨rfl,rfl⟩,rfl⟩
  have hxy:x.ents.length=y.ents.length:=by
   have:=h1;simp at this;omega
  conv=>whnf
  refine zI (T:=tys) qm (by exact qg mixed qm (by decide +kernel)) (α:=Nat) (fun k=>⟨[(2,.ptr 2 0),(3,.ptr 3 0),(5,.d (i64 i)),(6,.ptr 6 0),(7,.ptr 7 0),(8,.d (i64 k))],[(2,.box (.dd a.cells)),(3,.box (.dd b.cells)),(6,.box (.dd x.cells)),(7,.box (.dd y.cells))],st⟩) (fun k=>k<=x.ents.length/\x.ents.take k=y.ents.take k) (fun k=>x.ents.length-k) 0
   (Wk.sub (by repeat' first|constructor|(simp only[List.length_map];rfl)|simp[PX.get]) (by repeat' first|constructor|(simp only[List.length_map];rfl)|simp[PX.get])) (by simp) ?_
  rintro k ⟨hk,hke⟩;conv=>whnf
  refine qj (fun hc2=>?_) (fun hc2=>?_)
  ·have hc2:k<x.ents.length:=by simpa using hc2
   have hc3:k<y.ents.length:=by omega
   conv=>whnf
   refine qK x.ents[k].cells (by simp[hc2]) ?_;conv=>whnf
   refine qK y.ents[k].cells (by simp[hc3]) ?_;conv=>whnf
   refine qj (fun h1=>?_) (fun h1=>?_)
   ·conv=>whnf
    have h1:x.ents[k]≠y.ents[k]:=by
     intro e;rw[e]at h1;simp at h1
    rw[decide_eq_false (hne (by rintro rfl;exact h1 rfl))];exact qc 0 rfl ⟨⟨rfl,rfl⟩,rfl⟩
   ·have h1:x.ents[k]=y.ents[k]:=by
     cases hx:x.ents[k]with
     | mk p q r s=>
      cases hy:y.ents[k]with
      | mk u v w z=>
       rw[hx,hy]at h1;simpa using h1
    refine qe (qb (by(try dsimp only);omega)) ?_;conv=>whnf
    exact⟨k+1,by omega,⟨hc2,by rw[List.take_succ_eq_append_getElem hc2,List.take_succ_eq_append_getElem hc3,hke,h1]⟩,(Wk.sub (by repeat' first|constructor|(simp only[List.length_map];rfl)|simp[PX.get]) (by repeat' first|constructor|(simp only[List.length_map];rfl)|simp[PX.get]))⟩
  ·have hc2:¬ k<x.ents.length:=by simpa using hc2
   rw[List.take_of_length_le (by omega),List.take_of_length_le (by omega)]at hke;have hxe:x=y:=by
    cases x;cases y
    simp only at n1 n2 n3 hke;rw[n1,n2,n3,hke]
   conv=>whnf
   refine qe (qb (by(try dsimp only);omega)) ?_;conv=>whnf
   exact⟨i+1,by omega,⟨hc,hnx hxe⟩,(Wk.sub (by repeat' first|constructor|(simp only[List.length_map];rfl)|simp[PX.get]) (by repeat' first|constructor|(simp only[List.length_map];rfl)|simp[PX.get]))⟩
 ·have hc:¬ i<a.books.length:=by simpa using hc
  rw[List.take_of_length_le (by omega),List.take_of_length_le (by omega)]at he;have hab:a=b:=by
   cases a;cases b
   simp only at hnr he;rw[hnr,he]
  conv=>whnf
  rw[decide_eq_true hab];exact qc 0 rfl ⟨⟨rfl,rfl⟩,rfl⟩
def exA:List PEnt:=[⟨100,1,⟨#[111,114,105,101,110,116]⟩,0⟩,⟨110,3,⟨#[115,117,110,107]⟩,1⟩,⟨130,2,⟨#[]⟩,0⟩,⟨125,1,⟨#[116,117,103]⟩,0⟩]
def exB:List PEnt:=[⟨90,3,⟨#[115,117,110,107]⟩,1⟩,⟨95,1,⟨#[111,114,105,101,110,116]⟩,0⟩,⟨112,1,⟨#[116,117,103]⟩,0⟩]
def qzn(p q:Span):List PBook:=[⟨⟨#[98,114,105,100,103,101]⟩,p,⟨0,2⟩,exA⟩,⟨⟨#[100,101,99,107]⟩,q,⟨0,0⟩,exB⟩]
def exL:PLog:=⟨5,qzn ⟨-10,10⟩ ⟨-20,20⟩⟩
def narL:PLog:=⟨5,qzn ⟨0,10⟩ ⟨5,20⟩⟩
def exT:ByteArray:=⟨#[110,101,97,114,32,53,10,98,111,111,107,32,98,114,105,100,103,101,32,45,49,48,32,49,48,32,48,32,50,10,112,97,115,115,32,49,48,48,32,111,114,105,101,110,116,10,114,101,112,111,114,116,32,49,49,48,32,115,117,110,107,32,49,10,115,101,116,32,49,51,48,10,112,97,115,115,32,49,50,53,32,116,117,103,10,98,111,111,107,32,100,101,99,107,32,45,50,48,32,50,48,32,48,32,48,10,114,101,112,111,114,116,32,57,48,32,115,117,110,107,32,49,10,112,97,115,115,32,57,53,32,111,114,105,101,110,116,10,112,97,115,115,32,49,49,50,32,116,117,103,10]⟩
theorem qxA:FnV Tryz.prog 80 [] (.str exT):=by
 refine qJ mixed qm Tryz.func80 rfl (ft:=qAg) 0 (by decide +kernel) (by rfl) fun {σ} Y st=>?_;conv=>whnf
 exact qc 0 rfl ⟨⟨rfl,rfl⟩,rfl⟩
theorem qxB(a b:Int):FnV Tryz.prog 45 [i64 a,i64 b] (PAt.d ⟨a,b⟩):=by
 refine qJ mixed qm Tryz.func45 rfl (ft:=qzI) 2 (by decide +kernel) (by rfl) fun {σ} Y st=>?_;conv=>whnf
 exact qc 0 rfl ⟨⟨rfl,rfl⟩,rfl⟩
theorem qmR(a b:Int):FnV Tryz.prog 46 [i64 a,i64 b] (Span.d ⟨a,b⟩):=by
 refine qJ mixed qm Tryz.func46 rfl (ft:=qzJ) 2 (by decide +kernel) (by rfl) fun {σ} Y st=>?_;conv=>whnf
 exact qc 0 rfl ⟨⟨rfl,rfl⟩,rfl⟩
def exH:Heap:=[(2000000,.arr 6 (.dd (exL.books.map PBook.cells)))]
theorem qyL:FnU Tryz.prog 44 [] [] (fun v h'=>v = .agg [.d (i64 5),.sl 2000000 6 0 2]/\h'=exH):=by
 intro σ Y st;refine qaT mixed qm Tryz.func44 rfl (ft:=qxV) (args:=[]) (h:=[]) (show fnB qxV Tryz.f44 0=true from by decide +kernel) ?_;conv=>whnf
 repeat' (first
  | (refine qk (qmR _ _) rfl rfl ?_;conv=>whnf)
  | (refine qw (qmR _ _) rfl 1 rfl ?_;conv=>whnf)
  | (refine qq (qmR _ _) rfl rfl ?_;conv=>whnf)
  | (refine qB (qmR _ _) rfl 1 rfl ?_;conv=>whnf)
  | (refine qe (qb (by(try dsimp only);omega)) ?_;conv=>whnf)
  | (refine qt (by assumption) ?_;conv=>whnf)
  | (refine ql (by first|rfl|assumption|(simp[Els.len];done)|(simp[Els.len];omega)) ?_;conv=>whnf)
  | (refine zx (by first|(exact decide_eq_true (by(try simp only[List.length_map]);omega))|(simp[Els.len,Els.cons,V.cells,Els.toV,ze];done)|(simp[Els.len,Els.cons,V.cells,Els.toV,ze];omega)) ?_;conv=>whnf)
  | fail)
 refine qkz (l':=[.agg [.d (i64 5),.sl 15 6 0 2]]) (h':=[(15,.arr 6 (.dd (exL.books.map PBook.cells)))]) ((Wk.frzArr 1 [7,13] 15 (sz:=6) (ds:=exL.books.map PBook.cells) rfl rfl).trans (Wk.sub ⟨rfl,trivial⟩ ⟨rfl,trivial⟩)) rfl rfl ?_;exact qA [15] [.agg [.d (i64 5),.sl 2000000 6 0 2]] exH rfl ⟨rfl,trivial⟩ rfl ⟨⟨rfl,rfl⟩,rfl⟩
theorem qxC:FnV Tryz.prog 44 [] exL.d:=by
 refine qJ mixed qm Tryz.func44 rfl (ft:=qxV) 0 (by decide +kernel) (by rfl) fun {σ} Y st=>?_;conv=>whnf
 repeat' (first
  | (refine qk (qmR _ _) rfl rfl ?_;conv=>whnf)
  | (refine qw (qmR _ _) rfl 1 rfl ?_;conv=>whnf)
  | (refine qq (qmR _ _) rfl rfl ?_;conv=>whnf)
  | (refine qB (qmR _ _) rfl 1 rfl ?_;conv=>whnf)
  | (refine qe (qb (by(try dsimp only);omega)) ?_;conv=>whnf)
  | (refine qt (by assumption) ?_;conv=>whnf)
  | (refine ql (by first|rfl|assumption|(simp[Els.len];done)|(simp[Els.len];omega)) ?_;conv=>whnf)
  | (refine zx (by first|(exact decide_eq_true (by(try simp only[List.length_map]);omega))|(simp[Els.len,Els.cons,V.cells,Els.toV,ze];done)|(simp[Els.len,Els.cons,V.cells,Els.toV,ze];omega)) ?_;conv=>whnf)
  | fail)
 exact qc 2 rfl ⟨⟨rfl,rfl⟩,rfl⟩
theorem qxD:FnV Tryz.prog 79 [] narL.d:=by
 refine qJ mixed qm Tryz.func79 rfl (ft:=qAf) 0 (by decide +kernel) (by rfl) fun {σ} Y st=>?_;conv=>whnf
 refine qT qyL [] rfl rfl rfl ?_;conv=>whnf
 repeat' (first
  | (refine qk (qmR _ _) rfl rfl ?_;conv=>whnf)
  | (refine qw (qmR _ _) rfl 1 rfl ?_;conv=>whnf)
  | (refine qq (qmR _ _) rfl rfl ?_;conv=>whnf)
  | (refine qB (qmR _ _) rfl 1 rfl ?_;conv=>whnf)
  | (refine qe (qb (by(try dsimp only);omega)) ?_;conv=>whnf)
  | (refine qt (by assumption) ?_;conv=>whnf)
  | (refine ql (by first|rfl|assumption|(simp[Els.len];done)|(simp[Els.len];omega)) ?_;conv=>whnf)
  | (refine zx (by first|(exact decide_eq_true (by(try simp only[List.length_map]);omega))|(simp[Els.len,Els.cons,V.cells,Els.toV,ze];done)|(simp[Els.len,Els.cons,V.cells,Els.toV,ze];omega)) ?_;conv=>whnf)
  | fail)
 exact qc 2 rfl ⟨⟨rfl,rfl⟩,rfl⟩
theorem x1:qrU exL=(true,0):=by decide +kernel
theorem x2:qrU narL=(false,0):=by decide +kernel
theorem x3:qnB exL 0=([⟨5,10⟩,⟨0,2⟩],0):=by decide +kernel
theorem x4:qkG exL ⟨1,2⟩=(⟨122,127⟩,0):=by decide +kernel
theorem x5:qfD exL ⟨0,3⟩ ⟨1,2⟩=(⟨-3,2⟩,0,0):=by decide +kernel
theorem x6:qfD exL ⟨0,0⟩ ⟨1,1⟩=(⟨15,15⟩,1,0):=by decide +kernel
theorem x7:qtR exL ⟨0,3⟩=([⟨1,2⟩],0):=by decide +kernel
theorem x8:qca narL=(8,0):=by decide +kernel
theorem x9:qeb narL=([1],0):=by decide +kernel
theorem x10:qpV exL=([],[],0):=by decide +kernel
theorem x11:qpb exL=(exT,0):=by decide +kernel
theorem x12:qmu exT=(exL,0):=by decide +kernel
theorem x13:(qnB narL 0).2=9:=by decide +kernel
theorem w1:FnV Tryz.prog 19 [exL.d] (.tup [.bool true,i64 0]):=FnV.cast (qzi exL) (by rw[x1])
theorem w2:FnV Tryz.prog 19 [narL.d] (.tup [.bool false,i64 0]):=FnV.cast (qzi narL) (by rw[x2])
theorem w3:FnV Tryz.prog 21 [exL.d,i64 0] (.tup [qbA [⟨5,10⟩,⟨0,2⟩],i64 0]):=FnV.cast (qyy exL 0) (by rw[x3])
theorem w4:FnV Tryz.prog 24 [exL.d,PAt.d ⟨1,2⟩] (.tup [Span.d ⟨122,127⟩,i64 0]):=FnV.cast (qyx exL ⟨1,2⟩) (by rw[x4])
theorem w5:FnV Tryz.prog 27 [exL.d,PAt.d ⟨0,3⟩,PAt.d ⟨1,2⟩] (.tup [Span.d ⟨-3,2⟩,i64 0,i64 0]):=FnV.cast (qzj exL ⟨0,3⟩ ⟨1,2⟩) (by rw[x5])
theorem w6:FnV Tryz.prog 27 [exL.d,PAt.d ⟨0,0⟩,PAt.d ⟨1,1⟩] (.tup [Span.d ⟨15,15⟩,i64 1,i64 0]):=FnV.cast (qzj exL ⟨0,0⟩ ⟨1,1⟩) (by rw[x6])
theorem w7:FnV Tryz.prog 29 [exL.d,PAt.d ⟨0,3⟩] (.tup [qkN [⟨1,2⟩],i64 0]):=FnV.cast (qAE exL ⟨0,3⟩) (by rw[x7])
theorem w8:FnV Tryz.prog 32 [narL.d] (.tup [i64 8,i64 0]):=FnV.cast (qyI narL) (by rw[x8])
theorem w9:FnV Tryz.prog 34 [narL.d] (.tup [qF [1],i64 0]):=FnV.cast (qzm narL) (by rw[x9])
theorem w10:FnV Tryz.prog 37 [exL.d] (.tup [qF [],qF [],i64 0]):=FnV.cast (qzl exL) (by rw[x10])
theorem w11:FnV Tryz.prog 39 [exL.d] (.tup [.str exT,i64 0]):=FnV.cast (qAF exL) (by rw[x11])
theorem w12:FnV Tryz.prog 41 [.str exT] (.tup [exL.d,i64 0]):=FnV.cast (qAH exT) (by rw[x12])
theorem w13:FnV Tryz.prog 21 [narL.d,i64 0] (.tup [qbA (qnB narL 0).1,i64 9]):=FnV.cast (qyy narL 0) (by rw[x13])
theorem qxm:FewP exL:=⟨by decide,by decide⟩
theorem w14:FnV Tryz.prog 43 [exL.d,exL.d] (.bool true):=FnV.cast (qAM exL exL qxm) (by simp)
theorem w15:FnV Tryz.prog 36 [qF [1],qF [1]] (.bool true):=FnV.cast (qxv [1] [1] (by decide)) (by simp)
theorem w16:FnV Tryz.prog 23 [qbA [⟨5,10⟩,⟨0,2⟩],qbA [⟨5,10⟩,⟨0,2⟩]] (.bool true):=FnV.cast (qAr [⟨5,10⟩,⟨0,2⟩] [⟨5,10⟩,⟨0,2⟩] (by decide)) (by simp)
theorem w17:FnV Tryz.prog 31 [qkN [⟨1,2⟩],qkN [⟨1,2⟩]] (.bool true):=FnV.cast (qAL [⟨1,2⟩] [⟨1,2⟩] (by decide)) (by simp)
set_option maxHeartbeats 8000000 in
theorem qAN:FnV Tryz.prog 26 [] (.bool true):=by
 refine qJ mixed qm Tryz.func26 rfl (ft:=qzA) 0 (by decide +kernel) (by rfl) fun {σ} Y st=>?_;conv=>whnf
 repeat' (first
  | (refine qk (w1) rfl rfl ?_;conv=>whnf)
  | (refine qw (w1) rfl 1 rfl ?_;conv=>whnf)
  | (refine qq (w1) rfl rfl ?_;conv=>whnf)
  | (refine qB (w1) rfl 1 rfl ?_;conv=>whnf)
  | (refine qk (qxC) rfl rfl ?_;conv=>whnf)
  | (refine qw (qxC) rfl 1 rfl ?_;conv=>whnf)
  | (refine qq (qxC) rfl rfl ?_;conv=>whnf)
  | (refine qB (qxC) rfl 1 rfl ?_;conv=>whnf)
  | (refine qk (qxD) rfl rfl ?_;conv=>whnf)
  | (refine qw (qxD) rfl 1 rfl ?_;conv=>whnf)
  | (refine qq (qxD) rfl rfl ?_;conv=>whnf)
  | (refine qB (qxD) rfl 1 rfl ?_;conv=>whnf)
  | (refine qk (qxA) rfl rfl ?_;conv=>whnf)
  | (refine qw (qxA) rfl 1 rfl ?_;conv=>whnf)
  | (refine qq (qxA) rfl rfl ?_;conv=>whnf)
  | (refine qB (qxA) rfl 1 rfl ?_;conv=>whnf)
  | (refine qk (qxB _ _) rfl rfl ?_;conv=>whnf)
  | (refine qw (qxB _ _) rfl 1 rfl ?_;conv=>whnf)
  | (refine qq (qxB _ _) rfl rfl ?_;conv=>whnf)
  | (refine qB (qxB _ _) rfl 1 rfl ?_;conv=>whnf)
  | (refine qk (qmR _ _) rfl rfl ?_;conv=>whnf)
  | (refine qw (qmR _ _) rfl 1 rfl ?_;conv=>whnf)
  | (refine qq (qmR _ _) rfl rfl ?_;conv=>whnf)
  | (refine qB (qmR _ _) rfl 1 rfl ?_;conv=>whnf)
  | (refine qk (w2) rfl rfl ?_;conv=>whnf)
  | (refine qw (w2) rfl 1 rfl ?_;conv=>whnf)
  | (refine qq (w2) rfl rfl ?_;conv=>whnf)
  | (refine qB (w2) rfl 1 rfl ?_;conv=>whnf)
  | (refine qk (w3) rfl rfl ?_;conv=>whnf)
  | (refine qw (w3) rfl 1 rfl ?_;conv=>whnf)
  | (refine qq (w3) rfl rfl ?_;conv=>whnf)
  | (refine qB (w3) rfl 1 rfl ?_;conv=>whnf)
  | (refine qk (w4) rfl rfl ?_;conv=>whnf)
  | (refine qw (w4) rfl 1 rfl ?_;conv=>whnf)
  | (refine qq (w4) rfl rfl ?_;conv=>whnf)
  | (refine qB (w4) rfl 1 rfl ?_;conv=>whnf)
  | (refine qk (w5) rfl rfl ?_;conv=>whnf)
  | (refine qw (w5) rfl 1 rfl ?_;conv=>whnf)
  | (refine qq (w5) rfl rfl ?_;conv=>whnf)
  | (refine qB (w5) rfl 1 rfl ?_;conv=>whnf)
  | (refine qk (w6) rfl rfl ?_;conv=>whnf)
  | (refine qw (w6) rfl 1 rfl ?_;conv=>whnf)
  | (refine qq (w6) rfl rfl ?_;conv=>whnf)
  | (refine qB (w6) rfl 1 rfl ?_;conv=>whnf)
  | (refine qk (w7) rfl rfl ?_;conv=>whnf)
  | (refine qw (w7) rfl 1 rfl ?_;conv=>whnf)
  | (refine qq (w7) rfl rfl ?_;conv=>whnf)
  | (refine qB (w7) rfl 1 rfl ?_;conv=>whnf)
  | (refine qk (w8) rfl rfl ?_;conv=>whnf)
  | (refine qw (w8) rfl 1 rfl ?_;conv=>whnf)
  | (refine qq (w8) rfl rfl ?_;conv=>whnf)
  | (refine qB (w8) rfl 1 rfl ?_;conv=>whnf)
  | (refine qk (w9) rfl rfl ?_;conv=>whnf)
  | (refine qw (w9) rfl 1 rfl ?_;conv=>whnf)
  | (refine qq (w9) rfl rfl ?_;conv=>whnf)
  | (refine qB (w9) rfl 1 rfl ?_;conv=>whnf)
  | (refine qk (w10) rfl rfl ?_;conv=>whnf)
  | (refine qw (w10) rfl 1 rfl ?_;conv=>whnf)
  | (refine qq (w10) rfl rfl ?_;conv=>whnf)
  | (refine qB (w10) rfl 1 rfl ?_;conv=>whnf)
  | (refine qk (w11) rfl rfl ?_;conv=>whnf)
  | (refine qw (w11) rfl 1 rfl ?_;conv=>whnf)
  | (refine qq (w11) rfl rfl ?_;conv=>whnf)
  | (refine qB (w11) rfl 1 rfl ?_;conv=>whnf)
  | (refine qk (w12) rfl rfl ?_;conv=>whnf)
  | (refine qw (w12) rfl 1 rfl ?_;conv=>whnf)
  | (refine qq (w12) rfl rfl ?_;conv=>whnf)
  | (refine qB (w12) rfl 1 rfl ?_;conv=>whnf)
  | (refine qk (w13) rfl rfl ?_;conv=>whnf)
  | (refine qw (w13) rfl 1 rfl ?_;conv=>whnf)
  | (refine qq (w13) rfl rfl ?_;conv=>whnf)
  | (refine qB (w13) rfl 1 rfl ?_;conv=>whnf)
  | (refine qk (w15) rfl rfl ?_;conv=>whnf)
  | (refine qw (w15) rfl 1 rfl ?_;conv=>whnf)
  | (refine qq (w15) rfl rfl ?_;conv=>whnf)
  | (refine qB (w15) rfl 1 rfl ?_;conv=>whnf)
  | (refine qk (w16) rfl rfl ?_;conv=>whnf)
  | (refine qw (w16) rfl 1 rfl ?_;conv=>whnf)
  | (refine qq (w16) rfl rfl ?_;conv=>whnf)
  | (refine qB (w16) rfl 1 rfl ?_;conv=>whnf)
  | (refine qk (w17) rfl rfl ?_;conv=>whnf)
  | (refine qw (w17) rfl 1 rfl ?_;conv=>whnf)
  | (refine qq (w17) rfl rfl ?_;conv=>whnf)
  | (refine qB (w17) rfl 1 rfl ?_;conv=>whnf)
  | (refine qk (w14) rfl rfl ?_;conv=>whnf)
  | (refine qw (w14) rfl 1 rfl ?_;conv=>whnf)
  | (refine qq (w14) rfl rfl ?_;conv=>whnf)
  | (refine qB (w14) rfl 1 rfl ?_;conv=>whnf)
  | (refine qe (qb (by(try dsimp only);omega)) ?_;conv=>whnf)
  | (refine qt (by assumption) ?_;conv=>whnf)
  | (refine ql (by first|rfl|assumption|(simp[Els.len];done)|(simp[Els.len];omega)) ?_;conv=>whnf)
  | (refine zx (by first|(exact decide_eq_true (by(try simp only[List.length_map]);omega))|(simp[Els.len,Els.cons,V.cells,Els.toV,ze];done)|(simp[Els.len,Els.cons,V.cells,Els.toV,ze];omega)) ?_;conv=>whnf)
  | fail)
 exact qc 0 rfl ⟨⟨rfl,rfl⟩,rfl⟩
theorem y1:qnB exL 1=([⟨-15,-10⟩],0):=by decide +kernel
theorem y2:qkG exL ⟨0,0⟩=(⟨90,95⟩,0):=by decide +kernel
theorem y3:qkG exL ⟨0,3⟩=(⟨123,125⟩,0):=by decide +kernel
theorem y6:qca exL=(0,0):=by decide +kernel
theorem z1:FnV Tryz.prog 21 [exL.d,i64 1] (.tup [qbA [⟨-15,-10⟩],i64 0]):=FnV.cast (qyy exL 1) (by rw[y1])
theorem z2:FnV Tryz.prog 24 [exL.d,PAt.d ⟨0,0⟩] (.tup [Span.d ⟨90,95⟩,i64 0]):=FnV.cast (qyx exL ⟨0,0⟩) (by rw[y2])
theorem z3:FnV Tryz.prog 24 [exL.d,PAt.d ⟨0,3⟩] (.tup [Span.d ⟨123,125⟩,i64 0]):=FnV.cast (qyx exL ⟨0,3⟩) (by rw[y3])
theorem z6:FnV Tryz.prog 32 [exL.d] (.tup [i64 0,i64 0]):=FnV.cast (qyI exL) (by rw[y6])
theorem qAO(x:PEnt):FnV Tryz.prog 67 [x.d] (i64 (qmP x)):=by
 obtain⟨sh,kd,wd,nm⟩:=x;refine qJ mixed qm Tryz.func67 rfl (ft:=qzW) 1 (by decide +kernel) (by rfl) fun {σ} Y st=>?_;conv=>whnf
 refine qk (ds:=[i64 sh,i64 0,i64 20000]) (qwn sh 0 20000) rfl rfl ?_;unfold qmP qcM
 cases h0:inB sh 0 20000 with
 | false=>
  conv=>whnf
  exact qc 0 rfl ⟨⟨rfl,rfl⟩,rfl⟩
 | true=>
 conv=>whnf
 refine qk (ds:=[i64 kd,i64 1,i64 3]) (qwn kd 1 3) rfl rfl ?_
 cases h1:inB kd 1 3 with
 | false=>
  have hk:¬ (kd=1)/\¬ (kd=2)/\¬ (kd=3):=by
   refine⟨?_,?_,?_⟩<;>rintro rfl<;>simp[inB]at h1
  conv=>whnf
  simp only[Bool.not_true,Bool.false_eq_true,if_false,if_neg hk.1,if_neg hk.2.1,if_neg hk.2.2];exact qc 0 rfl ⟨⟨rfl,rfl⟩,rfl⟩
 | true=>
 have hk:kd=1\/kd=2\/kd=3:=by
  unfold inB at h1;simp at h1;omega
 simp only[Bool.not_true,Bool.false_eq_true,if_false];conv=>whnf
 rcases hk with rfl|rfl|rfl
 ·refine qj (fun hA=>?_) (fun hA=>?_)
  ·conv=>whnf
   refine qk (ds:=[.str wd]) (qrG wd) rfl rfl ?_
   cases hn:qaO wd with
   | false=>
    conv=>whnf
    exact qc 0 rfl ⟨⟨rfl,rfl⟩,rfl⟩
   | true=>
    conv=>whnf
    refine qj (fun hB=>?_) (fun hB=>?_)
    ·have hB:¬ nm=0:=by simpa using hB
     conv=>whnf
     rw[decide_eq_false hB];exact qc 0 rfl ⟨⟨rfl,rfl⟩,rfl⟩
    ·have hB:nm=0:=by simpa using hB
     conv=>whnf
     rw[decide_eq_true hB];exact qc 0 rfl ⟨⟨rfl,rfl⟩,rfl⟩
  ·conv=>whnf
   refine qk (ds:=[.str wd]) (qrG wd) rfl rfl ?_
   cases hn:qaO wd with
   | false=>
    conv=>whnf
    exact qc 0 rfl ⟨⟨rfl,rfl⟩,rfl⟩
   | true=>
    conv=>whnf
    refine qj (fun hB=>?_) (fun hB=>?_)
    ·have hB:¬ nm=0:=by simpa using hB
     conv=>whnf
     rw[decide_eq_false hB];exact qc 0 rfl ⟨⟨rfl,rfl⟩,rfl⟩
    ·have hB:nm=0:=by simpa using hB
     conv=>whnf
     rw[decide_eq_true hB];exact qc 0 rfl ⟨⟨rfl,rfl⟩,rfl⟩
 ·have hw1:decide (wd = .empty)=decide (wd=(⟨#[]⟩:ByteArray)):=rfl
  simp only[if_neg (show ¬ (2:Int)=1 by decide),if_pos,hw1];refine qj (fun hA=>?_) (fun hA=>?_)
  ·rw[hA]
   conv=>whnf
   refine qj (fun hB=>?_) (fun hB=>?_)
   ·have hB:¬ nm=0:=by simpa using hB
    conv=>whnf
    rw[decide_eq_false hB];exact qc 0 rfl ⟨⟨rfl,rfl⟩,rfl⟩
   ·have hB:nm=0:=by simpa using hB
    conv=>whnf
    rw[decide_eq_true hB];exact qc 0 rfl ⟨⟨rfl,rfl⟩,rfl⟩
  ·rw[hA]
   conv=>whnf
   exact qc 0 rfl ⟨⟨rfl,rfl⟩,rfl⟩
 ·simp only[if_neg (show ¬ (3:Int)=1 by decide),if_neg (show ¬ (3:Int)=2 by decide),if_pos,Bool.not_not]
  refine qj (fun hA=>?_) (fun hA=>?_)
  ·conv=>whnf
   refine qk (ds:=[.str wd]) (qrG wd) rfl rfl ?_
   cases hn:qaO wd with
   | false=>
    conv=>whnf
    exact qc 0 rfl ⟨⟨rfl,rfl⟩,rfl⟩
   | true=>
    conv=>whnf
    refine qk (ds:=[i64 nm,i64 1,i64 99]) (qwn nm 1 99) rfl rfl ?_
    cases h4:inB nm 1 99 with
    | false=>
     conv=>whnf
     exact qc 0 rfl ⟨⟨rfl,rfl⟩,rfl⟩
    | true=>
     conv=>whnf
     exact qc 0 rfl ⟨⟨rfl,rfl⟩,rfl⟩
  ·conv=>whnf
   refine qk (ds:=[.str wd]) (qrG wd) rfl rfl ?_
   cases hn:qaO wd with
   | false=>
    conv=>whnf
    exact qc 0 rfl ⟨⟨rfl,rfl⟩,rfl⟩
   | true=>
    conv=>whnf
    refine qk (ds:=[i64 nm,i64 1,i64 99]) (qwn nm 1 99) rfl rfl ?_
    cases h4:inB nm 1 99 with
    | false=>
     conv=>whnf
     exact qc 0 rfl ⟨⟨rfl,rfl⟩,rfl⟩
    | true=>
     conv=>whnf
     exact qc 0 rfl ⟨⟨rfl,rfl⟩,rfl⟩
def qaV(l:List PBook):List ByteArray:=l.map (·.name)
theorem quj(pre:List PBook)(b:PBook):qip pre b=if qgI b.name (qaV pre)=0 then (if spread (-720) 720 [b.off,b.set] 0=0 then (if b.ents.length>8 then 3 else 0) else spread (-720) 720 [b.off,b.set] 0) else qgI b.name (qaV pre):=by
 have h:((qaV pre).any fun y=>decide (y=b.name))=pre.any fun y=>decide (y.name=b.name):=by
  unfold qaV;rw[List.any_map];rfl
 unfold qip qgI spread spread spread qcM;rw[h];cases qaO b.name<;>cases (pre.any fun y=>decide (y.name=b.name))<;>cases inB b.off.lo (-720) 720<;>cases inB b.off.hi (-720) 720<;>cases inB b.set.lo (-720) 720<;>cases inB b.set.hi (-720) 720<;>simp;by_cases h1:b.off.hi<b.off.lo<;>by_cases h2:b.set.hi<b.set.lo<;>simp[h1,h2]
set_option maxHeartbeats 2000000 in
theorem qAP(l:PLog):FnV Tryz.prog 18 [l.d] (qzb (qaQ l)):=by
 refine qJ mixed qm Tryz.func18 rfl (ft:=qzw) 1 (by decide +kernel) (by rfl) fun {σ} Y st=>?_;conv=>whnf
 unfold qaQ;refine qk (ds:=[i64 l.near,i64 0,i64 60]) (qwn l.near 0 60) rfl rfl ?_;unfold qcM
 cases h0:inB l.near 0 60 with
 | false=>
  conv=>whnf
  exact qc 0 rfl ⟨⟨rfl,rfl⟩,rfl⟩
 | true=>
  conv=>whnf
  rw[List.length_map];refine qk (ds:=[i64 l.books.length,i64 1,i64 3]) (qwn l.books.length 1 3) rfl rfl ?_
  cases h1:inB l.books.length 1 3 with
  | false=>
   conv=>whnf
   exact qc 0 rfl ⟨⟨rfl,rfl⟩,rfl⟩
  | true=>
   have hlen:l.books.length<=3:=by
    have h1:=h1;unfold inB at h1;simp at h1;omega
   simp only[Bool.not_true,if_false,Bool.false_eq_true];conv=>whnf
   generalize hK:qbB [] l.books 0=K;refine zd (T:=tys) qm (by exact qg mixed qm (by decide +kernel)) l.books (fun i (_:Unit)=>⟨[(1,.ptr 1 0),(5,.sl 40 1 0 i),(6,.d (i64 i))],[(1,.box (.dd l.cells)),(40,.arr 1 (.dd ((qaV (l.books.take i)).map fun s=>[.str s])))],st⟩)
    (fun i r _=>qbB (l.books.take i) r i=K) () ((Wk.born 5 40 1 rfl rfl rfl).trans (Wk.sub (by repeat' first|constructor|(simp only[List.length_map];rfl)|simp[PX.get]) (by repeat' first|constructor|(simp only[List.length_map];rfl)|simp[PX.get]))) hK ?_ ?_
   ·rintro i b r _ hx hi hr he
    rw[qbB,quj]at he;have htk:l.books.take (i+1)=l.books.take i ++ [b]:=by rw[List.take_succ,hx];rfl
    have hnl:(qaV (l.books.take i)).length=i:=by unfold qaV;simp;omega
    conv=>whnf
    refine qj (fun _=>?_) (fun h=>absurd hi (by have:=of_decide_eq_false h;simp at this;omega));conv=>whnf
    refine qt hx ?_;conv=>whnf
    refine qw (ds:=[.str b.name,qrF (qaV (l.books.take i))]) (qAs b.name (qaV (l.books.take i)) (by omega)) rfl 1 (qy rfl (qy (js rfl (by simp[hnl])) rfl)) ?_;conv=>whnf
    refine ql rfl ?_;conv=>whnf
    refine ql (by simp[Els.len,hnl]) ?_;conv=>whnf
    refine zx (decide_eq_true (by
     show(((qaV (l.books.take i)).map fun s=>[D.str s]).length+1)*16<=140737488355328;rw[List.length_map];omega)) ?_
    conv=>whnf
    generalize qgI b.name (qaV (l.books.take i))=F at he ⊢;have hnext:(qaV (l.books.take i)).map (fun s=>[D.str s]) ++ [[.str b.name]]=(qaV (l.books.take (i+1))).map fun s=>[.str s]:=by
     rw[htk];simp[qaV]
    have hnl1:((qaV (l.books.take i)).map fun s=>[D.str s]).length+1=i+1:=by rw[List.length_map,hnl]
    refine qj (fun h2=>?_) (fun h2=>?_)
    ·have h2:F=0:=of_decide_eq_true h2
     subst h2;simp only[if_true]at he;conv=>whnf
     refine qw (ds:=[qbA [b.off,b.set],i64 (-720),i64 720]) (qyk [b.off,b.set] (-720) 720 (by simp)) rfl 1 (qy (js rfl rfl) rfl) ?_;generalize spread (-720) 720 [b.off,b.set] 0=S at he ⊢;conv=>whnf
     refine qj (fun h3=>?_) (fun h3=>?_)
     ·have h3:S=0:=by simpa using h3
      subst h3;simp only[if_true]at he;conv=>whnf
      refine qj (fun h8=>?_) (fun h8=>?_)
      ·have h8:b.ents.length>8:=by have:=of_decide_eq_true h8;simp at this;omega
       rw[if_pos h8,if_neg (by decide)]at he;conv=>whnf
       refine qe (qb (by(try dsimp only);omega)) ?_;conv=>whnf
       rw[<- he];exact qc 0 rfl ⟨⟨rfl,rfl⟩,rfl⟩
      ·have h8:¬ b.ents.length>8:=by have:=of_decide_eq_false h8;simp at this;omega
       rw[if_neg h8,if_pos rfl]at he;conv=>whnf
       generalize hE:qeu b.ents 0=E at he;refine zd (T:=tys) qm (by exact qg mixed qm (by decide +kernel)) b.ents (fun k (_:Unit)=>⟨[(1,.ptr 1 0),(5,.sl 40 1 0 (i+1)),(6,.d (i64 i)),(7,.ptr 7 0),(9,.d (i64 k))],[(1,.box (.dd l.cells)),(40,.arr 1 (.dd ((qaV (l.books.take (i+1))).map fun s=>[.str s]))),(7,.box (.dd b.cells))],st⟩)
        (fun k r _=>qeu r k=E) () (Wk.sub ⟨rfl,(by
         show some (V.sl 40 1 0 (((qaV (l.books.take i)).map fun s=>[D.str s]).length+1))=_;rw[hnl1]),rfl,rfl,rfl,trivial⟩ ⟨rfl,(by
         show some (Obj.arr 1 (Els.dd ((qaV (l.books.take i)).map (fun s=>[D.str s]) ++ [[.str b.name]])))=_;rw[hnext]),rfl,trivial⟩) hE ?_ ?_
       ·rintro k y r2 _ hy hk hr2 he2
        rw[qeu]at he2;conv=>whnf
        refine qj (fun _=>?_) (fun h=>absurd hk (by have:=of_decide_eq_false h;simp at this;omega));conv=>whnf
        refine qt hy ?_;conv=>whnf
        refine qk (qAO y) rfl rfl ?_;conv=>whnf
        refine qj (fun h4=>?_) (fun h4=>?_)
        ·have h4:¬ qmP y=0:=by simpa using h4
         rw[if_neg h4]at he2;subst he2;rw[if_neg h4]at he;conv=>whnf
         refine qe (qb (by(try dsimp only);omega)) ?_;conv=>whnf
         rw[<- he];exact qc 0 rfl ⟨⟨rfl,rfl⟩,rfl⟩
        ·have h4:qmP y=0:=by simpa using h4
         rw[if_pos h4]at he2;conv=>whnf
         refine qe (qb (by(try dsimp only);omega)) ?_;conv=>whnf
         exact⟨(),he2,(Wk.sub (by repeat' first|constructor|(simp only[List.length_map];rfl)|simp[PX.get]) (by repeat' first|constructor|(simp only[List.length_map];rfl)|simp[PX.get]))⟩
       ·rintro _ he2
        have he2:((0,0):Int×Int)=E:=he2;subst he2;rw[if_pos rfl,<- htk]at he;conv=>whnf
        refine qj (fun h=>absurd h (by simp)) (fun _=>?_);conv=>whnf
        refine qe (qb (by(try dsimp only);omega)) ?_;conv=>whnf
        exact⟨(),he,(Wk.sub (by repeat' first|constructor|(simp only[List.length_map];rfl)|simp[PX.get]) (by repeat' first|constructor|(simp only[List.length_map];rfl)|simp[PX.get]))⟩
     ·have h3:¬ S=0:=by simpa using h3
      conv=>whnf
      refine qj (fun _=>?_) (fun h=>absurd h (by simp[h3]));rw[if_neg h3,if_neg h3]at he;conv=>whnf
      refine qe (qb (by(try dsimp only);omega)) ?_;conv=>whnf
      rw[<- he];exact qc 0 rfl ⟨⟨rfl,rfl⟩,rfl⟩
    ·have h2:¬ F=0:=of_decide_eq_false h2
     conv=>whnf
     refine qj (fun h=>absurd (of_decide_eq_true h) h2) (fun _=>?_);conv=>whnf
     refine qj (fun _=>?_) (fun h=>absurd h (by simp[h2]));rw[if_neg h2,if_neg h2]at he;conv=>whnf
     refine qe (qb (by(try dsimp only);omega)) ?_;conv=>whnf
     rw[<- he];exact qc 0 rfl ⟨⟨rfl,rfl⟩,rfl⟩
   ·rintro _ he
    rw[qbB]at he;subst he;conv=>whnf
    refine qj (fun h=>absurd h (by simp)) (fun _=>?_);conv=>whnf
    exact qc 0 rfl ⟨⟨rfl,rfl⟩,rfl⟩
theorem qsC(b:PBook)(k:Nat)(hk:k<=b.ents.length)(hb:b.ents.length<=1000):FnV Tryz.prog 105 [.agg b.cells,i64 k] (i64 (zn (b.ents.take k))):=by
 refine qJ mixed qm Tryz.func105 rfl (ft:=qxY) 2 (by decide +kernel) (by rfl) fun {σ} Y st=>?_;conv=>whnf
 refine zI (T:=tys) qm (by exact qg mixed qm (by decide +kernel)) (α:=Nat) (fun i=>⟨[(1,.d (i64 k)),(2,.ptr 2 0),(5,.d (i64 (zn (b.ents.take i)))),(6,.d (i64 i))],[(2,.box (.dd b.cells))],st⟩) (fun i=>i<=k) (fun i=>k-i) 0 (Wk.sub (by repeat' first|constructor|(simp only[List.length_map];rfl)|simp[PX.get]) ⟨(by first|rfl|(simp only[List.length_map];rfl)|simp[PX.get]),trivial⟩) (by simp) ?_;rintro i hi;conv=>whnf
 refine qj (fun h=>?_) (fun h=>?_)
 ·have hik:i<k:=by have:=of_decide_eq_true h;omega
  have hx:b.ents[i]?=some b.ents[i]:=List.getElem?_eq_getElem (by omega);have htk:zn (b.ents.take (i+1))=zn (b.ents.take i)+zn [b.ents[i]]:=by
   rw[<- qrZ,List.take_succ,hx];rfl
  have hs1:zn (b.ents.take i)<=1000:=by
   have:zn (b.ents.take i)<=(b.ents.take i).length:=by unfold zn;exact List.length_filter_le _ _
   simp at this;omega
  generalize b.ents[i]=y at *;conv=>whnf
  refine qj (fun _=>?_) (fun h2=>absurd (of_decide_eq_false h2) (by simp;omega));conv=>whnf
  refine qt hx ?_;conv=>whnf
  refine qj (fun h3=>?_) (fun h3=>?_)
  ·have h3:y.kind=2:=of_decide_eq_true h3
   have h4:zn [y]=1:=by simp[zn,h3]
   conv=>whnf
   refine qn (((zn (b.ents.take i)+1:Nat):Int)) (by(try dsimp only);omega) (qb (by(try dsimp only);omega)) ?_;conv=>whnf
   refine qe (qb (by(try dsimp only);omega)) ?_;conv=>whnf
   exact⟨i+1,by omega,hik,Wk.sub ⟨rfl,rfl,by rw[htk,h4];rfl,rfl,trivial⟩ ⟨rfl,trivial⟩⟩
  ·have h3:¬ y.kind=2:=of_decide_eq_false h3
   have h4:zn [y]=0:=by simp[zn,h3]
   conv=>whnf
   refine qe (qb (by(try dsimp only);omega)) ?_;conv=>whnf
   exact⟨i+1,by omega,hik,Wk.sub ⟨rfl,rfl,by rw[htk,h4];rfl,rfl,trivial⟩ ⟨rfl,trivial⟩⟩
 ·have hik:i=k:=by have:=of_decide_eq_false h;omega
  subst hik;conv=>whnf
  exact qc 0 rfl ⟨⟨rfl,rfl⟩,rfl⟩
theorem qzo(b:PBook)(hb:b.ents.length<=1000):FnV Tryz.prog 51 [.agg b.cells] (i64 (zn b.ents+1:Nat)):=by
 have h105:FnV Tryz.prog 105 [.agg b.cells,i64 b.ents.length] (i64 (zn b.ents)):=FnV.cast (qsC b b.ents.length (Nat.le_refl _) hb) (by rw[List.take_length]);have hs1:zn b.ents<=1000:=by
  have:zn b.ents<=b.ents.length:=by unfold zn;exact List.length_filter_le _ _
  omega
 show FnV Tryz.prog 51 [.agg b.cells] _;refine qJ mixed qm Tryz.func51 rfl (ft:=qzK) 1 (by decide +kernel) (by rfl) fun {σ} Y st=>?_;conv=>whnf
 refine qk (ds:=[.agg b.cells,i64 b.ents.length]) h105 (by
  show [_,_]=_;simp[List.length_map];rfl) rfl ?_
 conv=>whnf
 refine qn (((zn b.ents+1:Nat):Int)) (by(try dsimp only);omega) (qb (by(try dsimp only);omega)) ?_;conv=>whnf
 exact qc 0 rfl ⟨⟨rfl,rfl⟩,rfl⟩
theorem qzp(l:List Int)(n:Int)(hl:l.length<1000000):FnV Tryz.prog 57 [qF l,i64 n] (.bool (decide (n∈l))):=by
 refine qJ mixed qm Tryz.func57 rfl (ft:=qzM) 2 (by decide +kernel) (by rfl) fun {σ} Y st=>?_;conv=>whnf
 refine zd (T:=tys) qm (by exact qg mixed qm (by decide +kernel)) l (fun i (_:Unit)=>⟨[(0,.d (qF l)),(1,.d (i64 n)),(5,.d (i64 i))],[],st⟩) (fun i r _=>decide (n∈l)=decide (n∈r)) () (Wk.sub (by repeat' first|constructor|(simp only[List.length_map];rfl)|simp[PX.get]) trivial) rfl ?_ ?_
 ·intro i x r _ hx hi hr he
  conv=>whnf
  refine qj (fun _=>?_) (fun h=>absurd hi (by have:=of_decide_eq_false h;simp at this;omega));conv=>whnf
  refine qt hx ?_;conv=>whnf
  refine qj (fun h=>?_) (fun h=>?_)
  ·have h:x=n:=of_decide_eq_true h
   have e:decide (n∈l)=true:=by rw[he,h];simp
   conv=>whnf
   rw[e];exact qc 0 rfl ⟨⟨rfl,rfl⟩,rfl⟩
  ·have h:¬ x=n:=of_decide_eq_false h
   have e:decide (n∈l)=decide (n∈r):=by rw[he];simp[Ne.symm h]
   conv=>whnf
   refine qe (qb (by(try dsimp only);omega)) ?_;conv=>whnf
   exact⟨(),e,(Wk.sub (by repeat' first|constructor|(simp only[List.length_map];rfl)|simp[PX.get]) trivial)⟩
 ·intro _ he
  conv=>whnf
  refine qj (fun h=>absurd h (by simp)) (fun _=>?_);conv=>whnf
  rw[he];exact qc 0 rfl ⟨⟨rfl,rfl⟩,rfl⟩
def qmB(b:PBook)(n:Int):Int:=match zJ b.ents n 0 with
 | some k=>k
 | none=>-1
theorem qxE(b:PBook)(n:Int)(hb:b.ents.length<1000000):FnV Tryz.prog 58 [.agg b.cells,i64 n] (i64 (qmB b n)):=by
 unfold qmB;refine qJ mixed qm Tryz.func58 rfl (ft:=qzN) 2 (by decide +kernel) (by rfl) fun {σ} Y st=>?_;conv=>whnf
 refine zd (T:=tys) qm (by exact qg mixed qm (by decide +kernel)) b.ents (fun i (_:Unit)=>⟨[(1,.d (i64 n)),(2,.ptr 2 0),(5,.d (i64 i))],[(2,.box (.dd b.cells))],st⟩) (fun i r _=>zJ b.ents n 0=zJ r n i) () (Wk.sub (by repeat' first|constructor|(simp only[List.length_map];rfl)|simp[PX.get]) ⟨(by first|rfl|(simp only[List.length_map];rfl)|simp[PX.get]),trivial⟩) rfl ?_ ?_
 ·intro i x r _ hx hi hr he
  rw[zJ]at he;conv=>whnf
  refine qj (fun _=>?_) (fun h=>absurd hi (by have:=of_decide_eq_false h;simp at this;omega));conv=>whnf
  refine qt hx ?_;conv=>whnf
  refine qj (fun h=>?_) (fun h=>?_)
  ·have h:x.kind=3:=of_decide_eq_true h
   conv=>whnf
   refine qt hx ?_;conv=>whnf
   refine qj (fun h2=>?_) (fun h2=>?_)
   ·have h2:x.number=n:=of_decide_eq_true h2
    rw[if_pos ⟨h,h2⟩]at he;conv=>whnf
    rw[he];exact qc 0 rfl ⟨⟨rfl,rfl⟩,rfl⟩
   ·have h2:¬ x.number=n:=of_decide_eq_false h2
    rw[if_neg fun h3=>h2 h3.2]at he;conv=>whnf
    refine qe (qb (by(try dsimp only);omega)) ?_;conv=>whnf
    exact⟨(),he,(Wk.sub (by repeat' first|constructor|(simp only[List.length_map];rfl)|simp[PX.get]) ⟨(by first|rfl|(simp only[List.length_map];rfl)|simp[PX.get]),trivial⟩)⟩
  ·have h:¬ x.kind=3:=of_decide_eq_false h
   rw[if_neg fun h3=>h h3.1]at he;conv=>whnf
   refine qe (qb (by(try dsimp only);omega)) ?_;conv=>whnf
   exact⟨(),he,(Wk.sub (by repeat' first|constructor|(simp only[List.length_map];rfl)|simp[PX.get]) ⟨(by first|rfl|(simp only[List.length_map];rfl)|simp[PX.get]),trivial⟩)⟩
 ·intro _ he
  conv=>whnf
  refine qj (fun h=>absurd h (by simp)) (fun _=>?_);conv=>whnf
  rw[he];exact qc 0 rfl ⟨⟨rfl,rfl⟩,rfl⟩
def qkW(n:Int)(b:PBook):Bool:=(zJ b.ents n 0).isSome
theorem qmC(b:PBook)(n:Int):decide (0<=qmB b n)=qkW n b:=by
 unfold qmB qkW
 cases zJ b.ents n 0 with
 | none=>rfl
 | some k=>simp
def qcp(l:PLog)(k:Nat):List Int:=((List.range' 1 k).map fun(n:Nat)=>(n:Int)).filter fun n=>l.books.any (qkW n)
theorem qnO(l:PLog)(k:Nat):qcp l (k+1)=qcp l k++if l.books.any (qkW ((k+1:Nat):Int)) then [((k+1:Nat):Int)] else []:=by
 unfold qcp;rw[List.range'_concat,List.map_append,List.filter_append];simp only[Nat.mul_one,Nat.one_mul,List.map_cons,List.map_nil,Nat.add_comm 1 k]
 congr 1
 rw[List.filter_cons];split<;>rfl
theorem qqo(l:PLog)(k:Nat):(qcp l k).length<=k:=by
 unfold qcp;refine Nat.le_trans (List.length_filter_le _ _) ?_;simp
set_option maxHeartbeats 4000000 in
theorem qzq(l:PLog)(hR:LogR l):FnV Tryz.prog 55 [l.d] (qF (zB l)):=by
 have hlen:=hR.books;have hN:zB l=qcp l 99:=rfl;rw[hN];show FnV Tryz.prog 55 [l.d] _;refine qJ mixed qm Tryz.func55 rfl (ft:=qzL) 1 (by decide +kernel) (by rfl) fun {σ} Y st=>?_;conv=>whnf
 refine zI (T:=tys) qm (by exact qg mixed qm (by decide +kernel)) (α:=Nat) (fun k=>⟨[(1,.ptr 1 0),(3,.sl 33 1 0 (qcp l k).length),(4,.d (i64 (k+1)))],[(1,.box (.dd l.cells)),(33,.arr 1 (.dd ((qcp l k).map fun x=>[i64 x])))],st⟩) (fun k=>k<=99) (fun k=>99-k) 0 ((Wk.born 3 33 1 rfl rfl rfl).trans (Wk.sub (by repeat' first|constructor|(simp only[List.length_map];rfl)|simp[PX.get]) (by repeat' first|constructor|(simp only[List.length_map];rfl)|simp[PX.get]))) (by simp) ?_;rintro k hk;have hnl:=qqo l k;conv=>whnf
 refine qj (fun h=>?_) (fun h=>?_)
 ·have hk9:k<99:=by have:=of_decide_eq_true h;omega
  have hsc:=qnO l k;obtain⟨n,hn⟩:∃ n:Int,n=(k:Int)+1:=⟨_,rfl⟩;rw[<- hn];have hn2:((k+1:Nat):Int)=n:=by rw[hn];rfl
  rw[hn2]at hsc;conv=>whnf
  refine zd (T:=tys) qm (by exact qg mixed qm (by decide +kernel)) l.books (fun i (_:Unit)=>⟨[(1,.ptr 1 0),(3,.sl 33 1 0 (qcp l k).length),(4,.d (i64 n)),(5,.d (.bool ((l.books.take i).any (qkW n)))),(6,.d (i64 i))],[(1,.box (.dd l.cells)),(33,.arr 1 (.dd ((qcp l k).map fun x=>[i64 x])))],st⟩) (fun i r _=>i<=l.books.length) () (Wk.sub (by repeat' first|constructor|(simp only[List.length_map];rfl)|simp[PX.get]) (by repeat' first|constructor|(simp only[List.length_map];rfl)|simp[PX.get])) (Nat.zero_le _) ?_ ?_
  ·intro i b r _ hx hi hr _
   have hbR:=hR.book b (List.mem_of_getElem? hx);have hel:=hbR.ents;have htk:(l.books.take (i+1)).any (qkW n)=((l.books.take i).any (qkW n)||qkW n b):=by
    rw[List.take_succ,hx,List.any_append];simp
   have hg:=qmC b n;generalize (l.books.take i).any (qkW n)=B at htk ⊢;conv=>whnf
   refine qj (fun _=>?_) (fun h=>absurd hi (by have:=of_decide_eq_false h;simp at this;omega))
   cases B with
   | true=>
    conv=>whnf
    refine qe (qb (by(try dsimp only);omega)) ?_;conv=>whnf
    exact⟨(),by omega,Wk.sub ⟨rfl,rfl,rfl,by rw[htk];rfl,rfl,trivial⟩ ⟨rfl,rfl,trivial⟩⟩
   | false=>
    conv=>whnf
    refine qt hx ?_;conv=>whnf
    refine qk (ds:=[.agg b.cells,i64 n]) (qxE b n (by omega)) rfl rfl ?_;conv=>whnf
    refine qe (qb (by(try dsimp only);omega)) ?_;conv=>whnf
    exact⟨(),by omega,Wk.sub ⟨rfl,rfl,rfl,by rw[htk,Bool.false_or,<- hg];rfl,rfl,trivial⟩ ⟨rfl,rfl,trivial⟩⟩
  ·intro _ _
   rw[List.take_length]
   cases hB:l.books.any (qkW n) with
   | true=>
    rw[hB,if_pos rfl]at hsc;conv=>whnf
    refine qj (fun h=>absurd h (by simp)) (fun _=>?_);conv=>whnf
    refine ql rfl ?_;conv=>whnf
    refine ql (by simp[Els.len]) ?_;conv=>whnf
    refine zx (decide_eq_true (by
     show(((qcp l k).map fun x=>[i64 x]).length+1)*8<=140737488355328;rw[List.length_map];omega)) ?_
    conv=>whnf
    refine qn (((k+1:Nat):Int)+1) (by omega) (qb (by omega)) ?_;conv=>whnf
    refine⟨k+1,by omega,by omega,Wk.sub ⟨rfl,(by
     show some (V.sl 33 1 0 (((qcp l k).map fun x=>[i64 x]).length+1))=_;rw[List.length_map,hsc,List.length_append];rfl),rfl,trivial⟩ ⟨rfl,(by
     show some (Obj.arr 1 (.dd (((qcp l k).map fun x=>[i64 x]) ++ [[i64 n]])))=_;rw[hsc,List.map_append];rfl),trivial⟩⟩
   | false=>
    rw[hB,if_neg (by decide),List.append_nil]at hsc;conv=>whnf
    refine qj (fun h=>absurd h (by simp)) (fun _=>?_);conv=>whnf
    refine qn (((k+1:Nat):Int)+1) (by omega) (qb (by omega)) ?_;conv=>whnf
    exact⟨k+1,by omega,by omega,Wk.sub ⟨rfl,(by rw[hsc];rfl),rfl,trivial⟩ ⟨rfl,(by rw[hsc];rfl),trivial⟩⟩
 ·have hk9:k=99:=by have:=of_decide_eq_false h;omega
  subst hk9;conv=>whnf
  exact qc 1 (qy (je (es':=(qcp l 99).map fun x=>[i64 x]) rfl rfl (by simp)) rfl) ⟨⟨rfl,rfl⟩,rfl⟩
theorem quk{l:PLog}(h:qE l=0):(zB l = []/\qbp l=0) \/ ∃ r,zB l=r ++ [qbp l]:=by
 obtain⟨h1,h2,h3,h4⟩:=qgo h;by_cases h0:qbp l=0
 ·left
  refine⟨?_,h0⟩;rw[qjP h,h0];rfl
 ·right
  obtain⟨k,hk⟩:∃ k:Nat,qbp l=((k+1:Nat):Int):=⟨(qbp l).toNat-1,by omega⟩;have h5:0<inN l (qbp l):=by rcases h4 with h4|h4;exact absurd h4 h0;exact h4
  rw[qjP h];refine⟨(qgp k).filter fun n=>!decide (inN l n=0),?_⟩;have e:qgp (qbp l)=qgp k ++ [qbp l]:=by
   rw[hk];unfold qgp;rw[Int.toNat_natCast,Int.toNat_natCast,List.range'_concat,List.map_append];simp[Nat.add_comm]
  rw[e,List.filter_append,List.filter_cons,if_pos (by simp;omega)];rfl
def qV(l:List Int):List (List D):=l.map fun x=>[i64 x]
theorem qsD(w:List Int)(v:Int):qV w ++ [[i64 v]]=qV (w ++ [v]):=by
 unfold qV;rw[List.map_append];rfl
theorem zl(w:List Int):(qV w).length=w.length:=by unfold qV;rw[List.length_map]
end Go.PX
namespace Go.PX
open Go.Proofs
abbrev nvr:Int:=1099511627776
abbrev Rws:=List (List Int)
def tAt(t:Rws)(i j:Nat):Int:=(((t[i]?).getD [])[j]?).getD nvr
def qsW(t:Rws)(i j:Nat)(x:Int):Rws:=t.set i (((t[i]?).getD []).set j x)
def qfO(t:Rws)(e:PG.Step Nat):Rws:=qsW t e.a e.b (min (tAt t e.a e.b) e.w)
structure Sq(n:Nat)(t:Rws):Prop where
 len:t.length=n
 row:∀ (i:Nat) r,t[i]?=some r->r.length=n
theorem Sq.get{n:Nat}{t:Rws}(h:Sq n t){i:Nat}(hi:i<n):∃ r,t[i]?=some r/\r.length=n:=by
 have:=h.len;obtain⟨r,hr⟩:∃ r,t[i]?=some r:=⟨_,List.getElem?_eq_getElem (by omega)⟩;exact⟨r,hr,h.row i r hr⟩
theorem qdy{n:Nat}{t:Rws}(h:Sq n t){i:Nat}(hi:i<n)(j:Nat)(x:Int):Sq n (qsW t i j x):=by
 obtain⟨r,h1,h2⟩:=h.get hi;refine⟨by unfold qsW;rw[List.length_set,h.len],fun k q hq=>?_⟩;unfold qsW at hq;rw[List.getElem?_set]at hq;split at hq
 ·split at hq
  ·cases hq
   rw[List.length_set,h1];exact h2
  ·cases hq
 ·exact h.row k q hq
theorem qgr{n:Nat}{t:Rws}(h:Sq n t){i j:Nat}(hi:i<n)(hj:j<n)(x:Int)(a b:Nat):tAt (qsW t i j x) a b=if a=i/\b=j then x else tAt t a b:=by
 obtain⟨r,h1,h2⟩:=h.get hi;have hl:=h.len;unfold tAt qsW;rw[List.getElem?_set];by_cases ha:i=a
 ·subst ha
  rw[if_pos rfl,if_pos (by omega),h1];simp only[Option.getD_some];rw[List.getElem?_set];by_cases hb:j=b
  ·subst hb
   rw[if_pos rfl,if_pos (by omega)];simp
  ·rw[if_neg hb,if_neg (fun h=>hb h.2.symm)]
 ·rw[if_neg ha,if_neg (fun h=>ha h.1.symm)]
def tbl(t:Rws):PG.Tb:=fun a b=>tAt t a b
theorem qvY{n:Nat}{t:Rws}(h:Sq n t){i j:Nat}(hi:i<n)(hj:j<n)(x:Int):tbl (qsW t i j x)=PG.updT (tbl t) i j x:=by
 funext a b
 exact qgr h hi hj x a b
def spE(w:Int)(n:Nat)(s:Span):List (PG.Step Nat):=[⟨0,n,s.hi+w⟩,⟨n,0,w-s.lo⟩]
def qsX(l:PLog)(w:Int)(i:Nat)(b:PBook)(p:Nat):List (PG.Step Nat):=spE w (jx l i p) (if p=0 then b.off else b.set)
def qmD(b:PBook)(k:Nat):Int:=((b.ents[k]?).map (·.shown)).getD 0
def qul(l:PLog)(i:Nat)(b:PBook)(k:Nat):PG.Step Nat:=⟨jx l i (qL b k),jx l i (qL b (k+1)),qmD b (k+1)-qmD b k⟩
def qvb(l:PLog)(conf:List Int)(i:Nat)(b:PBook)(j:Nat)(c:PBook)(num:Int):List (PG.Step Nat):=
 match zJ b.ents num 0,zJ c.ents num 0 with
 | some m,some n=>if num∈conf then [] else [⟨jx l i (qL b m),jx l j (qL c n),qmD c n-qmD b m⟩]
 | _,_=>[]
def qmE(l:PLog)(i:Nat):PBook:=(l.books[i]?).getD ⟨.empty,⟨0,0⟩,⟨0,0⟩,[]⟩
def qqp(l:PLog)(conf:List Int)(i j:Nat):List (PG.Step Nat):=(List.range' 1 99).flatMap fun num=>qvb l conf i (qmE l i) j (qmE l j) (num:Nat)
def qqq(l:PLog)(w:Int)(conf:List Int)(i:Nat):List (PG.Step Nat):=
 (List.range (zn (qmE l i).ents+1)).flatMap (qsX l w i (qmE l i))++(List.range ((qmE l i).ents.length-1)).map (qul l i (qmE l i))++(List.range l.books.length).flatMap (qqp l conf i)
def qiG(l:PLog)(w:Int)(conf:List Int):List (PG.Step Nat):=(List.range l.books.length).flatMap (qqq l w conf)
structure SameE(l:PLog)(e:PG.Step Nat)(e':zu):Prop where
 a:(qY l)[e.a]?=some e'.a
 b:(qY l)[e.b]?=some e'.b
 w:e.w=e'.w
theorem qbf{l:PLog}{i:Nat}{b:PBook}(h:l.books[i]?=some b):qmE l i=b:=by unfold qmE;rw[h];rfl
theorem qdD{b:PBook}{k:Nat}{x:PEnt}(h:b.ents[k]?=some x):qmD b k=x.shown:=by unfold qmD;rw[h];rfl
theorem zD(l:PLog):(qY l)[0]?=some .right:=rfl
theorem qum{l:PLog}{conf:List Int}{i j:Nat}{b c:PBook}{num:Int}{e:PG.Step Nat}(hb:l.books[i]?=some b)(hc:l.books[j]?=some c)(h:e∈qvb l conf i b j c num):∃ m n x y,Rep l conf i j m n b c x y num/\e=⟨jx l i (qL b m),jx l j (qL c n),y.shown-x.shown⟩:=by
 unfold qvb at h
 cases h1:zJ b.ents num 0 with
 | none=>rw[h1]at h;cases h
 | some m=>
  cases h2:zJ c.ents num 0 with
  | none=>rw[h1,h2]at h;cases h
  | some n=>
   rw[h1,h2]at h;simp only at h;split at h
   ·cases h
   ·rename_i hn
    rw[List.mem_singleton]at h;obtain⟨x,_,hx,_⟩:=zQ h1;obtain⟨y,_,hy,_⟩:=zQ h2;rw[Nat.sub_zero]at hx hy;exact⟨m,n,x,y,⟨⟨hb,hx⟩,⟨hc,hy⟩,h1,h2,hn⟩,by rw[h,qdD hx,qdD hy]⟩
theorem qfP{l:PLog}{w:Int}{conf:List Int}{e:PG.Step Nat}(h:e∈qiG l w conf):∃ e',Just l w conf e'/\SameE l e e':=by
 obtain⟨i,hi,h⟩:=List.mem_flatMap.1 h;rw[List.mem_range]at hi;obtain⟨b,hb⟩:∃ b,l.books[i]?=some b:=⟨_,List.getElem?_eq_getElem hi⟩;unfold qqq at h;rw[qbf hb]at h;rcases List.mem_append.1 h with h|h
 ·rcases List.mem_append.1 h with h|h
  ·obtain⟨p,hp,h⟩:=List.mem_flatMap.1 h
   rw[List.mem_range]at hp;have hn:=qaj hb (n:=p) (by omega);unfold qsX spE at h;simp only[List.mem_cons,List.not_mem_nil,or_false]at h
   cases p with
   | zero=>
    rw[if_pos rfl]at h;rcases h with rfl|rfl
    ·exact⟨_,.off i b hb _ (List.mem_cons_self ..),zD l,hn,rfl⟩
    ·exact⟨⟨⟨i,0⟩,.right,w-b.off.lo⟩,.off i b hb _ (by simp[jh]),hn,zD l,rfl⟩
   | succ p=>
    rw[if_neg (by omega)]at h;rcases h with rfl|rfl
    ·exact⟨_,.set i b hb (p+1) (by omega) (by omega) _ (List.mem_cons_self ..),zD l,hn,rfl⟩
    ·exact⟨⟨⟨i,(p+1:Nat)⟩,.right,w-b.set.lo⟩,.set i b hb (p+1) (by omega) (by omega) _ (by simp[jh]),hn,zD l,rfl⟩
  ·obtain⟨k,hk,rfl⟩:=List.mem_map.1 h
   rw[List.mem_range]at hk;obtain⟨x,hx⟩:∃ x,b.ents[k]?=some x:=⟨_,List.getElem?_eq_getElem (by omega)⟩;obtain⟨y,hy⟩:∃ y,b.ents[k+1]?=some y:=⟨_,List.getElem?_eq_getElem (by omega)⟩;exact⟨_,.ord i k b x y ⟨hb,hx⟩ ⟨hb,hy⟩,qaj hb (jf b k),qaj hb (jf b (k+1)),by unfold qul qcx;simp only;rw[qdD hx,qdD hy]⟩
 ·obtain⟨j,hj,h⟩:=List.mem_flatMap.1 h
  rw[List.mem_range]at hj;obtain⟨c,hc⟩:∃ c,l.books[j]?=some c:=⟨_,List.getElem?_eq_getElem hj⟩;obtain⟨num,_,h⟩:=List.mem_flatMap.1 h;rw[qbf hb,qbf hc]at h;obtain⟨m,n,x,y,hr,rfl⟩:=qum hb hc h;exact⟨_,.rep i j m n b c x y num hr,qaj hb (jf b m),qaj hc (jf c n),rfl⟩
theorem qhi{l:PLog}(hC:qE l=0){w:Int}{conf:List Int}{e':zu}(h:Just l w conf e'):∃ e∈qiG l w conf,SameE l e e':=by
 have inB:∀ {i:Nat} {b:PBook} {e:PG.Step Nat},l.books[i]?=some b->e∈qqq l w conf i->e∈qiG l w conf:=fun hb he=>
  List.mem_flatMap.2 ⟨_,List.mem_range.2 (List.getElem?_eq_some_iff.1 hb).1,he⟩
 have inP:∀ {i:Nat} {b:PBook} {p:Nat} {e:PG.Step Nat},l.books[i]?=some b->p<=zn b.ents->e∈qsX l w i b p->e∈qiG l w conf:=fun {i b p e} hb hp he=>by
  refine inB hb (List.mem_append_left _ (List.mem_append_left _ ?_));rw[qbf hb];exact List.mem_flatMap.2 ⟨p,List.mem_range.2 (by omega),he⟩
 cases h with
 | off i b hb e he=>
  have hn:=qaj hb (n:=0) (by omega);unfold jh at he;simp only[List.mem_cons,List.not_mem_nil,or_false]at he;rcases he with rfl|rfl
  ·exact⟨⟨0,jx l i 0,b.off.hi+w⟩,inP hb (p:=0) (by omega) (by simp[qsX,spE]),zD l,hn,rfl⟩
  ·exact⟨⟨jx l i 0,0,w-b.off.lo⟩,inP hb (p:=0) (by omega) (by simp[qsX,spE]),hn,zD l,rfl⟩
 | set i b hb n h1 h2 e he=>
  have hn:=qaj hb h2;unfold jh at he;simp only[List.mem_cons,List.not_mem_nil,or_false]at he;rcases he with rfl|rfl
  ·exact⟨⟨0,jx l i n,b.set.hi+w⟩,inP hb h2 (by unfold qsX;rw[if_neg (by omega)];simp[spE]),zD l,hn,rfl⟩
  ·exact⟨⟨jx l i n,0,w-b.set.lo⟩,inP hb h2 (by unfold qsX;rw[if_neg (by omega)];simp[spE]),hn,zD l,rfl⟩
 | ord i k b x y hx hy=>
  refine⟨qul l i b k,inB hx.book (List.mem_append_left _ (List.mem_append_right _ ?_)),qaj hx.book (jf b k),qaj hx.book (jf b (k+1)),by unfold qul qcx;simp only;rw[qdD hx.ent,qdD hy.ent]⟩;rw[qbf hx.book];have:=(List.getElem?_eq_some_iff.1 hy.ent).1;exact List.mem_map.2 ⟨k,List.mem_range.2 (by omega),rfl⟩
 | rep i j m n b c x y num hr=>
  have hb:=hr.ha.book;have hc:=hr.hb.book;refine⟨⟨jx l i (qL b m),jx l j (qL c n),y.shown-x.shown⟩,inB hb (List.mem_append_right _ (List.mem_flatMap.2 ⟨j,List.mem_range.2 (List.getElem?_eq_some_iff.1 hc).1,?_⟩)),qaj hb (jf b m),qaj hc (jf c n),rfl⟩;have hx:=(qcR hC (List.mem_of_getElem? hb)).2.2.2 x (List.mem_of_getElem? hr.ha.ent);obtain⟨x',_,hx',h3,h4,_⟩:=zQ hr.fa;rw[Nat.sub_zero,hr.ha.ent]at hx';cases hx';have h5:=hx.number;have h6:=(hx.rep h3).2;unfold qqp;rw[qbf hb,qbf hc];refine List.mem_flatMap.2 ⟨num.toNat,List.mem_range'_1.2 (by omega),?_⟩;have hnum:((num.toNat:Nat):Int)=num:=by omega
  rw[hnum];unfold qvb;rw[hr.fa,hr.fb];simp only;rw[if_neg hr.no,qdD hr.ha.ent,qdD hr.hb.ent];exact List.mem_singleton.2 rfl
def qxF(l:PLog)(p:Per):Nat:=if p.book<0 then 0 else jx l p.book.toNat p.n.toNat
theorem qmF{l:PLog}{k:Nat}{p:Per}(h:(qY l)[k]?=some p):qxF l p=k:=by
 unfold qxF;rcases qep h with⟨rfl,rfl⟩|⟨i,b,n,_,_,rfl,rfl⟩
 ·rfl
 ·rw[if_neg (by simp only;omega)];rfl
theorem qiH{l:PLog}(hC:qE l=0){w:Int}{conf:List Int}{t:Nat->Int}(h:PG.Pot (qiG l w conf) t):TruthX l w conf fun p=>t (qxF l p)-t 0:=by
 refine qcO.1 ⟨by show t (qxF l .right)-t 0=0;rw[qmF (zD l)];omega,fun e' he'=>?_⟩;obtain⟨e,he,hs⟩:=qhi hC he';have:=h e he
 (try simp only)
 rw[qmF hs.a,qmF hs.b,<- hs.w];omega
theorem qeq{l:PLog}{w:Int}{conf:List Int}{t:Per->Int}(h:TruthX l w conf t):PG.Pot (qiG l w conf) fun k=>t (((qY l)[k]?).getD .right):=by
 intro e he;obtain⟨e',he',hs⟩:=qfP he;have:=(qcO.2 h).ok e' he'
 (try simp only)
 rw[hs.a,hs.b,hs.w];exact this
def qun(n i:Nat):List Int:=(List.replicate n nvr).set i 0
def qpe(n:Nat):Rws:=(List.range n).map (qun n)
def qsY(l:PLog)(w:Int)(conf:List Int):Rws:=(qiG l w conf).foldl qfO (qpe (1+zF l.books))
theorem qsE(n:Nat):Sq n (qpe n):=by
 refine⟨by unfold qpe;simp,fun i r hr=>?_⟩;unfold qpe at hr;rw[List.getElem?_map]at hr
 cases h:(List.range n)[i]? with
 | none=>rw[h]at hr;cases hr
 | some k=>rw[h]at hr;cases hr;unfold qun;simp
theorem qnP(n a b:Nat):tAt (qpe n) a b=if a<n/\a=b then 0 else nvr:=by
 have hr:(qpe n)[a]?=if a<n then some (qun n a) else none:=by
  unfold qpe;rw[List.getElem?_map];split
  ·rename_i h;rw[List.getElem?_range h];rfl
  ·rename_i h;rw[List.getElem?_eq_none (by simpa using h)];rfl
 have hz:∀ b,(qun n a)[b]?=if a=b then (if b<n then some 0 else none) else (if b<n then some nvr else none):=fun b=>by
  unfold qun;rw[List.getElem?_set,List.getElem?_replicate,List.length_replicate];split
  ·rename_i h;subst h;rfl
  ·rfl
 unfold tAt;rw[hr];by_cases ha:a<n
 ·rw[if_pos ha,Option.getD_some,hz]
  by_cases hb:a=b
  ·subst hb
   rw[if_pos rfl,if_pos ha,if_pos ⟨ha,rfl⟩];rfl
  ·rw[if_neg hb,if_neg (show ¬ (a<n/\a=b) from fun h=>hb h.2)]
   split<;>rfl
 ·rw[if_neg ha,if_neg (fun h=>ha h.1)]
  rfl
structure BegI(l:PLog)(w:Int)(conf:List Int)(n:Nat)(t:Rws):Prop where
 sq:Sq n t
 walks:PG.WalksT (qiG l w conf) nvr (tbl t)
 diag:∀ i,i<n->tAt t i i<=0
 bd:∀ a b,-1100000<=tAt t a b/\tAt t a b<=nvr
theorem qiI{n:Nat}{t:Rws}(h:Sq n t){e:PG.Step Nat}(ha:e.a<n)(hb:e.b<n)(a b:Nat):tAt (qfO t e) a b=if a=e.a/\b=e.b then min (tAt t a b) e.w else tAt t a b:=by
 unfold qfO;rw[qgr h ha hb];split
 ·rename_i h1;rw[h1.1,h1.2]
 ·rfl
theorem qsF{l:PLog}{w:Int}{conf:List Int}{n:Nat}{t:Rws}(h:BegI l w conf n t){e:PG.Step Nat}(he:e∈qiG l w conf)(ha:e.a<n)(hb:e.b<n)(hw : -1100000<=e.w/\e.w<=1100000):BegI l w conf n (qfO t e):=by
 refine⟨qdy h.sq ha _ _,fun a b hab=>?_,fun i hi=>?_,fun a b=>?_⟩
 ·unfold tbl at hab ⊢
  rw[qiI h.sq ha hb]at hab ⊢;split at hab
  ·rename_i h1
   rw[if_pos h1];obtain⟨rfl,rfl⟩:=h1;by_cases h2:tAt t e.a e.b<=e.w
   ·rw[Int.min_eq_left h2]at hab ⊢
    exact h.walks _ _ hab
   ·rw[Int.min_eq_right (by omega)]
    exact⟨1,.one he⟩
  ·rename_i h1
   rw[if_neg h1];exact h.walks _ _ hab
 ·rw[qiI h.sq ha hb]
  have:=h.diag i hi;split
  ·omega
  ·exact this
 ·rw[qiI h.sq ha hb]
  have:=h.bd a b;split
  ·omega
  ·exact this
theorem qpf{l:PLog}{w:Int}{conf:List Int}{n:Nat}:∀ (E:List (PG.Step Nat)) {t:Rws},(∀ e∈E,e∈qiG l w conf/\e.a<n/\e.b<n /\ -1100000<=e.w/\e.w<=1100000)->BegI l w conf n t->BegI l w conf n (E.foldl qfO t)/\(∀ a b,tAt (E.foldl qfO t) a b<=tAt t a b) /\ ∀ e∈E,tAt (E.foldl qfO t) e.a e.b<=e.w
 | [],t,_,h=>⟨h,fun a b=>Int.le_refl _,fun e he=>by cases he⟩
 | d::E,t,hE,h=>by
  obtain⟨h1,h2,h3,h4⟩:=hE d (List.mem_cons_self ..);obtain⟨k1,k2,k3⟩:=qpf E (fun e he=>hE e (List.mem_cons_of_mem _ he)) (qsF h h1 h2 h3 h4);rw[List.foldl_cons];have hle:∀ a b,tAt (qfO t d) a b<=tAt t a b:=fun a b=>by
   rw[qiI h.sq h2 h3];split<;>omega
  refine⟨k1,fun a b=>Int.le_trans (k2 a b) (hle a b),fun e he=>?_⟩;rcases List.mem_cons.1 he with rfl|he
  ·refine Int.le_trans (k2 _ _) ?_
   rw[qiI h.sq h2 h3,if_pos ⟨rfl,rfl⟩];omega
  ·exact k3 e he
theorem qgs{l:PLog}(hC:qE l=0){w:Int}(hw:0<=w/\w<=1048576){conf:List Int}{e:PG.Step Nat}(he:e∈qiG l w conf):e.a<1+zF l.books/\e.b<1+zF l.books /\ -1100000<=e.w/\e.w<=1100000:=by
 obtain⟨e',he',hs⟩:=qfP he;have h1:=(List.getElem?_eq_some_iff.1 hs.a).1;have h2:=(List.getElem?_eq_some_iff.1 hs.b).1;rw[qio]at h1 h2;have:=quT (zK hC) hw he';rw[hs.w];exact⟨h1,h2,this⟩
theorem qkX{l:PLog}(hC:qE l=0):1+zF l.books<=28:=by
 have hR:=zK hC;have key:∀ bs:List PBook,(∀ b∈bs,BookR b)->zF bs<=9*bs.length:=by
  intro bs
  induction bs with
  | nil=>intro _;exact Nat.le_refl _
  | cons b r ih=>
   intro h;have:=ih fun c hc=>h c (List.mem_cons_of_mem _ hc);have h2:=qbe b;have h3:=(h b (List.mem_cons_self ..)).ents;rw[qbM,List.length_cons];omega
 have:=key l.books hR.book;have:=hR.books;omega
theorem qzr{l:PLog}(hC:qE l=0){w:Int}(hw:0<=w/\w<=1048576)(conf:List Int):BegI l w conf (1+zF l.books) (qsY l w conf)/\PG.Begin (qiG l w conf) nvr 1100000 (1+zF l.books) (tbl (qsY l w conf)):=by
 have h0:BegI l w conf (1+zF l.books) (qpe (1+zF l.books)):=by
  refine⟨qsE _,fun a b hab=>?_,fun i hi=>by rw[qnP,if_pos ⟨hi,rfl⟩];exact Int.le_refl _,fun a b=>by rw[qnP];split<;>decide⟩;unfold tbl at hab ⊢;rw[qnP]at hab ⊢;split at hab
  ·rename_i h1
   rw[if_pos h1];obtain⟨_,rfl⟩:=h1;exact⟨0,.nil _⟩
  ·exact absurd hab (Int.lt_irrefl _)
 obtain⟨h1,h2,h3⟩:=qpf (qiG l w conf) (fun e he=>⟨he,qgs hC hw he⟩) h0;refine⟨h1,h1.walks,h1.diag,fun e he=>h3 e he,fun e he=>⟨(qgs hC hw he).1,(qgs hC hw he).2.1⟩,fun e he=>(qgs hC hw he).2.2,by decide,?_⟩;have:=qkX hC;have:((1+zF l.books+1:Nat):Int)<=29:=by omega
 have h4:((1+zF l.books+1:Nat):Int)*1100000<=29*1100000:=Int.mul_le_mul_of_nonneg_right this (by decide);exact Int.lt_of_le_of_lt h4 (by decide)
def wr(x:Int):Int:=IntKind.wrap .i64 x
def qce(t:Rws)(i k j:Nat):Rws:=if tAt t i k<nvr/\tAt t k j<nvr then qsW t i j (min (tAt t i j) (wr (tAt t i k+tAt t k j))) else t
def qsG(n:Nat)(t:Rws)(i k:Nat):Rws:=(List.range n).foldl (fun t j=>qce t i k j) t
def qbw(n:Nat)(t:Rws)(k:Nat):Rws:=(List.range n).foldl (fun t i=>qsG n t i k) t
def qvZ(n:Nat)(t:Rws):Rws:=(List.range n).foldl (fun t k=>qbw n t k) t
def qwa(n:Nat)(t:Rws):Bool:=(List.range n).all fun i=>decide (0<=tAt t i i)
def qsH(l:PLog)(w:Int)(conf:List Int):Rws:=qvZ (1+zF l.books) (qsY l w conf)
theorem qsI{n:Nat}{t:Rws}(h:Sq n t){i:Nat}(hi:i<n)(k j:Nat):Sq n (qce t i k j):=by
 unfold qce;split
 ·exact qdy h hi _ _
 ·exact h
theorem qsJ{n:Nat}{t:Rws}(h:Sq n t){i j:Nat}(hi:i<n)(hj:j<n)(k a b:Nat):tAt (qce t i k j) a b<=tAt t a b:=by
 unfold qce;split
 ·rw[qgr h hi hj]
  split
  ·rename_i h1
   rw[h1.1,h1.2];omega
  ·omega
 ·omega
theorem qnQ{n:Nat}{f:Rws->Nat->Rws}(hf:∀ t x,x<n->Sq n t->Sq n (f t x) /\ ∀ a b,tAt (f t x) a b<=tAt t a b):∀ (l:List Nat) (t:Rws),(∀ x∈l,x<n)->Sq n t->Sq n (l.foldl f t) /\ ∀ a b,tAt (l.foldl f t) a b<=tAt t a b
 | [],t,_,h=>⟨h,fun a b=>Int.le_refl _⟩
 | x::l,t,hl,h=>by
  obtain⟨h1,h2⟩:=hf t x (hl x (List.mem_cons_self ..)) h;obtain⟨h3,h4⟩:=qnQ hf l (f t x) (fun y hy=>hl y (List.mem_cons_of_mem _ hy)) h1;exact⟨h3,fun a b=>Int.le_trans (h4 a b) (h2 a b)⟩
theorem qmG{n x:Nat}(h:x∈List.range n):x<n:=List.mem_range.1 h
theorem qkY{n:Nat}{t:Rws}(h:Sq n t){i:Nat}(hi:i<n)(k:Nat):Sq n (qsG n t i k) /\ ∀ a b,tAt (qsG n t i k) a b<=tAt t a b:=
 qnQ (fun t x hx h=>⟨qsI h hi k x,fun a b=>qsJ h hi hx k a b⟩) _ t (fun x hx=>qmG hx) h
theorem qer{n:Nat}{t:Rws}(h:Sq n t)(k:Nat):Sq n (qbw n t k) /\ ∀ a b,tAt (qbw n t k) a b<=tAt t a b:=
 qnQ (fun t x hx h=>qkY h hx k) _ t (fun x hx=>qmG hx) h
structure StgI(n k:Nat)(M:Int)(t0 t:Rws):Prop where
 sq:Sq n t
 row:∀ b,tAt t k b=tAt t0 k b
 col:∀ a,tAt t a k=tAt t0 a k
 bd:∀ a b,-(2*M)<=tAt t a b/\tAt t a b<=nvr
theorem qup{n k:Nat}{M:Int}{t0 t:Rws}(hM:0<=M/\M<=1152921504606846976)(h0:∀ a b,-M<=tAt t0 a b/\tAt t0 a b<=nvr)(hk:0<=tAt t0 k k)(h:StgI n k M t0 t){i j:Nat}(hi:i<n)(hj:j<n):StgI n k M t0 (qce t i k j)/\tbl (qce t i k j)=PG.stepT nvr (tbl t) i k j:=by
 have e1:∀ a b,tbl t a b=tAt t a b:=fun _ _=>rfl;have hnv:nvr=1099511627776:=rfl;unfold qce PG.stepT PG.viaF;rw[e1,e1,e1];have hx:=h0 i k;have hy:=h0 k j;have hb:=h.bd i j;rw[<- h.col i]at hx;rw[<- h.row j]at hy;by_cases hc:tAt t i k<nvr/\tAt t k j<nvr
 ·have hw:wr (tAt t i k+tAt t k j)=tAt t i k+tAt t k j:=qb (by omega)
  rw[if_pos hc,if_pos hc,hw];refine⟨⟨qdy h.sq hi _ _,fun b=>?_,fun a=>?_,fun a b=>?_⟩,qvY h.sq hi hj _⟩
  ·rw[qgr h.sq hi hj]
   split
   ·rename_i h1
    obtain⟨rfl,rfl⟩:=h1;rw[<- h.row k]at hk;rw[<- h.row b];omega
   ·exact h.row b
  ·rw[qgr h.sq hi hj]
   split
   ·rename_i h1
    obtain⟨rfl,rfl⟩:=h1;rw[<- h.row k]at hk;rw[<- h.col a];omega
   ·exact h.col a
  ·rw[qgr h.sq hi hj]
   have:=h.bd a b;split
   ·omega
   ·exact this
 ·rw[if_neg hc,if_neg hc,<- e1]
  refine⟨h,?_⟩
  funext a b
  unfold PG.updT;split
  ·rename_i h1;rw[h1.1,h1.2]
  ·rfl
theorem qkZ{n k:Nat}{M:Int}{t0:Rws}{f:Rws->Nat->Rws}{g:PG.Tb->Nat->PG.Tb}(hf:∀ t x,x<n->StgI n k M t0 t->StgI n k M t0 (f t x)/\tbl (f t x)=g (tbl t) x):∀ (l:List Nat) (t:Rws),(∀ x∈l,x<n)->StgI n k M t0 t->StgI n k M t0 (l.foldl f t)/\tbl (l.foldl f t)=l.foldl g (tbl t)
 | [],t,_,h=>⟨h,rfl⟩
 | x::l,t,hl,h=>by
  obtain⟨h1,h2⟩:=hf t x (hl x (List.mem_cons_self ..)) h;obtain⟨h3,h4⟩:=qkZ hf l (f t x) (fun y hy=>hl y (List.mem_cons_of_mem _ hy)) h1;exact⟨h3,by rw[List.foldl_cons,h4,h2];rfl⟩
theorem quq{n k:Nat}{M:Int}{t:Rws}(hM:0<=M/\M<=1152921504606846976)(hs:Sq n t)(h0:∀ a b,-M<=tAt t a b/\tAt t a b<=nvr)(hk:0<=tAt t k k):(∀ a b,-(2*M)<=tAt (qbw n t k) a b/\tAt (qbw n t k) a b<=nvr)/\tbl (qbw n t k)=PG.stageT nvr n (tbl t) k:=by
 have h:StgI n k M t t:=⟨hs,fun _=>rfl,fun _=>rfl,fun a b=>by have:=h0 a b;omega⟩;obtain⟨h1,h2⟩:=qkZ (f:=fun t i=>qsG n t i k) (g:=fun t i=>PG.rowT nvr n t i k) (fun t' i hi hI=>qkZ (f:=fun t j=>qce t i k j) (g:=fun t j=>PG.stepT nvr t i k j) (fun t' j hj hI=>qup hM h0 hk hI hi hj) (List.range n) t' (fun x hx=>qmG hx) hI) (List.range n) t (fun x hx=>qmG hx) h;exact⟨h1.bd,h2⟩
def jt(n:Nat)(t:Rws):Nat->Rws
 | 0=>t
 | k+1=>qbw n (jt n t k) k
theorem qmH(n:Nat)(t:Rws):qvZ n t=jt n t n:=by
 have h:∀ m,(List.range m).foldl (fun t k=>qbw n t k) t=jt n t m:=by
  intro m
  induction m with
  | zero=>rfl
  | succ m ih=>rw[List.range_succ,List.foldl_append,ih];rfl
 exact h n
theorem qbd{n:Nat}{t:Rws}(h:Sq n t):∀ k,Sq n (jt n t k)
 | 0=>h
 | k+1=>(qer (qbd h k) k).1
theorem qiJ{n:Nat}{t:Rws}(hn:n<=28)(hs:Sq n t)(h0:∀ a b,-1100000<=tAt t a b/\tAt t a b<=nvr):∀ k,k<=n->(∃ m,m<n/\tAt (jt n t k) m m<0/\PG.stages nvr n (tbl t) k m m<0)\/(tbl (jt n t k)=PG.stages nvr n (tbl t) k /\ ∀ a b,-(1100000*2^k)<=tAt (jt n t k) a b/\tAt (jt n t k) a b<=nvr)
 | 0,_=>.inr ⟨rfl,fun a b=>by have:=h0 a b;simpa[jt]using this⟩
 | k+1,hk=>by
  rcases qiJ hn hs h0 k (by omega) with⟨m,h1,h2,h3⟩|⟨h1,h2⟩
  ·refine .inl ⟨m,h1,?_,?_⟩
   ·have:=(qer (qbd hs k) k).2 m m
    show tAt (qbw n (jt n t k) k) m m<0;omega
   ·have:=PG.stageT_le nvr n (PG.stages nvr n (tbl t) k) k m m
    show PG.stageT nvr n (PG.stages nvr n (tbl t) k) k m m<0;omega
  ·by_cases hd:0<=tAt (jt n t k) k k
   ·right
    have hp:(1100000*2^k:Int)<=1152921504606846976:=by
     have h5:(2:Nat)^k<=2^28:=Nat.pow_le_pow_right (by omega) (by omega);have h6:((2^k:Nat):Int)<=((2^28:Nat):Int):=by exact_mod_cast h5
     have h7:((2^k:Nat):Int)=(2:Int)^k:=by simp
     rw[h7]at h6;have h8:((2^28:Nat):Int)=268435456:=by decide
     omega
    have hp0:(0:Int)<=1100000*2^k:=by
     have h7:((2^k:Nat):Int)=(2:Int)^k:=by simp
     exact Int.mul_nonneg (by decide) (h7▸Int.natCast_nonneg _)
    obtain⟨h3,h4⟩:=quq (n:=n) ⟨hp0,hp⟩ (qbd hs k) h2 hd;refine⟨by show tbl (qbw n (jt n t k) k)=PG.stageT nvr n (PG.stages nvr n (tbl t) k) k;rw[h4,h1],fun a b=>?_⟩;have h5:=h3 a b;have h6:(1100000*2^(k+1):Int)=2*(1100000*2^k):=by rw[Int.pow_succ];omega
    rw[h6];exact h5
   ·refine .inl ⟨k,by omega,?_,?_⟩
    ·have:=(qer (qbd hs k) k).2 k k
     show tAt (qbw n (jt n t k) k) k k<0;omega
    ·have:=PG.stageT_le nvr n (PG.stages nvr n (tbl t) k) k k k
     have e:PG.stages nvr n (tbl t) k k k=tAt (jt n t k) k k:=by rw[<- h1];rfl
     show PG.stageT nvr n (PG.stages nvr n (tbl t) k) k k k<0;omega
theorem qmI{l:PLog}(hC:qE l=0){w:Int}{conf:List Int}{i j:Nat}{p q:Per}(hi:(qY l)[i]?=some p)(hj:(qY l)[j]?=some q):∃ n x,PG.Walk (qiG l w conf) i j n x:=by
 have to0:∃ n x,PG.Walk (qiG l w conf) i 0 n x:=by
  rcases qep hi with⟨_,rfl⟩|⟨a,b,m,h1,h2,rfl,rfl⟩
  ·exact⟨0,0,.nil _⟩
  ·have:∃ e',Just l w conf e'/\e'.a=⟨a,m⟩/\e'.b = .right:=by
    cases m with
    | zero=>exact⟨⟨⟨a,0⟩,.right,w-b.off.lo⟩,.off a b h1 _ (by simp[jh]),rfl,rfl⟩
    | succ m=>exact⟨⟨⟨a,(m+1:Nat)⟩,.right,w-b.set.lo⟩,.set a b h1 (m+1) (by omega) h2 _ (by simp[jh]),rfl,rfl⟩
   obtain⟨e',h3,h4,h5⟩:=this;obtain⟨e,he,hs⟩:=qhi hC h3;have ha:=hs.a;have hb:=hs.b;rw[h4]at ha;rw[h5]at hb;have e1:=qbn ha hi;have e2:=qbn hb (zD l);have:=PG.Walk.one he;rw[e1,e2]at this;exact⟨_,_,this⟩
 have from0:∃ n x,PG.Walk (qiG l w conf) 0 j n x:=by
  rcases qep hj with⟨_,rfl⟩|⟨a,b,m,h1,h2,rfl,rfl⟩
  ·exact⟨0,0,.nil _⟩
  ·have:∃ e',Just l w conf e'/\e'.a = .right/\e'.b=⟨a,m⟩:=by
    cases m with
    | zero=>exact⟨_,.off a b h1 _ (List.mem_cons_self ..),rfl,rfl⟩
    | succ m=>exact⟨_,.set a b h1 (m+1) (by omega) h2 _ (List.mem_cons_self ..),rfl,rfl⟩
   obtain⟨e',h3,h4,h5⟩:=this;obtain⟨e,he,hs⟩:=qhi hC h3;have ha:=hs.a;have hb:=hs.b;rw[h4]at ha;rw[h5]at hb;have e1:=qbn ha (zD l);have e2:=qbn hb hj;have:=PG.Walk.one he;rw[e1,e2]at this;exact⟨_,_,this⟩
 obtain⟨_,_,h1⟩:=to0;obtain⟨_,_,h2⟩:=from0;exact⟨_,_,h1.trans h2⟩
theorem qiK{n:Nat}{t:Rws}:qwa n t=true ↔ ∀ m,m<n->0<=tAt t m m:=by
 unfold qwa;rw[List.all_eq_true];exact⟨fun h m hm=>of_decide_eq_true (h m (List.mem_range.2 hm)),fun h m hm=>decide_eq_true (h m (qmG hm))⟩
theorem qxn{l:PLog}(hC:qE l=0){w:Int}(hw:0<=w/\w<=1048576)(conf:List Int):Sq (1+zF l.books) (qsH l w conf)/\(∀ a b,tAt (qsH l w conf) a b<=nvr)/\qwa (1+zF l.books) (qsH l w conf)=jW l w conf/\(jW l w conf=true -> ∀ (i j:Nat) p q,(qY l)[i]?=some p->(qY l)[j]?=some q->tAt (qsH l w conf) i j=qxx l w conf p q):=by
 obtain⟨hI,hB⟩:=qzr hC hw conf;have hn:=qkX hC;have hnl:=qio l;unfold qsH;rw[qmH];have hboth:=qiJ hn hI.sq hI.bd (1+zF l.books) (Nat.le_refl _);have hsq:=qbd hI.sq (1+zF l.books);have hle:∀ k a b,tAt (jt (1+zF l.books) (qsY l w conf) k) a b<=nvr:=by
  intro k
  induction k with
  | zero=>exact fun a b=>(hI.bd a b).2
  | succ k ih=>exact fun a b=>Int.le_trans ((qer (qbd hI.sq k) k).2 a b) (ih a b)
 generalize hT:jt (1+zF l.books) (qsY l w conf) (1+zF l.books)=T at hboth hsq;have hle:=hle (1+zF l.books);rw[hT]at hle;have good:(∀ m,m<1+zF l.books->0<=PG.stages nvr (1+zF l.books) (tbl (qsY l w conf)) (1+zF l.books) m m)->jW l w conf=true /\ ∀ (i j:Nat) p q,(qY l)[i]?=some p->(qY l)[j]?=some q->PG.stages nvr (1+zF l.books) (tbl (qsY l w conf)) (1+zF l.books) i j=qxx l w conf p q:=by
  intro hd;obtain⟨hno,hD⟩:=PG.table_good hB hd;generalize PG.stages nvr (1+zF l.books) (tbl (qsY l w conf)) (1+zF l.books)=S at hD;have known:∀ (i j:Nat) p q,(qY l)[i]?=some p->(qY l)[j]?=some q->(if j<1+zF l.books/\S i j<nvr then some (S i j) else none)=some (S i j):=fun i j p q hi hj=>by
   have h1:=(List.getElem?_eq_some_iff.1 hi).1;obtain⟨_,_,hwk⟩:=qmI hC (w:=w) (conf:=conf) hi hj;obtain⟨y,h2,_⟩:=(hD i (by omega)).le hwk
   (try simp only at h2)
   split at h2
   ·rename_i h3;rw[if_pos h3]
   ·cases h2
  have hpot:∀ (i:Nat) p,(qY l)[i]?=some p->PG.Pot (qiG l w conf) fun v=>((if v<1+zF l.books/\S i v<nvr then some (S i v) else none:Option Int)).getD 0:=fun i p hi=>by
   have h1:=(List.getElem?_eq_some_iff.1 hi).1;refine(hD i (by omega)).pot fun e he=>?_;obtain⟨e',_,hs⟩:=qfP he;exact⟨_,known i e.a p e'.a hi hs.a⟩
  have hfit:jW l w conf=true:=qbu.2 ⟨_,qiH hC (hpot 0 .right (zD l))⟩;refine⟨hfit,fun i j p q hi hj=>?_⟩;have h1:=(List.getElem?_eq_some_iff.1 hi).1;have hp:p∈qY l:=List.mem_of_getElem? hi;have hq:q∈qY l:=List.mem_of_getElem? hj;have hij:=known i j p q hi hj;have hii:=known i i p p hi hi;have hroot:=(hD i (by omega)).root0;refine Int.le_antisymm ?_ ?_
  ·have h2:=qwR (qiH hC (hpot i p hi)) hp hq
   (try simp only at h2)
   rw[qmF hi,qmF hj,hij,hroot]at h2;simp only[Option.getD_some]at h2;omega
  ·obtain⟨t,ht,he⟩:=qrY hfit hp hq
   have h2:=(hD i (by omega)).most (qeq ht) hij
   (try simp only at h2)
   rw[hi,hj]at h2;simp only[Option.getD_some]at h2;omega
 refine⟨hsq,hle,?_,fun hf=>?_⟩
 ·rw[Bool.eq_iff_iff,qiK]
  constructor
  ·intro hd
   rcases hboth with⟨m,h1,h2,_⟩|⟨h1,_⟩
   ·have:=hd m h1;omega
   ·refine(good fun m hm=>?_).1
    rw[<- h1];exact hd m hm
  ·intro hf m hm
   obtain⟨t,ht⟩:=qbu.1 hf;have hno:=PG.pot_noNeg (qeq ht);have hd:=PG.table_diag hB hno (1+zF l.books);rcases hboth with⟨m',h1,_,h3⟩|⟨h1,_⟩
   ·have:=hd m' h1;omega
   ·have:=hd m hm
    rw[<- h1]at this;exact this
 ·obtain⟨t,ht⟩:=qbu.1 hf
  have hno:=PG.pot_noNeg (qeq ht);have hd:=PG.table_diag hB hno (1+zF l.books);rcases hboth with⟨m',h1,_,h3⟩|⟨h1,_⟩
  ·have:=hd m' h1;omega
  ·intro i j p q hi hj
   rw[<- (good hd).2 i j p q hi hj,<- h1];rfl
end Go.PX
namespace Go.PX
open Go.Proofs
open Go.RowKit
theorem qqr{l:PLog}{i:Nat}{b:PBook}(h:l.books[i]?=some b):zF (l.books.take (i+1))=zF (l.books.take i)+(zn b.ents+1):=by
 unfold zF;rw[List.take_succ,h,List.map_append,List.sum_append];simp
theorem qur{bs:List PBook}(h:∀ b∈bs,b.ents.length<=8):zF bs<=9*bs.length:=by
 induction bs with
 | nil=>exact Nat.le_refl _
 | cons b r ih=>
  have:=ih fun c hc=>h c (List.mem_cons_of_mem _ hc);have h2:=qbe b;have h3:=h b (List.mem_cons_self ..);rw[qbM,List.length_cons];omega
theorem qAQ(l:PLog)(hl:l.books.length<=3)(hb:∀ b∈l.books,b.ents.length<=8)(i n:Nat)(hi:i<=l.books.length)(hn:n<=1000):FnV Tryz.prog 73 [l.d,i64 i,i64 n] (i64 (jx l i n)):=by
 show FnV Tryz.prog 73 [l.d,i64 i,i64 n] _;have hm:∀ k,k<=3->zF (l.books.take k)<=27:=fun k hk=>by
  have:=qur (bs:=l.books.take k) fun b h=>hb b (List.mem_of_mem_take h);have h2:(l.books.take k).length<=k:=by simp;omega
  omega
 show FnV Tryz.prog 73 [l.d,i64 i,i64 n] _;refine qJ mixed qm Tryz.func73 rfl (ft:=qAb) 3 (by decide +kernel) (by rfl) fun {σ} Y st=>?_;conv=>whnf
 refine qn ((1+n:Nat):Int) (by omega) (qb (by omega)) ?_;conv=>whnf
 refine zI (T:=tys) qm (by exact qg mixed qm (by decide +kernel)) (α:=Nat) (fun k=>⟨[(1,.d (i64 i)),(3,.ptr 3 0),(7,.d (i64 (jx l k n))),(8,.d (i64 k))],[(3,.box (.dd l.cells))],st⟩) (fun k=>k<=i) (fun k=>i-k) 0 (Wk.sub (by repeat' first|constructor|(simp only[List.length_map];rfl)|simp[PX.get]) ⟨(by first|rfl|(simp only[List.length_map];rfl)|simp[PX.get]),trivial⟩) (Nat.zero_le _) ?_;rintro k hk;conv=>whnf
 refine qj (fun h=>?_) (fun h=>?_)
 ·have hki:k<i:=by have:=of_decide_eq_true h;omega
  obtain⟨b,hx⟩:∃ b,l.books[k]?=some b:=⟨_,List.getElem?_eq_getElem (by omega)⟩;have h51:=fun {σ}=>@qzo b (by have:=hb b (List.mem_of_getElem? hx);omega) σ;have hmk:=qqr hx;have h1:=hm k (by omega);have h2:=hm (k+1) (by omega);conv=>whnf
  refine qt hx ?_;conv=>whnf
  refine qk (ds:=[.agg b.cells]) h51 rfl rfl ?_;conv=>whnf
  refine qn ((jx l (k+1) n:Nat):Int) (by unfold jx;omega) (qb (by unfold jx;omega)) ?_;conv=>whnf
  refine qe (qb (by(try dsimp only);omega)) ?_;conv=>whnf
  exact⟨k+1,by omega,hki,(Wk.sub (by repeat' first|constructor|(simp only[List.length_map];rfl)|simp[PX.get]) ⟨(by first|rfl|(simp only[List.length_map];rfl)|simp[PX.get]),trivial⟩)⟩
 ·have hki:k=i:=by have:=of_decide_eq_false h;omega
  subst hki;conv=>whnf
  exact qc 0 rfl ⟨⟨rfl,rfl⟩,rfl⟩
end Go.PX
