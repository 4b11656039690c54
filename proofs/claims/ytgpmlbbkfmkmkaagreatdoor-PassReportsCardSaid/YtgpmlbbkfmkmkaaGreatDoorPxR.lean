import Derived.Test.YtgpmlbbkfmkmkaaGreatDoorPxP
import Derived.Test.YtgpmlbbkfmkmkaaGreatDoorPxQ
import Derived.Test.YtgpmlbbkfmkmkaaGreatDoorPxN
import Derived.Test.YtgpmlbbkfmkmkaaGreatDoorPxL
import Derived.Test.YtgpmlbbkfmkmkaaGreatDoorPxJ
import Derived.Lib.AtoiAllCases
set_option linter.all false
set_option maxRecDepth 10000
namespace Go.PX
open Go.Proofs
open Go.RowKit
deriving instance DecidableEq for PEnt
deriving instance DecidableEq for PBook
deriving instance DecidableEq for PLog
theorem pa31(a b:List PAt)(ha:a.length<1000000):FnV Tryz.prog 31 [qiI a,qiI b] (.bool (decide (a=b))):=by
 refine qC mixed qi Tryz.func31 rfl (ft:=ft31) 2 (by decide +kernel) (by rfl) fun {σ} Y st=>?_;conv=>whnf
 refine qg (fun h0=>?_) (fun h0=>?_)
 ·have h0:a.length≠b.length:=by
   intro e;simp[e]at h0
  conv=>whnf
  rw[decide_eq_false (by rintro rfl;exact h0 rfl)];exact qb 0 rfl ⟨⟨rfl,rfl⟩,rfl⟩
 ·have h0:a.length=b.length:=by
   have:=h0;simp at this;omega
  conv=>whnf
  refine zt (T:=tys) qi (by exact qd mixed qi (by decide +kernel)) (α:=Nat) (fun i=>⟨[(0,.d (qiI a)),(1,.d (qiI b)),(5,.d (i64 i))],[],st⟩) (fun i=>i<=a.length/\a.take i=b.take i) (fun i=>a.length-i) 0
   (Wk.sub ⟨rfl,rfl,rfl,trivial⟩ trivial) (by simp) ?_
  rintro i ⟨hi,he⟩;conv=>whnf
  refine qg (fun hc=>?_) (fun hc=>?_)
  ·have hc:i<a.length:=by simpa using hc
   have hc':i<b.length:=by omega
   conv=>whnf
   refine qA a[i].cells (by simp[hc]) ?_;conv=>whnf
   refine qA b[i].cells (by simp[hc']) ?_;conv=>whnf
   refine qg (fun h1=>?_) (fun h1=>?_)
   ·conv=>whnf
    have h1:a[i]≠b[i]:=by
     intro e;rw[e]at h1;simp at h1
    rw[decide_eq_false (by rintro rfl;exact h1 rfl)];exact qb 0 rfl ⟨⟨rfl,rfl⟩,rfl⟩
   ·have h1:a[i]=b[i]:=by
     cases hx:a[i]with
     | mk x y=>
      cases hy:b[i]with
      | mk u v=>
       rw[hx,hy]at h1;simpa using h1
    refine qc (qa (by(try dsimp only);omega)) ?_;conv=>whnf
    exact⟨i+1,by omega,⟨hc,by rw[List.take_succ_eq_append_getElem hc,List.take_succ_eq_append_getElem hc',he,h1]⟩,Wk.sub ⟨rfl,rfl,rfl,trivial⟩ trivial⟩
  ·have hc:¬ i<a.length:=by simpa using hc
   conv=>whnf
   rw[List.take_of_length_le (by omega),List.take_of_length_le (by omega)]at he;rw[decide_eq_true he];exact qb 0 rfl ⟨⟨rfl,rfl⟩,rfl⟩
structure FewP(l:PLog):Prop where
 books:l.books.length<1000000
 ents:∀ b∈l.books,b.ents.length<1000000
set_option maxHeartbeats 4000000 in
theorem pa43(a b:PLog)(ha:FewP a):FnV Tryz.prog 43 [a.d,b.d] (.bool (decide (a=b))):=by
 refine qC mixed qi Tryz.func43 rfl (ft:=ft43) 2 (by decide +kernel) (by rfl) fun {σ} Y st=>?_;conv=>whnf
 have hm1:=ha.books;refine qg (fun h0=>?_) (fun h0=>?_)
 ·have h0:a.near≠b.near:=by
   intro e;simp[e]at h0
  conv=>whnf
  rw[decide_eq_false (by rintro rfl;exact h0 rfl)];exact qb 0 rfl ⟨⟨rfl,rfl⟩,rfl⟩
 have hnr:a.near=b.near:=by simpa using h0
 conv=>whnf
 refine qg (fun h0=>?_) (fun h0=>?_)
 ·have h0:a.books.length≠b.books.length:=by
   intro e;simp[e]at h0
  conv=>whnf
  rw[decide_eq_false (by rintro rfl;exact h0 rfl)];exact qb 0 rfl ⟨⟨rfl,rfl⟩,rfl⟩
 have hml:a.books.length=b.books.length:=by
  have:=h0;simp at this;omega
 conv=>whnf
 refine zt (T:=tys) qi (by exact qd mixed qi (by decide +kernel)) (α:=Nat) (fun i=>⟨[(2,.ptr 2 0),(3,.ptr 3 0),(5,.d (i64 i))],[(2,.box (.dd a.cells)),(3,.box (.dd b.cells))],st⟩) (fun i=>i<=a.books.length/\a.books.take i=b.books.take i) (fun i=>a.books.length-i) 0
  (Wk.sub (by repeat' first|exact trivial|refine⟨?_,?_⟩|rfl|(simp only[List.length_map];rfl)|simp[PX.get]) (by repeat' first|exact trivial|refine⟨?_,?_⟩|rfl|(simp only[List.length_map];rfl)|simp[PX.get])) (by simp) ?_
 rintro i ⟨hi,he⟩;conv=>whnf
 refine qg (fun hc=>?_) (fun hc=>?_)
 ·have hc:i<a.books.length:=by simpa using hc
  have hc':i<b.books.length:=by omega
  have hpl:=ha.ents a.books[i] (List.getElem_mem hc);have hne:a.books[i]≠b.books[i]->a≠b:=by rintro h rfl;exact h rfl
  have hnx:a.books[i]=b.books[i]->a.books.take (i+1)=b.books.take (i+1):=fun h1=>by rw[List.take_succ_eq_append_getElem hc,List.take_succ_eq_append_getElem hc',he,h1]
  generalize hx:a.books[i]=x at *;generalize hy:b.books[i]=y at *;conv=>whnf
  refine qA x.cells (by simp[hc,hx]) ?_;conv=>whnf
  refine qA y.cells (by simp[hc',hy]) ?_;conv=>whnf
  refine qg (fun h1=>?_) (fun h1=>?_)
  ·have h1:x≠y:=by rintro rfl;simp at h1
   conv=>whnf
   rw[decide_eq_false (hne h1)];exact qb 0 rfl ⟨⟨rfl,rfl⟩,rfl⟩
  have n1:x.name=y.name:=by simpa using h1
  conv=>whnf
  refine qg (fun h1=>?_) (fun h1=>?_)
  ·have h1:x≠y:=by rintro rfl;simp at h1
   conv=>whnf
   rw[decide_eq_false (hne h1)];exact qb 0 rfl ⟨⟨rfl,rfl⟩,rfl⟩
  have n2:x.off=y.off:=by
   cases h4:x.off with
   | mk p q=>
    cases h5:y.off with
    | mk u v=>
     rw[h4,h5]at h1;simpa using h1
  conv=>whnf
  refine qg (fun h1=>?_) (fun h1=>?_)
  ·have h1:x≠y:=by rintro rfl;simp at h1
   conv=>whnf
   rw[decide_eq_false (hne h1)];exact qb 0 rfl ⟨⟨rfl,rfl⟩,rfl⟩
  have n3:x.set=y.set:=by
   cases h4:x.set with
   | mk p q=>
    cases h5:y.set with
    | mk u v=>
     rw[h4,h5]at h1;simpa using h1
  conv=>whnf
  refine qg (fun h1=>?_) (fun h1=>?_)
  ·have h1:x≠y:=by rintro rfl;simp at h1
   conv=>whnf
   rw[decide_eq_false (hne h1)];exact qb 0 rfl ⟨⟨rfl,rfl⟩,rfl⟩
  have hxy:x.ents.length=y.ents.length:=by
   have:=h1;simp at this;omega
  conv=>whnf
  refine zt (T:=tys) qi (by exact qd mixed qi (by decide +kernel)) (α:=Nat) (fun k=>⟨[(2,.ptr 2 0),(3,.ptr 3 0),(5,.d (i64 i)),(6,.ptr 6 0),(7,.ptr 7 0),(8,.d (i64 k))],[(2,.box (.dd a.cells)),(3,.box (.dd b.cells)),(6,.box (.dd x.cells)),(7,.box (.dd y.cells))],st⟩) (fun k=>k<=x.ents.length/\x.ents.take k=y.ents.take k) (fun k=>x.ents.length-k) 0
   (Wk.sub (by repeat' first|exact trivial|refine⟨?_,?_⟩|rfl|(simp only[List.length_map];rfl)|simp[PX.get]) (by repeat' first|exact trivial|refine⟨?_,?_⟩|rfl|(simp only[List.length_map];rfl)|simp[PX.get])) (by simp) ?_
  rintro k ⟨hk,hke⟩;conv=>whnf
  refine qg (fun hc2=>?_) (fun hc2=>?_)
  ·have hc2:k<x.ents.length:=by simpa using hc2
   have hc3:k<y.ents.length:=by omega
   conv=>whnf
   refine qA x.ents[k].cells (by simp[hc2]) ?_;conv=>whnf
   refine qA y.ents[k].cells (by simp[hc3]) ?_;conv=>whnf
   refine qg (fun h1=>?_) (fun h1=>?_)
   ·conv=>whnf
    have h1:x.ents[k]≠y.ents[k]:=by
     intro e;rw[e]at h1;simp at h1
    rw[decide_eq_false (hne (by rintro rfl;exact h1 rfl))];exact qb 0 rfl ⟨⟨rfl,rfl⟩,rfl⟩
   ·have h1:x.ents[k]=y.ents[k]:=by
     cases hx:x.ents[k]with
     | mk p q r s=>
      cases hy:y.ents[k]with
      | mk u v w z=>
       rw[hx,hy]at h1;simpa using h1
    refine qc (qa (by(try dsimp only);omega)) ?_;conv=>whnf
    exact⟨k+1,by omega,⟨hc2,by rw[List.take_succ_eq_append_getElem hc2,List.take_succ_eq_append_getElem hc3,hke,h1]⟩,(Wk.sub (by repeat' first|exact trivial|refine⟨?_,?_⟩|rfl|(simp only[List.length_map];rfl)|simp[PX.get]) (by repeat' first|exact trivial|refine⟨?_,?_⟩|rfl|(simp only[List.length_map];rfl)|simp[PX.get]))⟩
  ·have hc2:¬ k<x.ents.length:=by simpa using hc2
   rw[List.take_of_length_le (by omega),List.take_of_length_le (by omega)]at hke;have hxe:x=y:=by
    cases x;cases y
    simp only at n1 n2 n3 hke;rw[n1,n2,n3,hke]
   conv=>whnf
   refine qc (qa (by(try dsimp only);omega)) ?_;conv=>whnf
   exact⟨i+1,by omega,⟨hc,hnx hxe⟩,(Wk.sub (by repeat' first|exact trivial|refine⟨?_,?_⟩|rfl|(simp only[List.length_map];rfl)|simp[PX.get]) (by repeat' first|exact trivial|refine⟨?_,?_⟩|rfl|(simp only[List.length_map];rfl)|simp[PX.get]))⟩
 ·have hc:¬ i<a.books.length:=by simpa using hc
  rw[List.take_of_length_le (by omega),List.take_of_length_le (by omega)]at he;have hab:a=b:=by
   cases a;cases b
   simp only at hnr he;rw[hnr,he]
  conv=>whnf
  rw[decide_eq_true hab];exact qb 0 rfl ⟨⟨rfl,rfl⟩,rfl⟩
def exA:List PEnt:=[⟨100,1,⟨#[111,114,105,101,110,116]⟩,0⟩,⟨110,3,⟨#[115,117,110,107]⟩,1⟩,⟨130,2,⟨#[]⟩,0⟩,⟨125,1,⟨#[116,117,103]⟩,0⟩]
def exB:List PEnt:=[⟨90,3,⟨#[115,117,110,107]⟩,1⟩,⟨95,1,⟨#[111,114,105,101,110,116]⟩,0⟩,⟨112,1,⟨#[116,117,103]⟩,0⟩]
def qqc(p q:Span):List PBook:=[⟨⟨#[98,114,105,100,103,101]⟩,p,⟨0,2⟩,exA⟩,⟨⟨#[100,101,99,107]⟩,q,⟨0,0⟩,exB⟩]
def exL:PLog:=⟨5,qqc ⟨-10,10⟩ ⟨-20,20⟩⟩
def narL:PLog:=⟨5,qqc ⟨0,10⟩ ⟨5,20⟩⟩
def exT:ByteArray:=⟨#[110,101,97,114,32,53,10,98,111,111,107,32,98,114,105,100,103,101,32,45,49,48,32,49,48,32,48,32,50,10,112,97,115,115,32,49,48,48,32,111,114,105,101,110,116,10,114,101,112,111,114,116,32,49,49,48,32,115,117,110,107,32,49,10,115,101,116,32,49,51,48,10,112,97,115,115,32,49,50,53,32,116,117,103,10,98,111,111,107,32,100,101,99,107,32,45,50,48,32,50,48,32,48,32,48,10,114,101,112,111,114,116,32,57,48,32,115,117,110,107,32,49,10,112,97,115,115,32,57,53,32,111,114,105,101,110,116,10,112,97,115,115,32,49,49,50,32,116,117,103,10]⟩
theorem qpi:FnV Tryz.prog 80 [] (.str exT):=by
 refine qC mixed qi Tryz.func80 rfl (ft:=ft80) 0 (by decide +kernel) (by rfl) fun {σ} Y st=>?_;conv=>whnf
 exact qb 0 rfl ⟨⟨rfl,rfl⟩,rfl⟩
theorem qpj(a b:Int):FnV Tryz.prog 45 [i64 a,i64 b] (PAt.d ⟨a,b⟩):=by
 refine qC mixed qi Tryz.func45 rfl (ft:=ft45) 2 (by decide +kernel) (by rfl) fun {σ} Y st=>?_;conv=>whnf
 exact qb 0 rfl ⟨⟨rfl,rfl⟩,rfl⟩
theorem qkb(a b:Int):FnV Tryz.prog 46 [i64 a,i64 b] (Span.d ⟨a,b⟩):=by
 refine qC mixed qi Tryz.func46 rfl (ft:=ft46) 2 (by decide +kernel) (by rfl) fun {σ} Y st=>?_;conv=>whnf
 exact qb 0 rfl ⟨⟨rfl,rfl⟩,rfl⟩
def exH:Heap:=[(2000000,.arr 6 (.dd (exL.books.map PBook.cells)))]
theorem pa44h:FnU Tryz.prog 44 [] [] (fun v h'=>v = .agg [.d (i64 5),.sl 2000000 6 0 2]/\h'=exH):=by
 intro σ Y st;refine qan mixed qi Tryz.func44 rfl (ft:=qpx) (args:=[]) (h:=[]) (show fnB qpx Tryz.f44 0=true from by decide +kernel) ?_;conv=>whnf
 repeat' (first
  | (refine qe (qkb _ _) rfl rfl ?_;conv=>whnf)
  | (refine qo (qkb _ _) rfl 1 rfl ?_;conv=>whnf)
  | (refine qv (qkb _ _) rfl rfl ?_;conv=>whnf)
  | (refine qs (qkb _ _) rfl 1 rfl ?_;conv=>whnf)
  | (refine qc (qa (by(try dsimp only);omega)) ?_;conv=>whnf)
  | (refine qr (by assumption) ?_;conv=>whnf)
  | (refine qf (by first | rfl | assumption | (simp[Els.len];done) | (simp[Els.len];omega)) ?_;conv=>whnf)
  | (refine zo (by first | (exact decide_eq_true (by(try simp only[List.length_map]);omega)) | (simp[Els.len,Els.cons,V.cells,Els.toV,qU];done) | (simp[Els.len,Els.cons,V.cells,Els.toV,qU];omega)) ?_;conv=>whnf)
  | fail)
 refine qix (l':=[.agg [.d (i64 5),.sl 15 6 0 2]]) (h':=[(15,.arr 6 (.dd (exL.books.map PBook.cells)))]) ((Wk.frzArr 1 [7,13] 15 (sz:=6) (ds:=exL.books.map PBook.cells) rfl rfl).trans (Wk.sub ⟨rfl,trivial⟩ ⟨rfl,trivial⟩)) rfl rfl ?_;exact qq [15] [.agg [.d (i64 5),.sl 2000000 6 0 2]] exH rfl ⟨rfl,trivial⟩ rfl ⟨⟨rfl,rfl⟩,rfl⟩
theorem qpk:FnV Tryz.prog 44 [] exL.d:=by
 refine qC mixed qi Tryz.func44 rfl (ft:=qpx) 0 (by decide +kernel) (by rfl) fun {σ} Y st=>?_;conv=>whnf
 repeat' (first
  | (refine qe (qkb _ _) rfl rfl ?_;conv=>whnf)
  | (refine qo (qkb _ _) rfl 1 rfl ?_;conv=>whnf)
  | (refine qv (qkb _ _) rfl rfl ?_;conv=>whnf)
  | (refine qs (qkb _ _) rfl 1 rfl ?_;conv=>whnf)
  | (refine qc (qa (by(try dsimp only);omega)) ?_;conv=>whnf)
  | (refine qr (by assumption) ?_;conv=>whnf)
  | (refine qf (by first | rfl | assumption | (simp[Els.len];done) | (simp[Els.len];omega)) ?_;conv=>whnf)
  | (refine zo (by first | (exact decide_eq_true (by(try simp only[List.length_map]);omega)) | (simp[Els.len,Els.cons,V.cells,Els.toV,qU];done) | (simp[Els.len,Els.cons,V.cells,Els.toV,qU];omega)) ?_;conv=>whnf)
  | fail)
 exact qb 2 rfl ⟨⟨rfl,rfl⟩,rfl⟩
theorem qpl:FnV Tryz.prog 79 [] narL.d:=by
 refine qC mixed qi Tryz.func79 rfl (ft:=ft79) 0 (by decide +kernel) (by rfl) fun {σ} Y st=>?_;conv=>whnf
 refine qJ pa44h [] rfl rfl rfl ?_;conv=>whnf
 repeat' (first
  | (refine qe (qkb _ _) rfl rfl ?_;conv=>whnf)
  | (refine qo (qkb _ _) rfl 1 rfl ?_;conv=>whnf)
  | (refine qv (qkb _ _) rfl rfl ?_;conv=>whnf)
  | (refine qs (qkb _ _) rfl 1 rfl ?_;conv=>whnf)
  | (refine qc (qa (by(try dsimp only);omega)) ?_;conv=>whnf)
  | (refine qr (by assumption) ?_;conv=>whnf)
  | (refine qf (by first | rfl | assumption | (simp[Els.len];done) | (simp[Els.len];omega)) ?_;conv=>whnf)
  | (refine zo (by first | (exact decide_eq_true (by(try simp only[List.length_map]);omega)) | (simp[Els.len,Els.cons,V.cells,Els.toV,qU];done) | (simp[Els.len,Els.cons,V.cells,Els.toV,qU];omega)) ?_;conv=>whnf)
  | fail)
 exact qb 2 rfl ⟨⟨rfl,rfl⟩,rfl⟩
theorem x1:qmR exL=(true,0):=by decide +kernel
theorem x2:qmR narL=(false,0):=by decide +kernel
theorem x3:qkw exL 0=([⟨5,10⟩,⟨0,2⟩],0):=by decide +kernel
theorem x4:qiB exL ⟨1,2⟩=(⟨122,127⟩,0):=by decide +kernel
theorem x5:qen exL ⟨0,3⟩ ⟨1,2⟩=(⟨-3,2⟩,0,0):=by decide +kernel
theorem x6:qen exL ⟨0,0⟩ ⟨1,1⟩=(⟨15,15⟩,1,0):=by decide +kernel
theorem x7:qns exL ⟨0,3⟩=([⟨1,2⟩],0):=by decide +kernel
theorem x8:qmT narL=(8,0):=by decide +kernel
theorem x9:qnu narL=([1],0):=by decide +kernel
theorem x10:qng exL=([],[],0):=by decide +kernel
theorem x11:qlB exL=(exT,0):=by decide +kernel
theorem x12:qjR exT=(exL,0):=by decide +kernel
theorem x13:(qkw narL 0).2=9:=by decide +kernel
end Go.PX
namespace Go.PX
open Go.Proofs
open Go.RowKit
theorem w1:FnV Tryz.prog 19 [exL.d] (.tup [.bool true,i64 0]):=FnV.cast (qpY exL) (by rw[x1])
theorem w2:FnV Tryz.prog 19 [narL.d] (.tup [.bool false,i64 0]):=FnV.cast (qpY narL) (by rw[x2])
theorem w3:FnV Tryz.prog 21 [exL.d,i64 0] (.tup [qaQ [⟨5,10⟩,⟨0,2⟩],i64 0]):=FnV.cast (qpD exL 0) (by rw[x3])
theorem w4:FnV Tryz.prog 24 [exL.d,PAt.d ⟨1,2⟩] (.tup [Span.d ⟨122,127⟩,i64 0]):=FnV.cast (qpC exL ⟨1,2⟩) (by rw[x4])
theorem w5:FnV Tryz.prog 27 [exL.d,PAt.d ⟨0,3⟩,PAt.d ⟨1,2⟩] (.tup [Span.d ⟨-3,2⟩,i64 0,i64 0]):=FnV.cast (qpZ exL ⟨0,3⟩ ⟨1,2⟩) (by rw[x5])
theorem w6:FnV Tryz.prog 27 [exL.d,PAt.d ⟨0,0⟩,PAt.d ⟨1,1⟩] (.tup [Span.d ⟨15,15⟩,i64 1,i64 0]):=FnV.cast (qpZ exL ⟨0,0⟩ ⟨1,1⟩) (by rw[x6])
theorem w7:FnV Tryz.prog 29 [exL.d,PAt.d ⟨0,3⟩] (.tup [qiI [⟨1,2⟩],i64 0]):=FnV.cast (pa29 exL ⟨0,3⟩) (by rw[x7])
theorem w8:FnV Tryz.prog 32 [narL.d] (.tup [i64 8,i64 0]):=FnV.cast (qqa narL) (by rw[x8])
theorem w9:FnV Tryz.prog 34 [narL.d] (.tup [qG [1],i64 0]):=FnV.cast (pa34 narL) (by rw[x9])
theorem w10:FnV Tryz.prog 37 [exL.d] (.tup [qG [],qG [],i64 0]):=FnV.cast (qpb exL) (by rw[x10])
theorem w11:FnV Tryz.prog 39 [exL.d] (.tup [.str exT,i64 0]):=FnV.cast (pa39 exL) (by rw[x11])
theorem w12:FnV Tryz.prog 41 [.str exT] (.tup [exL.d,i64 0]):=FnV.cast (pa41 exT) (by rw[x12])
theorem w13:FnV Tryz.prog 21 [narL.d,i64 0] (.tup [qaQ (qkw narL 0).1,i64 9]):=FnV.cast (qpD narL 0) (by rw[x13])
theorem few_ex:FewP exL:=⟨by decide,by decide⟩
theorem w14:FnV Tryz.prog 43 [exL.d,exL.d] (.bool true):=FnV.cast (pa43 exL exL few_ex) (by simp)
theorem w15:FnV Tryz.prog 36 [qG [1],qG [1]] (.bool true):=FnV.cast (qpA [1] [1] (by decide)) (by simp)
theorem w16:FnV Tryz.prog 23 [qaQ [⟨5,10⟩,⟨0,2⟩],qaQ [⟨5,10⟩,⟨0,2⟩]] (.bool true):=FnV.cast (fn45 [⟨5,10⟩,⟨0,2⟩] [⟨5,10⟩,⟨0,2⟩] (by decide)) (by simp)
theorem w17:FnV Tryz.prog 31 [qiI [⟨1,2⟩],qiI [⟨1,2⟩]] (.bool true):=FnV.cast (pa31 [⟨1,2⟩] [⟨1,2⟩] (by decide)) (by simp)
set_option maxHeartbeats 8000000 in
theorem qov:FnV Tryz.prog 26 [] (.bool true):=by
 refine qC mixed qi Tryz.func26 rfl (ft:=ft26) 0 (by decide +kernel) (by rfl) fun {σ} Y st=>?_;conv=>whnf
 repeat' (first
  | (refine qe (w1) rfl rfl ?_;conv=>whnf)
  | (refine qo (w1) rfl 1 rfl ?_;conv=>whnf)
  | (refine qv (w1) rfl rfl ?_;conv=>whnf)
  | (refine qs (w1) rfl 1 rfl ?_;conv=>whnf)
  | (refine qe (qpk) rfl rfl ?_;conv=>whnf)
  | (refine qo (qpk) rfl 1 rfl ?_;conv=>whnf)
  | (refine qv (qpk) rfl rfl ?_;conv=>whnf)
  | (refine qs (qpk) rfl 1 rfl ?_;conv=>whnf)
  | (refine qe (qpl) rfl rfl ?_;conv=>whnf)
  | (refine qo (qpl) rfl 1 rfl ?_;conv=>whnf)
  | (refine qv (qpl) rfl rfl ?_;conv=>whnf)
  | (refine qs (qpl) rfl 1 rfl ?_;conv=>whnf)
  | (refine qe (qpi) rfl rfl ?_;conv=>whnf)
  | (refine qo (qpi) rfl 1 rfl ?_;conv=>whnf)
  | (refine qv (qpi) rfl rfl ?_;conv=>whnf)
  | (refine qs (qpi) rfl 1 rfl ?_;conv=>whnf)
  | (refine qe (qpj _ _) rfl rfl ?_;conv=>whnf)
  | (refine qo (qpj _ _) rfl 1 rfl ?_;conv=>whnf)
  | (refine qv (qpj _ _) rfl rfl ?_;conv=>whnf)
  | (refine qs (qpj _ _) rfl 1 rfl ?_;conv=>whnf)
  | (refine qe (qkb _ _) rfl rfl ?_;conv=>whnf)
  | (refine qo (qkb _ _) rfl 1 rfl ?_;conv=>whnf)
  | (refine qv (qkb _ _) rfl rfl ?_;conv=>whnf)
  | (refine qs (qkb _ _) rfl 1 rfl ?_;conv=>whnf)
  | (refine qe (w2) rfl rfl ?_;conv=>whnf)
  | (refine qo (w2) rfl 1 rfl ?_;conv=>whnf)
  | (refine qv (w2) rfl rfl ?_;conv=>whnf)
  | (refine qs (w2) rfl 1 rfl ?_;conv=>whnf)
  | (refine qe (w3) rfl rfl ?_;conv=>whnf)
  | (refine qo (w3) rfl 1 rfl ?_;conv=>whnf)
  | (refine qv (w3) rfl rfl ?_;conv=>whnf)
  | (refine qs (w3) rfl 1 rfl ?_;conv=>whnf)
  | (refine qe (w4) rfl rfl ?_;conv=>whnf)
  | (refine qo (w4) rfl 1 rfl ?_;conv=>whnf)
  | (refine qv (w4) rfl rfl ?_;conv=>whnf)
  | (refine qs (w4) rfl 1 rfl ?_;conv=>whnf)
  | (refine qe (w5) rfl rfl ?_;conv=>whnf)
  | (refine qo (w5) rfl 1 rfl ?_;conv=>whnf)
  | (refine qv (w5) rfl rfl ?_;conv=>whnf)
  | (refine qs (w5) rfl 1 rfl ?_;conv=>whnf)
  | (refine qe (w6) rfl rfl ?_;conv=>whnf)
  | (refine qo (w6) rfl 1 rfl ?_;conv=>whnf)
  | (refine qv (w6) rfl rfl ?_;conv=>whnf)
  | (refine qs (w6) rfl 1 rfl ?_;conv=>whnf)
  | (refine qe (w7) rfl rfl ?_;conv=>whnf)
  | (refine qo (w7) rfl 1 rfl ?_;conv=>whnf)
  | (refine qv (w7) rfl rfl ?_;conv=>whnf)
  | (refine qs (w7) rfl 1 rfl ?_;conv=>whnf)
  | (refine qe (w8) rfl rfl ?_;conv=>whnf)
  | (refine qo (w8) rfl 1 rfl ?_;conv=>whnf)
  | (refine qv (w8) rfl rfl ?_;conv=>whnf)
  | (refine qs (w8) rfl 1 rfl ?_;conv=>whnf)
  | (refine qe (w9) rfl rfl ?_;conv=>whnf)
  | (refine qo (w9) rfl 1 rfl ?_;conv=>whnf)
  | (refine qv (w9) rfl rfl ?_;conv=>whnf)
  | (refine qs (w9) rfl 1 rfl ?_;conv=>whnf)
  | (refine qe (w10) rfl rfl ?_;conv=>whnf)
  | (refine qo (w10) rfl 1 rfl ?_;conv=>whnf)
  | (refine qv (w10) rfl rfl ?_;conv=>whnf)
  | (refine qs (w10) rfl 1 rfl ?_;conv=>whnf)
  | (refine qe (w11) rfl rfl ?_;conv=>whnf)
  | (refine qo (w11) rfl 1 rfl ?_;conv=>whnf)
  | (refine qv (w11) rfl rfl ?_;conv=>whnf)
  | (refine qs (w11) rfl 1 rfl ?_;conv=>whnf)
  | (refine qe (w12) rfl rfl ?_;conv=>whnf)
  | (refine qo (w12) rfl 1 rfl ?_;conv=>whnf)
  | (refine qv (w12) rfl rfl ?_;conv=>whnf)
  | (refine qs (w12) rfl 1 rfl ?_;conv=>whnf)
  | (refine qe (w13) rfl rfl ?_;conv=>whnf)
  | (refine qo (w13) rfl 1 rfl ?_;conv=>whnf)
  | (refine qv (w13) rfl rfl ?_;conv=>whnf)
  | (refine qs (w13) rfl 1 rfl ?_;conv=>whnf)
  | (refine qe (w15) rfl rfl ?_;conv=>whnf)
  | (refine qo (w15) rfl 1 rfl ?_;conv=>whnf)
  | (refine qv (w15) rfl rfl ?_;conv=>whnf)
  | (refine qs (w15) rfl 1 rfl ?_;conv=>whnf)
  | (refine qe (w16) rfl rfl ?_;conv=>whnf)
  | (refine qo (w16) rfl 1 rfl ?_;conv=>whnf)
  | (refine qv (w16) rfl rfl ?_;conv=>whnf)
  | (refine qs (w16) rfl 1 rfl ?_;conv=>whnf)
  | (refine qe (w17) rfl rfl ?_;conv=>whnf)
  | (refine qo (w17) rfl 1 rfl ?_;conv=>whnf)
  | (refine qv (w17) rfl rfl ?_;conv=>whnf)
  | (refine qs (w17) rfl 1 rfl ?_;conv=>whnf)
  | (refine qe (w14) rfl rfl ?_;conv=>whnf)
  | (refine qo (w14) rfl 1 rfl ?_;conv=>whnf)
  | (refine qv (w14) rfl rfl ?_;conv=>whnf)
  | (refine qs (w14) rfl 1 rfl ?_;conv=>whnf)
  | (refine qc (qa (by(try dsimp only);omega)) ?_;conv=>whnf)
  | (refine qr (by assumption) ?_;conv=>whnf)
  | (refine qf (by first | rfl | assumption | (simp[Els.len];done) | (simp[Els.len];omega)) ?_;conv=>whnf)
  | (refine zo (by first | (exact decide_eq_true (by(try simp only[List.length_map]);omega)) | (simp[Els.len,Els.cons,V.cells,Els.toV,qU];done) | (simp[Els.len,Els.cons,V.cells,Els.toV,qU];omega)) ?_;conv=>whnf)
  | fail)
 exact qb 0 rfl ⟨⟨rfl,rfl⟩,rfl⟩
end Go.PX
namespace Go.PX
open Go.Proofs
open Go.RowKit
theorem y1:qkw exL 1=([⟨-15,-10⟩],0):=by decide +kernel
theorem y2:qiB exL ⟨0,0⟩=(⟨90,95⟩,0):=by decide +kernel
theorem y3:qiB exL ⟨0,3⟩=(⟨123,125⟩,0):=by decide +kernel
theorem y6:qmT exL=(0,0):=by decide +kernel
theorem z1:FnV Tryz.prog 21 [exL.d,i64 1] (.tup [qaQ [⟨-15,-10⟩],i64 0]):=FnV.cast (qpD exL 1) (by rw[y1])
theorem z2:FnV Tryz.prog 24 [exL.d,PAt.d ⟨0,0⟩] (.tup [Span.d ⟨90,95⟩,i64 0]):=FnV.cast (qpC exL ⟨0,0⟩) (by rw[y2])
theorem z3:FnV Tryz.prog 24 [exL.d,PAt.d ⟨0,3⟩] (.tup [Span.d ⟨123,125⟩,i64 0]):=FnV.cast (qpC exL ⟨0,3⟩) (by rw[y3])
theorem z6:FnV Tryz.prog 32 [exL.d] (.tup [i64 0,i64 0]):=FnV.cast (qqa exL) (by rw[y6])
end Go.PX
namespace Go.PX
open Go.Proofs
open Go.RowKit
theorem pa67(x:PEnt):FnV Tryz.prog 67 [x.d] (i64 (qjZ x)):=by
 obtain⟨sh,kd,wd,nm⟩:=x;refine qC mixed qi Tryz.func67 rfl (ft:=ft67) 1 (by decide +kernel) (by rfl) fun {σ} Y st=>?_;conv=>whnf
 refine qe (ds:=[i64 sh,i64 0,i64 20000]) (qoq sh 0 20000) rfl rfl ?_;unfold qjZ qbT
 cases h0:inB sh 0 20000 with
 | false=>
  conv=>whnf
  exact qb 0 rfl ⟨⟨rfl,rfl⟩,rfl⟩
 | true=>
 conv=>whnf
 refine qe (ds:=[i64 kd,i64 1,i64 3]) (qoq kd 1 3) rfl rfl ?_
 cases h1:inB kd 1 3 with
 | false=>
  have hk:¬ (kd=1)/\¬ (kd=2)/\¬ (kd=3):=by
   refine⟨?_,?_,?_⟩<;>rintro rfl<;>simp[inB]at h1
  conv=>whnf
  simp only[Bool.not_true,Bool.false_eq_true,if_false,if_neg hk.1,if_neg hk.2.1,if_neg hk.2.2];exact qb 0 rfl ⟨⟨rfl,rfl⟩,rfl⟩
 | true=>
 have hk:kd=1\/kd=2\/kd=3:=by
  unfold inB at h1;simp at h1;omega
 simp only[Bool.not_true,Bool.false_eq_true,if_false];conv=>whnf
 rcases hk with rfl | rfl | rfl
 ·refine qg (fun hA=>?_) (fun hA=>?_)
  ·conv=>whnf
   refine qe (ds:=[.str wd]) (qmK wd) rfl rfl ?_
   cases hn:qah wd with
   | false=>
    conv=>whnf
    exact qb 0 rfl ⟨⟨rfl,rfl⟩,rfl⟩
   | true=>
    conv=>whnf
    refine qg (fun hB=>?_) (fun hB=>?_)
    ·have hB:¬ nm=0:=by simpa using hB
     conv=>whnf
     rw[decide_eq_false hB];exact qb 0 rfl ⟨⟨rfl,rfl⟩,rfl⟩
    ·have hB:nm=0:=by simpa using hB
     conv=>whnf
     rw[decide_eq_true hB];exact qb 0 rfl ⟨⟨rfl,rfl⟩,rfl⟩
  ·conv=>whnf
   refine qe (ds:=[.str wd]) (qmK wd) rfl rfl ?_
   cases hn:qah wd with
   | false=>
    conv=>whnf
    exact qb 0 rfl ⟨⟨rfl,rfl⟩,rfl⟩
   | true=>
    conv=>whnf
    refine qg (fun hB=>?_) (fun hB=>?_)
    ·have hB:¬ nm=0:=by simpa using hB
     conv=>whnf
     rw[decide_eq_false hB];exact qb 0 rfl ⟨⟨rfl,rfl⟩,rfl⟩
    ·have hB:nm=0:=by simpa using hB
     conv=>whnf
     rw[decide_eq_true hB];exact qb 0 rfl ⟨⟨rfl,rfl⟩,rfl⟩
 ·have hw1:decide (wd = .empty)=decide (wd=(⟨#[]⟩:ByteArray)):=rfl
  simp only[if_neg (show ¬ (2:Int)=1 by decide),if_pos,hw1];refine qg (fun hA=>?_) (fun hA=>?_)
  ·rw[hA]
   conv=>whnf
   refine qg (fun hB=>?_) (fun hB=>?_)
   ·have hB:¬ nm=0:=by simpa using hB
    conv=>whnf
    rw[decide_eq_false hB];exact qb 0 rfl ⟨⟨rfl,rfl⟩,rfl⟩
   ·have hB:nm=0:=by simpa using hB
    conv=>whnf
    rw[decide_eq_true hB];exact qb 0 rfl ⟨⟨rfl,rfl⟩,rfl⟩
  ·rw[hA]
   conv=>whnf
   exact qb 0 rfl ⟨⟨rfl,rfl⟩,rfl⟩
 ·simp only[if_neg (show ¬ (3:Int)=1 by decide),if_neg (show ¬ (3:Int)=2 by decide),if_pos,Bool.not_not]
  refine qg (fun hA=>?_) (fun hA=>?_)
  ·conv=>whnf
   refine qe (ds:=[.str wd]) (qmK wd) rfl rfl ?_
   cases hn:qah wd with
   | false=>
    conv=>whnf
    exact qb 0 rfl ⟨⟨rfl,rfl⟩,rfl⟩
   | true=>
    conv=>whnf
    refine qe (ds:=[i64 nm,i64 1,i64 99]) (qoq nm 1 99) rfl rfl ?_
    cases h4:inB nm 1 99 with
    | false=>
     conv=>whnf
     exact qb 0 rfl ⟨⟨rfl,rfl⟩,rfl⟩
    | true=>
     conv=>whnf
     exact qb 0 rfl ⟨⟨rfl,rfl⟩,rfl⟩
  ·conv=>whnf
   refine qe (ds:=[.str wd]) (qmK wd) rfl rfl ?_
   cases hn:qah wd with
   | false=>
    conv=>whnf
    exact qb 0 rfl ⟨⟨rfl,rfl⟩,rfl⟩
   | true=>
    conv=>whnf
    refine qe (ds:=[i64 nm,i64 1,i64 99]) (qoq nm 1 99) rfl rfl ?_
    cases h4:inB nm 1 99 with
    | false=>
     conv=>whnf
     exact qb 0 rfl ⟨⟨rfl,rfl⟩,rfl⟩
    | true=>
     conv=>whnf
     exact qb 0 rfl ⟨⟨rfl,rfl⟩,rfl⟩
def qao(l:List PBook):List ByteArray:=l.map (·.name)
theorem headE_eq(pre:List PBook)(b:PBook):qgH pre b=if qfh b.name (qao pre)=0 then (if spread (-720) 720 [b.off,b.set] 0=0 then (if b.ents.length>8 then 3 else 0) else spread (-720) 720 [b.off,b.set] 0) else qfh b.name (qao pre):=by
 have h:((qao pre).any fun y=>decide (y=b.name))=pre.any fun y=>decide (y.name=b.name):=by
  unfold qao;rw[List.any_map];rfl
 unfold qgH qfh spread spread spread qbT;rw[h]
 cases qah b.name<;>cases (pre.any fun y=>decide (y.name=b.name))<;>cases inB b.off.lo (-720) 720<;>cases inB b.off.hi (-720) 720<;>cases inB b.set.lo (-720) 720<;>cases inB b.set.hi (-720) 720<;>simp
 by_cases h1:b.off.hi<b.off.lo<;>by_cases h2:b.set.hi<b.set.lo<;>simp[h1,h2]
set_option maxHeartbeats 2000000 in
theorem pa18(l:PLog):FnV Tryz.prog 18 [l.d] (qpR (qaj l)):=by
 refine qC mixed qi Tryz.func18 rfl (ft:=ft18) 1 (by decide +kernel) (by rfl) fun {σ} Y st=>?_;conv=>whnf
 unfold qaj;refine qe (ds:=[i64 l.near,i64 0,i64 60]) (qoq l.near 0 60) rfl rfl ?_;unfold qbT
 cases h0:inB l.near 0 60 with
 | false=>
  conv=>whnf
  exact qb 0 rfl ⟨⟨rfl,rfl⟩,rfl⟩
 | true=>
  conv=>whnf
  rw[List.length_map];refine qe (ds:=[i64 l.books.length,i64 1,i64 3]) (qoq l.books.length 1 3) rfl rfl ?_
  cases h1:inB l.books.length 1 3 with
  | false=>
   conv=>whnf
   exact qb 0 rfl ⟨⟨rfl,rfl⟩,rfl⟩
  | true=>
   have hlen:l.books.length<=3:=by
    have h1:=h1;unfold inB at h1;simp at h1;omega
   simp only[Bool.not_true,if_false,Bool.false_eq_true];conv=>whnf
   generalize hK:qaR [] l.books 0=K;refine zc (T:=tys) qi (by exact qd mixed qi (by decide +kernel)) l.books (fun i (_:Unit)=>⟨[(1,.ptr 1 0),(5,.sl 40 1 0 i),(6,.d (i64 i))],[(1,.box (.dd l.cells)),(40,.arr 1 (.dd ((qao (l.books.take i)).map fun s=>[.str s])))],st⟩)
    (fun i r _=>qaR (l.books.take i) r i=K) () ((Wk.born 5 40 1 rfl rfl rfl).trans (Wk.sub (by repeat' first|exact trivial|refine⟨?_,?_⟩|rfl|(simp only[List.length_map];rfl)|simp[PX.get]) (by repeat' first|exact trivial|refine⟨?_,?_⟩|rfl|(simp only[List.length_map];rfl)|simp[PX.get]))) hK ?_ ?_
   ·rintro i b r _ hx hi hr he
    rw[qaR,headE_eq]at he;have htk:l.books.take (i+1)=l.books.take i ++ [b]:=by rw[List.take_succ,hx];rfl
    have hnl:(qao (l.books.take i)).length=i:=by unfold qao;simp;omega
    conv=>whnf
    refine qg (fun _=>?_) (fun h=>absurd hi (by have:=of_decide_eq_false h;simp at this;omega));conv=>whnf
    refine qr hx ?_;conv=>whnf
    refine qo (ds:=[.str b.name,qmJ (qao (l.books.take i))]) (fn91 b.name (qao (l.books.take i)) (by omega)) rfl 1 (qx rfl (qx (zQ rfl (by simp[hnl])) rfl)) ?_;conv=>whnf
    refine qf rfl ?_;conv=>whnf
    refine qf (by simp[Els.len,hnl]) ?_;conv=>whnf
    refine zo (decide_eq_true (by
     show(((qao (l.books.take i)).map fun s=>[D.str s]).length+1)*16<=140737488355328;rw[List.length_map];omega)) ?_
    conv=>whnf
    generalize qfh b.name (qao (l.books.take i))=F at he ⊢;have hnext:(qao (l.books.take i)).map (fun s=>[D.str s]) ++ [[.str b.name]]=(qao (l.books.take (i+1))).map fun s=>[.str s]:=by
     rw[htk];simp[qao]
    have hnl1:((qao (l.books.take i)).map fun s=>[D.str s]).length+1=i+1:=by rw[List.length_map,hnl]
    refine qg (fun h2=>?_) (fun h2=>?_)
    ·have h2:F=0:=of_decide_eq_true h2
     subst h2;simp only[if_true]at he;conv=>whnf
     refine qo (ds:=[qaQ [b.off,b.set],i64 (-720),i64 720]) (fn111 [b.off,b.set] (-720) 720 (by simp)) rfl 1 (qx (zQ rfl rfl) rfl) ?_;generalize spread (-720) 720 [b.off,b.set] 0=S at he ⊢;conv=>whnf
     refine qg (fun h3=>?_) (fun h3=>?_)
     ·have h3:S=0:=by simpa using h3
      subst h3;simp only[if_true]at he;conv=>whnf
      refine qg (fun h8=>?_) (fun h8=>?_)
      ·have h8:b.ents.length>8:=by have:=of_decide_eq_true h8;simp at this;omega
       rw[if_pos h8,if_neg (by decide)]at he;conv=>whnf
       refine qc (qa (by(try dsimp only);omega)) ?_;conv=>whnf
       rw[<- he];exact qb 0 rfl ⟨⟨rfl,rfl⟩,rfl⟩
      ·have h8:¬ b.ents.length>8:=by have:=of_decide_eq_false h8;simp at this;omega
       rw[if_neg h8,if_pos rfl]at he;conv=>whnf
       generalize hE:qdk b.ents 0=E at he;refine zc (T:=tys) qi (by exact qd mixed qi (by decide +kernel)) b.ents (fun k (_:Unit)=>⟨[(1,.ptr 1 0),(5,.sl 40 1 0 (i+1)),(6,.d (i64 i)),(7,.ptr 7 0),(9,.d (i64 k))],[(1,.box (.dd l.cells)),(40,.arr 1 (.dd ((qao (l.books.take (i+1))).map fun s=>[.str s]))),(7,.box (.dd b.cells))],st⟩)
        (fun k r _=>qdk r k=E) () (Wk.sub ⟨rfl,(by
         show some (V.sl 40 1 0 (((qao (l.books.take i)).map fun s=>[D.str s]).length+1))=_;rw[hnl1]),rfl,rfl,rfl,trivial⟩ ⟨rfl,(by
         show some (Obj.arr 1 (Els.dd ((qao (l.books.take i)).map (fun s=>[D.str s]) ++ [[.str b.name]])))=_;rw[hnext]),rfl,trivial⟩) hE ?_ ?_
       ·rintro k y r2 _ hy hk hr2 he2
        rw[qdk]at he2;conv=>whnf
        refine qg (fun _=>?_) (fun h=>absurd hk (by have:=of_decide_eq_false h;simp at this;omega));conv=>whnf
        refine qr hy ?_;conv=>whnf
        refine qe (pa67 y) rfl rfl ?_;conv=>whnf
        refine qg (fun h4=>?_) (fun h4=>?_)
        ·have h4:¬ qjZ y=0:=by simpa using h4
         rw[if_neg h4]at he2;subst he2;rw[if_neg h4]at he;conv=>whnf
         refine qc (qa (by(try dsimp only);omega)) ?_;conv=>whnf
         rw[<- he];exact qb 0 rfl ⟨⟨rfl,rfl⟩,rfl⟩
        ·have h4:qjZ y=0:=by simpa using h4
         rw[if_pos h4]at he2;conv=>whnf
         refine qc (qa (by(try dsimp only);omega)) ?_;conv=>whnf
         exact⟨(),he2,(Wk.sub (by repeat' first|exact trivial|refine⟨?_,?_⟩|rfl|(simp only[List.length_map];rfl)|simp[PX.get]) (by repeat' first|exact trivial|refine⟨?_,?_⟩|rfl|(simp only[List.length_map];rfl)|simp[PX.get]))⟩
       ·rintro _ he2
        have he2:((0,0):Int×Int)=E:=he2;subst he2;rw[if_pos rfl,<- htk]at he;conv=>whnf
        refine qg (fun h=>absurd h (by simp)) (fun _=>?_);conv=>whnf
        refine qc (qa (by(try dsimp only);omega)) ?_;conv=>whnf
        exact⟨(),he,(Wk.sub (by repeat' first|exact trivial|refine⟨?_,?_⟩|rfl|(simp only[List.length_map];rfl)|simp[PX.get]) (by repeat' first|exact trivial|refine⟨?_,?_⟩|rfl|(simp only[List.length_map];rfl)|simp[PX.get]))⟩
     ·have h3:¬ S=0:=by simpa using h3
      conv=>whnf
      refine qg (fun _=>?_) (fun h=>absurd h (by simp[h3]));rw[if_neg h3,if_neg h3]at he;conv=>whnf
      refine qc (qa (by(try dsimp only);omega)) ?_;conv=>whnf
      rw[<- he];exact qb 0 rfl ⟨⟨rfl,rfl⟩,rfl⟩
    ·have h2:¬ F=0:=of_decide_eq_false h2
     conv=>whnf
     refine qg (fun h=>absurd (of_decide_eq_true h) h2) (fun _=>?_);conv=>whnf
     refine qg (fun _=>?_) (fun h=>absurd h (by simp[h2]));rw[if_neg h2,if_neg h2]at he;conv=>whnf
     refine qc (qa (by(try dsimp only);omega)) ?_;conv=>whnf
     rw[<- he];exact qb 0 rfl ⟨⟨rfl,rfl⟩,rfl⟩
   ·rintro _ he
    rw[qaR]at he;subst he;conv=>whnf
    refine qg (fun h=>absurd h (by simp)) (fun _=>?_);conv=>whnf
    exact qb 0 rfl ⟨⟨rfl,rfl⟩,rfl⟩
end Go.PX
namespace Go.PX
open Go.Proofs
open Go.RowKit
theorem qqd(l:PLog):FnV Tryz.prog 47 [l.d] (.bool (decide (qz l=0))):=by
 obtain⟨cp,cq,ce,hcp⟩:∃ p q e,qaj l=(p,q,e):=⟨_,_,_,rfl⟩;have hce:qz l=ce:=by show(qaj _).2.2=ce;rw[hcp]
 have h18:FnV Tryz.prog 18 [l.d] (.tup [i64 cp,i64 cq,i64 ce]):=FnV.cast (pa18 l) (by rw[hcp];rfl);show FnV Tryz.prog 47 [l.d] _;refine qC mixed qi Tryz.func47 rfl (ft:=ft47) 1 (by decide +kernel) (by rfl) fun {σ} Y st=>?_;conv=>whnf
 refine qe (ds:=[l.d]) h18 rfl rfl ?_;conv=>whnf
 rw[hce];exact qb 0 rfl ⟨⟨rfl,rfl⟩,rfl⟩
end Go.PX
namespace Go.PX
open Go.Proofs
open Go.RowKit
theorem qnU{h:Heap}{k n:Nat}(L:PLog)(hn:n=L.books.length)(h1:get h 900001=some (.arr 6 (.dd (L.books.map PBook.cells)))):ji (qbG h (k+1)) (.agg [.d (i64 L.near),.sl 900001 6 0 n])=some L.d:=by
 have e:ji (qbG h (k+1)) (.sl 900001 6 0 n)=some (qF L.books):=zQ h1 (by simp[hn]);have:zJ (qbG h (k+1)) [.d (i64 L.near),.sl 900001 6 0 n]=some [i64 L.near,qF L.books]:=qx rfl (qx e rfl);rw[ji,this];rfl
end Go.PX
namespace Go.PX
open Go.Proofs
open Go.RowKit
end Go.PX
namespace Go.PX
open Go.Proofs
open Go.RowKit
end Go.PX
namespace Go.PX
open Go.Proofs
open Go.RowKit
end Go.PX
namespace Go.PX
open Go.Proofs
open Go.RowKit
end Go.PX
namespace Go.PX
open Go.Proofs
end Go.PX
namespace Go.PX
open Go.Proofs
open Go.RowKit
end Go.PX
namespace Go.PX
open Go.Proofs
open Go.RowKit
theorem qow(l:List Int)(n:Int)(hl:l.length<1000000):FnV Tryz.prog 57 [qG l,i64 n] (.bool (decide (n∈l))):=by
 refine qC mixed qi Tryz.func57 rfl (ft:=ft57) 2 (by decide +kernel) (by rfl) fun {σ} Y st=>?_;conv=>whnf
 refine zc (T:=tys) qi (by exact qd mixed qi (by decide +kernel)) l (fun i (_:Unit)=>⟨[(0,.d (qG l)),(1,.d (i64 n)),(5,.d (i64 i))],[],st⟩) (fun i r _=>decide (n∈l)=decide (n∈r)) () (Wk.sub (by repeat' first|exact trivial|refine⟨?_,?_⟩|rfl|(simp only[List.length_map];rfl)|simp[PX.get]) trivial) rfl ?_ ?_
 ·intro i x r _ hx hi hr he
  conv=>whnf
  refine qg (fun _=>?_) (fun h=>absurd hi (by have:=of_decide_eq_false h;simp at this;omega));conv=>whnf
  refine qr hx ?_;conv=>whnf
  refine qg (fun h=>?_) (fun h=>?_)
  ·have h:x=n:=of_decide_eq_true h
   have e:decide (n∈l)=true:=by rw[he,h];simp
   conv=>whnf
   rw[e];exact qb 0 rfl ⟨⟨rfl,rfl⟩,rfl⟩
  ·have h:¬ x=n:=of_decide_eq_false h
   have e:decide (n∈l)=decide (n∈r):=by rw[he];simp[Ne.symm h]
   conv=>whnf
   refine qc (qa (by(try dsimp only);omega)) ?_;conv=>whnf
   exact⟨(),e,(Wk.sub (by repeat' first|exact trivial|refine⟨?_,?_⟩|rfl|(simp only[List.length_map];rfl)|simp[PX.get]) trivial)⟩
 ·intro _ he
  conv=>whnf
  refine qg (fun h=>absurd h (by simp)) (fun _=>?_);conv=>whnf
  rw[he];exact qb 0 rfl ⟨⟨rfl,rfl⟩,rfl⟩
def qfo(b:PBook)(n:Int):Int:=match qZ b.ents n 0 with
 | some k=>k
 | none=>-1
theorem qpF(b:PBook)(n:Int)(hb:b.ents.length<1000000):FnV Tryz.prog 58 [.agg b.cells,i64 n] (i64 (qfo b n)):=by
 unfold qfo;refine qC mixed qi Tryz.func58 rfl (ft:=ft58) 2 (by decide +kernel) (by rfl) fun {σ} Y st=>?_;conv=>whnf
 refine zc (T:=tys) qi (by exact qd mixed qi (by decide +kernel)) b.ents (fun i (_:Unit)=>⟨[(1,.d (i64 n)),(2,.ptr 2 0),(5,.d (i64 i))],[(2,.box (.dd b.cells))],st⟩) (fun i r _=>qZ b.ents n 0=qZ r n i) () (Wk.sub (by repeat' first|exact trivial|refine⟨?_,?_⟩|rfl|(simp only[List.length_map];rfl)|simp[PX.get]) ⟨(by first | rfl | (simp only[List.length_map];rfl) | simp[PX.get]),trivial⟩) rfl ?_ ?_
 ·intro i x r _ hx hi hr he
  rw[qZ]at he;conv=>whnf
  refine qg (fun _=>?_) (fun h=>absurd hi (by have:=of_decide_eq_false h;simp at this;omega));conv=>whnf
  refine qr hx ?_;conv=>whnf
  refine qg (fun h=>?_) (fun h=>?_)
  ·have h:x.kind=3:=of_decide_eq_true h
   conv=>whnf
   refine qr hx ?_;conv=>whnf
   refine qg (fun h2=>?_) (fun h2=>?_)
   ·have h2:x.number=n:=of_decide_eq_true h2
    rw[if_pos ⟨h,h2⟩]at he;conv=>whnf
    rw[he];exact qb 0 rfl ⟨⟨rfl,rfl⟩,rfl⟩
   ·have h2:¬ x.number=n:=of_decide_eq_false h2
    rw[if_neg fun h3=>h2 h3.2]at he;conv=>whnf
    refine qc (qa (by(try dsimp only);omega)) ?_;conv=>whnf
    exact⟨(),he,(Wk.sub (by repeat' first|exact trivial|refine⟨?_,?_⟩|rfl|(simp only[List.length_map];rfl)|simp[PX.get]) ⟨(by first | rfl | (simp only[List.length_map];rfl) | simp[PX.get]),trivial⟩)⟩
  ·have h:¬ x.kind=3:=of_decide_eq_false h
   rw[if_neg fun h3=>h h3.1]at he;conv=>whnf
   refine qc (qa (by(try dsimp only);omega)) ?_;conv=>whnf
   exact⟨(),he,(Wk.sub (by repeat' first|exact trivial|refine⟨?_,?_⟩|rfl|(simp only[List.length_map];rfl)|simp[PX.get]) ⟨(by first | rfl | (simp only[List.length_map];rfl) | simp[PX.get]),trivial⟩)⟩
 ·intro _ he
  conv=>whnf
  refine qg (fun h=>absurd h (by simp)) (fun _=>?_);conv=>whnf
  rw[he];exact qb 0 rfl ⟨⟨rfl,rfl⟩,rfl⟩
def qni(n:Int)(b:PBook):Bool:=(qZ b.ents n 0).isSome
theorem firstX_ge(b:PBook)(n:Int):decide (0<=qfo b n)=qni n b:=by
 unfold qfo qni
 cases qZ b.ents n 0 with
 | none=>rfl
 | some k=>simp
def qbB(l:PLog)(k:Nat):List Int:=((List.range' 1 k).map fun(n:Nat)=>(n:Int)).filter fun n=>l.books.any (qni n)
theorem numsTo_succ(l:PLog)(k:Nat):qbB l (k+1)=qbB l k++if l.books.any (qni ((k+1:Nat):Int)) then [((k+1:Nat):Int)] else []:=by
 unfold qbB;rw[List.range'_concat,List.map_append,List.filter_append];simp only[Nat.mul_one,Nat.one_mul,List.map_cons,List.map_nil,Nat.add_comm 1 k]
 congr 1
 rw[List.filter_cons]
 split<;>rfl
theorem numsTo_len(l:PLog)(k:Nat):(qbB l k).length<=k:=by
 unfold qbB;refine Nat.le_trans (List.length_filter_le _ _) ?_;simp
set_option maxHeartbeats 4000000 in
theorem pa55(l:PLog)(hR:LogR l):FnV Tryz.prog 55 [l.d] (qG (jE l)):=by
 have hlen:=hR.books;have hN:jE l=qbB l 99:=rfl;rw[hN];show FnV Tryz.prog 55 [l.d] _;refine qC mixed qi Tryz.func55 rfl (ft:=ft55) 1 (by decide +kernel) (by rfl) fun {σ} Y st=>?_;conv=>whnf
 refine zt (T:=tys) qi (by exact qd mixed qi (by decide +kernel)) (α:=Nat) (fun k=>⟨[(1,.ptr 1 0),(3,.sl 33 1 0 (qbB l k).length),(4,.d (i64 (k+1)))],[(1,.box (.dd l.cells)),(33,.arr 1 (.dd ((qbB l k).map fun x=>[i64 x])))],st⟩) (fun k=>k<=99) (fun k=>99-k) 0 ((Wk.born 3 33 1 rfl rfl rfl).trans (Wk.sub (by repeat' first|exact trivial|refine⟨?_,?_⟩|rfl|(simp only[List.length_map];rfl)|simp[PX.get]) (by repeat' first|exact trivial|refine⟨?_,?_⟩|rfl|(simp only[List.length_map];rfl)|simp[PX.get]))) (by simp) ?_;rintro k hk;have hnl:=numsTo_len l k;conv=>whnf
 refine qg (fun h=>?_) (fun h=>?_)
 ·have hk9:k<99:=by have:=of_decide_eq_true h;omega
  have hsc:=numsTo_succ l k;obtain⟨n,hn⟩:∃ n:Int,n=(k:Int)+1:=⟨_,rfl⟩;rw[<- hn];have hn2:((k+1:Nat):Int)=n:=by rw[hn];rfl
  rw[hn2]at hsc;conv=>whnf
  refine zc (T:=tys) qi (by exact qd mixed qi (by decide +kernel)) l.books (fun i (_:Unit)=>⟨[(1,.ptr 1 0),(3,.sl 33 1 0 (qbB l k).length),(4,.d (i64 n)),(5,.d (.bool ((l.books.take i).any (qni n)))),(6,.d (i64 i))],[(1,.box (.dd l.cells)),(33,.arr 1 (.dd ((qbB l k).map fun x=>[i64 x])))],st⟩) (fun i r _=>i<=l.books.length) () (Wk.sub (by repeat' first|exact trivial|refine⟨?_,?_⟩|rfl|(simp only[List.length_map];rfl)|simp[PX.get]) (by repeat' first|exact trivial|refine⟨?_,?_⟩|rfl|(simp only[List.length_map];rfl)|simp[PX.get])) (Nat.zero_le _) ?_ ?_
  ·intro i b r _ hx hi hr _
   have hbR:=hR.book b (List.mem_of_getElem? hx);have hel:=hbR.ents;have htk:(l.books.take (i+1)).any (qni n)=((l.books.take i).any (qni n)||qni n b):=by
    rw[List.take_succ,hx,List.any_append];simp
   have hg:=firstX_ge b n;generalize (l.books.take i).any (qni n)=B at htk ⊢;conv=>whnf
   refine qg (fun _=>?_) (fun h=>absurd hi (by have:=of_decide_eq_false h;simp at this;omega))
   cases B with
   | true=>
    conv=>whnf
    refine qc (qa (by(try dsimp only);omega)) ?_;conv=>whnf
    exact⟨(),by omega,Wk.sub ⟨rfl,rfl,rfl,by rw[htk];rfl,rfl,trivial⟩ ⟨rfl,rfl,trivial⟩⟩
   | false=>
    conv=>whnf
    refine qr hx ?_;conv=>whnf
    refine qe (ds:=[.agg b.cells,i64 n]) (qpF b n (by omega)) rfl rfl ?_;conv=>whnf
    refine qc (qa (by(try dsimp only);omega)) ?_;conv=>whnf
    exact⟨(),by omega,Wk.sub ⟨rfl,rfl,rfl,by rw[htk,Bool.false_or,<- hg];rfl,rfl,trivial⟩ ⟨rfl,rfl,trivial⟩⟩
  ·intro _ _
   rw[List.take_length]
   cases hB:l.books.any (qni n) with
   | true=>
    rw[hB,if_pos rfl]at hsc;conv=>whnf
    refine qg (fun h=>absurd h (by simp)) (fun _=>?_);conv=>whnf
    refine qf rfl ?_;conv=>whnf
    refine qf (by simp[Els.len]) ?_;conv=>whnf
    refine zo (decide_eq_true (by
     show(((qbB l k).map fun x=>[i64 x]).length+1)*8<=140737488355328;rw[List.length_map];omega)) ?_
    conv=>whnf
    refine qh (((k+1:Nat):Int)+1) (by omega) (qa (by omega)) ?_;conv=>whnf
    refine⟨k+1,by omega,by omega,Wk.sub ⟨rfl,(by
     show some (V.sl 33 1 0 (((qbB l k).map fun x=>[i64 x]).length+1))=_;rw[List.length_map,hsc,List.length_append];rfl),rfl,trivial⟩ ⟨rfl,(by
     show some (Obj.arr 1 (.dd (((qbB l k).map fun x=>[i64 x]) ++ [[i64 n]])))=_;rw[hsc,List.map_append];rfl),trivial⟩⟩
   | false=>
    rw[hB,if_neg (by decide),List.append_nil]at hsc;conv=>whnf
    refine qg (fun h=>absurd h (by simp)) (fun _=>?_);conv=>whnf
    refine qh (((k+1:Nat):Int)+1) (by omega) (qa (by omega)) ?_;conv=>whnf
    exact⟨k+1,by omega,by omega,Wk.sub ⟨rfl,(by rw[hsc];rfl),rfl,trivial⟩ ⟨rfl,(by rw[hsc];rfl),trivial⟩⟩
 ·have hk9:k=99:=by have:=of_decide_eq_false h;omega
  subst hk9;conv=>whnf
  exact qb 1 (qx (qag (es':=(qbB l 99).map fun x=>[i64 x]) rfl rfl (by simp)) rfl) ⟨⟨rfl,rfl⟩,rfl⟩
end Go.PX
namespace Go.PX
open Go.Proofs
open Go.RowKit
theorem qjX:∀ {r:List PEnt} {n:Int} {s k:Nat} {y:PEnt},r[k]?=some y->y.kind=3/\y.number=n -> ∃ m,qZ r n s=some m/\m<=s+k
 | [],n,s,k,y,h,_=>by simp at h
 | z::r,n,s,k,y,h,hy=>by
  rw[qZ]
  by_cases hz:z.kind=3/\z.number=n
  ·rw[if_pos hz];exact⟨s,rfl,by omega⟩
  ·rw[if_neg hz]
   cases k with
   | zero=>simp at h;subst h;exact absurd hy hz
   | succ k=>
    obtain⟨m,h1,h2⟩:=qjX (r:=r) (s:=s+1) (k:=k) (by simpa using h) hy;exact⟨m,h1,by omega⟩
def qlE(b:List PEnt)(k:Nat)(y:PEnt):Prop:=y.kind=3/\qZ b y.number 0≠some k
theorem qlF{b:PBook}{k:Nat}{y:PEnt}(h:b.ents[k]?=some y)(h3:y.kind=3):qfo b y.number<k↔qZ b.ents y.number 0≠some k:=by
 obtain⟨m,h1,h2⟩:=qjX (s:=0) h ⟨h3,rfl⟩;unfold qfo;rw[h1];simp;omega
theorem last_num{l:PLog}(h:qz l=0):(jE l = []/\jQ l=0) \/ ∃ r,jE l=r ++ [jQ l]:=by
 obtain⟨h1,h2,h3,h4⟩:=qdM h
 by_cases h0:jQ l=0
 ·left
  refine⟨?_,h0⟩;rw[qeS h,h0];rfl
 ·right
  obtain⟨k,hk⟩:∃ k:Nat,jQ l=((k+1:Nat):Int):=⟨(jQ l).toNat-1,by omega⟩;have h5:0<inN l (jQ l):=by rcases h4 with h4 | h4;exact absurd h4 h0;exact h4
  rw[qeS h];refine⟨(qgU k).filter fun n=>!decide (inN l n=0),?_⟩;have e:qgU (jQ l)=qgU k ++ [jQ l]:=by
   rw[hk];unfold qgU;rw[Int.toNat_natCast,Int.toNat_natCast,List.range'_concat,List.map_append];simp[Nat.add_comm]
  rw[e,List.filter_append,List.filter_cons,if_pos (by simp;omega)];rfl
theorem xor_num{l:PLog}(h:qz l=0){n:Int}(h1:1<=n)(h2:n<=jQ l):decide (n∈qep l) = !decide (n∈jE l):=by
 by_cases h0:inN l n=0
 ·rw[decide_eq_true (qlD.2 ⟨⟨h1,h2⟩,h0⟩),decide_eq_false (fun hn=>by have:=(qcV h).1 hn;omega)];rfl
 ·rw[decide_eq_false (fun hn=>h0 (qlD.1 hn).2),decide_eq_true ((qcV h).2 (by omega))];rfl
theorem repF_less{l:PLog}(h:qz l=0)(ht:qaH [] (qeo l)=false):qng (qbY l)=(qep l,[],0):=by
 unfold qng;rw[if_pos (qeT h),less_twice ht,less_miss h,less_copy h];rfl
set_option maxHeartbeats 4000000 in
theorem pa15(l:PLog):FnV Tryz.prog 15 [l.d] (.bool true):=by
 by_cases hc:qz l=0
 case neg=>
  have h1:FnV Tryz.prog 37 [l.d] (.tup [qG [],qG [],i64 (qz l)]):=FnV.cast (qpb l) (by unfold qng;rw[if_neg hc]);have h2:FnV Tryz.prog 47 [l.d] (.bool false):=FnV.cast (qqd l) (by rw[decide_eq_false hc]);generalize qz l=E at hc h1;refine qC mixed qi Tryz.func15 rfl (ft:=qpw) 1 (by decide +kernel) (by rfl) fun {σ} Y st=>?_;conv=>whnf
  refine qe (ds:=[l.d]) h1 rfl rfl ?_;conv=>whnf
  refine qe (ds:=[l.d]) h2 rfl rfl ?_;conv=>whnf
  refine qg (fun _=>?_) (fun h=>absurd h (by simp[hc]));conv=>whnf
  refine qh 0 (by rfl) (qa (by omega)) ?_;conv=>whnf
  refine qe (qov) rfl rfl ?_;conv=>whnf
  exact qb 0 rfl ⟨⟨rfl,rfl⟩,rfl⟩
 have h2:FnV Tryz.prog 47 [l.d] (.bool true):=FnV.cast (qqd l) (by rw[decide_eq_true hc])
 cases ht:qaH [] (qeo l) with
 | true=>
  have h1:FnV Tryz.prog 37 [l.d] (.tup [qG [],qG [],i64 5]):=FnV.cast (qpb l) (by unfold qng;rw[if_pos hc,ht];rfl);refine qC mixed qi Tryz.func15 rfl (ft:=qpw) 1 (by decide +kernel) (by rfl) fun {σ} Y st=>?_;conv=>whnf
  refine qe (ds:=[l.d]) h1 rfl rfl ?_;conv=>whnf
  refine qe (ds:=[l.d]) h2 rfl rfl ?_;conv=>whnf
  refine qh 0 (by rfl) (qa (by omega)) ?_;conv=>whnf
  refine qe (qov) rfl rfl ?_;conv=>whnf
  exact qb 0 rfl ⟨⟨rfl,rfl⟩,rfl⟩
 | false=>
  have h1:FnV Tryz.prog 37 [l.d] (.tup [qG (qep l),qG (qgJ l),i64 0]):=FnV.cast (qpb l) (by unfold qng;rw[if_pos hc,ht];rfl);have hR:=jC hc;have hlen:=hR.books;have h3:=fun {σ}=>@pa55 l hR σ;have hln:=last_num hc;have hml:=miss_len hc;have hlast:=qdM hc;have hxor:=fun {n:Int} h1 h2=>@xor_num l hc n h1 h2;have hleft:=fun {i k:Nat} {b:PBook} {y:PEnt}=>@left_copy l hc i k b y;have hout:=fun {n:Int}=>@copy_out l hc n;have h37:FnV Tryz.prog 37 [(qbY l).d] (.tup [qG (qep l),qG [],i64 0]):=FnV.cast (qpb (qbY l)) (by rw[repF_less hc ht]);have hcl:(qgJ l).length<=99:=by
   unfold qgJ;refine Nat.le_trans (List.length_filter_le _ _) ?_;simp;omega
  generalize qep l=M at h1 hml hxor h37;generalize qgJ l=C at h1 hleft hout hcl;generalize jE l=N at h3 hln hml hxor;generalize jQ l=T at hln hml hlast hxor;have hMl:M.length<=99:=by omega
  have hNl:N.length<=99:=by omega
  refine qC mixed qi Tryz.func15 rfl (ft:=qpw) 1 (by decide +kernel) (by rfl) fun {σ} Y st=>?_;conv=>whnf
  refine qe (ds:=[l.d]) h1 rfl rfl ?_;conv=>whnf
  refine qe (ds:=[l.d]) h2 rfl rfl ?_;conv=>whnf
  refine qe (ds:=[l.d]) h3 rfl rfl ?_;conv=>whnf
  rcases hln with⟨hN,hT⟩ | ⟨r,hN⟩
  ·refine qg (fun h=>absurd h (by simp[hN])) (fun _=>?_)
   conv=>whnf
   refine zt (T:=tys) qi (by exact qd mixed qi (by decide +kernel)) (α:=Nat) (fun k=>⟨[(1,.ptr 1 0),(3,.d (qG M)),(4,.d (qG C)),(6,.d (qG N)),(7,.d (i64 T)),(8,.d (i64 (k+1)))],[(1,.box (.dd l.cells))],st⟩) (fun k=>(k:Int)<=T) (fun k=>T.toNat-k) 0 (Wk.sub ⟨rfl,rfl,rfl,rfl,(by rw[hT];rfl),rfl,trivial⟩ ⟨rfl,trivial⟩) (by simp;omega) ?_;rintro k hk;conv=>whnf
   refine qg (fun h=>?_) (fun h=>?_)
   ·have hk9:(k:Int)+1<=T:=by have:=of_decide_eq_true h;omega
    have hx:=hxor (n:=(k:Int)+1) (by omega) hk9;have c1:=fun {σ}=>@qow N ((k:Int)+1) (by omega) σ;have c2:=fun {σ}=>@qow M ((k:Int)+1) (by omega) σ;generalize decide ((k:Int)+1∈N)=B1 at hx c1;generalize decide ((k:Int)+1∈M)=B2 at hx c2;subst hx;conv=>whnf
    refine qe (ds:=[qG N,i64 ((k:Int)+1)]) c1 rfl rfl ?_;conv=>whnf
    refine qe (ds:=[qG M,i64 ((k:Int)+1)]) c2 rfl rfl ?_
    cases B1
    all_goals
     conv=>whnf
     refine qh (((k+1:Nat):Int)+1) (by omega) (qa (by omega)) ?_;conv=>whnf
     exact⟨k+1,by omega,by show((k+1:Nat):Int)<=T;omega,(Wk.sub (by repeat' first|exact trivial|refine⟨?_,?_⟩|rfl|(simp only[List.length_map];rfl)|simp[PX.get]) ⟨(by first | rfl | (simp only[List.length_map];rfl) | simp[PX.get]),trivial⟩)⟩
   ·have hk9:(k:Int)=T:=by have:=of_decide_eq_false h;omega
    conv=>whnf
    refine qh T (by simp;omega) (qa (by omega)) ?_;conv=>whnf
    refine qg (fun h=>absurd h (by simp)) (fun _=>?_);conv=>whnf
    refine zc (T:=tys) qi (by exact qd mixed qi (by decide +kernel)) l.books (fun i (c:Nat)=>⟨[(1,.ptr 1 0),(3,.d (qG M)),(4,.d (qG C)),(9,.ptr 9 0),(10,.d (i64 c)),(11,.d (i64 i))],[(1,.box (.dd l.cells)),(9,.box (.vv [.d (i64 l.near),.sl 900001 6 0 i])),(900001,.arr 6 (.dd (((l.books.take i).map qaM).map PBook.cells)))],st⟩)
     (fun i r c=>c<=8*i/\(0<c->C ≠ []) /\ ∀ (i0 k0:Nat) b0 y0,At l i0 k0 b0 y0->qlE b0.ents k0 y0->i0<i->0<c) 0 ((Wk.bornAtD 9 900001 6 [i64 l.near] [] rfl rfl rfl rfl rfl).trans (Wk.sub (by repeat' first|exact trivial|refine⟨?_,?_⟩|rfl|(simp only[List.length_map];rfl)|simp[PX.get]) (by repeat' first|exact trivial|refine⟨?_,?_⟩|rfl|(simp only[List.length_map];rfl)|simp[PX.get]))) ⟨by omega,fun h=>absurd h (by omega),fun _ _ _ _ _ _ h=>absurd h (by omega)⟩ ?_ ?_
    ·rintro i b r c hx hi hr ⟨hc8,hcC,hcO⟩
     have htk:l.books.take (i+1)=l.books.take i ++ [b]:=by rw[List.take_succ,hx];rfl
     have hbR:=hR.book b (List.mem_of_getElem? hx);have hel:=hbR.ents;conv=>whnf
     refine qg (fun _=>?_) (fun h=>absurd hi (by have:=of_decide_eq_false h;simp at this;omega));conv=>whnf
     refine qr hx ?_;conv=>whnf
     refine zc (T:=tys) qi (by exact qd mixed qi (by decide +kernel)) b.ents (fun k (a:List PEnt×Nat)=>⟨[(1,.ptr 1 0),(3,.d (qG M)),(4,.d (qG C)),(9,.ptr 9 0),(10,.d (i64 a.2)),(11,.d (i64 i)),(12,.ptr 12 0),(13,.d (i64 k))],[(1,.box (.dd l.cells)),(9,.box (.vv [.d (i64 l.near),.sl 900001 6 0 i])),(900001,.arr 6 (.dd (((l.books.take i).map qaM).map PBook.cells))),(12,.box (.vv [.d (.str b.name),.d (i64 b.off.lo),.d (i64 b.off.hi),.d (i64 b.set.lo),.d (i64 b.set.hi),.sl 900002 4 0 a.1.length])),(900002,.arr 4 (.dd (a.1.map PEnt.cells)))],st⟩)
      (fun k r2 a=>a.1++qbv b.ents k r2=qbv b.ents 0 b.ents/\a.1.length<=k/\a.2<=c+k/\(0<a.2->C ≠ []) /\ ∀ (i0 k0:Nat) b0 y0,At l i0 k0 b0 y0->qlE b0.ents k0 y0->(i0<i\/i0=i/\k0<k)->0<a.2) ([],c)
      ((Wk.bornAtD 12 900002 4 [.str b.name,i64 b.off.lo,i64 b.off.hi,i64 b.set.lo,i64 b.set.hi] [] rfl rfl rfl rfl rfl).trans (Wk.sub (by repeat' first|exact trivial|refine⟨?_,?_⟩|rfl|(simp only[List.length_map];rfl)|simp[PX.get]) (by repeat' first|exact trivial|refine⟨?_,?_⟩|rfl|(simp only[List.length_map];rfl)|simp[PX.get]))) ⟨rfl,by simp,by simp,hcC,fun i0 k0 b0 y0 h1 h2 h3=>hcO i0 k0 b0 y0 h1 h2 (by omega)⟩ ?_ ?_
     ·rintro k y r2 ⟨acc,n⟩ hy hk hr2 ⟨g1,g2,g3,g4,g5⟩
      simp only at g1 g2 g3 g4 g5;rw[qbv]at g1;have hyR:=hbR.ent y (List.mem_of_getElem? hy);conv=>whnf
      refine qr hx ?_;conv=>whnf
      refine qg (fun _=>?_) (fun h=>absurd hk (by have:=of_decide_eq_false h;simp at this;omega));conv=>whnf
      refine qr hx ?_;conv=>whnf
      refine qr hy ?_;conv=>whnf
      have hfl:=qlF hy;have hno:∀ {P:Prop},(0<n->P)->(¬ qlE b.ents k y) -> ∀ (i0 k0:Nat) b0 y0,At l i0 k0 b0 y0->qlE b0.ents k0 y0->(i0<i\/i0=i/\k0<k+1)->0<n:=by
       intro P _ hnot i0 k0 b0 y0 h1 h2 h3
       by_cases h4:i0=i/\k0=k
       ·obtain⟨rfl,rfl⟩:=h4
        have e1:=h1.book;rw[hx]at e1
        cases e1
        have e2:=h1.ent;rw[hy]at e2
        cases e2
        exact absurd h2 hnot
       ·exact g5 i0 k0 b0 y0 h1 h2 (by omega)
      refine qg (fun h4=>?_) (fun h4=>?_)
      ·have h4:y.kind=3:=of_decide_eq_true h4
       have hfl:=hfl h4;conv=>whnf
       refine qr hx ?_;conv=>whnf
       refine qv (ds:=[.agg b.cells,i64 y.number]) (qpF b y.number (by omega)) rfl rfl ?_;generalize qfo b y.number=FX at hfl;conv=>whnf
       refine qg (fun h5=>?_) (fun h5=>?_)
       ·have h5:qlE b.ents k y:=⟨h4,hfl.1 (of_decide_eq_true h5)⟩
        have hin:y.number∈C:=hleft ⟨hx,hy⟩ h4 h5.2;rw[if_pos ⟨h5.1,h5.2⟩]at g1;have c1:FnV Tryz.prog 57 [qG C,i64 y.number] (.bool true):=FnV.cast (qow C y.number (by omega)) (by rw[decide_eq_true hin]);conv=>whnf
        refine qh ((n+1:Nat):Int) (by rfl) (qa (by omega)) ?_;conv=>whnf
        refine qe (ds:=[qG C,i64 y.number]) c1 rfl rfl ?_;conv=>whnf
        refine qc (qa (by(try dsimp only);omega)) ?_;conv=>whnf
        exact⟨(acc,n+1),⟨g1,by simp only;omega,by simp only;omega,fun _ h=>(by rw[h]at hin;cases hin),fun _ _ _ _ _ _ _=>by simp only;omega⟩,(Wk.sub (by repeat' first|exact trivial|refine⟨?_,?_⟩|rfl|(simp only[List.length_map];rfl)|simp[PX.get]) (by repeat' first|exact trivial|refine⟨?_,?_⟩|rfl|(simp only[List.length_map];rfl)|simp[PX.get]))⟩
       ·have h5:¬ qlE b.ents k y:=fun h=>absurd (hfl.2 h.2) (of_decide_eq_false h5)
        rw[if_neg (fun h=>h5 ⟨h.1,h.2⟩)]at g1;conv=>whnf
        refine qf rfl ?_;conv=>whnf
        refine qf (by simp[Els.len]) ?_;conv=>whnf
        refine zo (decide_eq_true (by
         show((acc.map PEnt.cells).length+1)*40<=140737488355328;rw[List.length_map];omega)) ?_
        conv=>whnf
        refine qc (qa (by(try dsimp only);omega)) ?_;conv=>whnf
        refine⟨(acc ++ [y],n),⟨by rw[<- g1];simp,by simp;omega,by simp only;omega,g4,fun i0 k0 b0 y0 q1 q2 q3=>hno (P:=True) (fun _=>trivial) h5 i0 k0 b0 y0 q1 q2 q3⟩,(Wk.move 135 900002 rfl rfl).trans (Wk.sub ⟨rfl,rfl,rfl,rfl,rfl,rfl,rfl,rfl,trivial⟩ ⟨rfl,rfl,rfl,(by
         show some (Obj.box (.vv [.d (.str b.name),.d (i64 b.off.lo),.d (i64 b.off.hi),.d (i64 b.set.lo),.d (i64 b.set.hi),.sl 900002 4 0 ((acc.map PEnt.cells).length+1)]))=_;rw[List.length_map];simp),(by
         show some (Obj.arr 4 (.dd (acc.map PEnt.cells ++ [y.cells])))=_;simp),trivial⟩)⟩
      ·have h4:¬ y.kind=3:=of_decide_eq_false h4
       have h5:¬ qlE b.ents k y:=fun h=>h4 h.1;rw[if_neg (fun h=>h5 ⟨h.1,h.2⟩)]at g1;conv=>whnf
       refine qf rfl ?_;conv=>whnf
       refine qf (by simp[Els.len]) ?_;conv=>whnf
       refine zo (decide_eq_true (by
        show((acc.map PEnt.cells).length+1)*40<=140737488355328;rw[List.length_map];omega)) ?_
       conv=>whnf
       refine qc (qa (by(try dsimp only);omega)) ?_;conv=>whnf
       refine⟨(acc ++ [y],n),⟨by rw[<- g1];simp,by simp;omega,by simp only;omega,g4,fun i0 k0 b0 y0 q1 q2 q3=>hno (P:=True) (fun _=>trivial) h5 i0 k0 b0 y0 q1 q2 q3⟩,(Wk.move 135 900002 rfl rfl).trans (Wk.sub ⟨rfl,rfl,rfl,rfl,rfl,rfl,rfl,rfl,trivial⟩ ⟨rfl,rfl,rfl,(by
        show some (Obj.box (.vv [.d (.str b.name),.d (i64 b.off.lo),.d (i64 b.off.hi),.d (i64 b.set.lo),.d (i64 b.set.hi),.sl 900002 4 0 ((acc.map PEnt.cells).length+1)]))=_;rw[List.length_map];simp),(by
        show some (Obj.arr 4 (.dd (acc.map PEnt.cells ++ [y.cells])))=_;simp),trivial⟩)⟩
     ·rintro ⟨acc,n⟩ ⟨g1,g2,g3,g4,g5⟩
      simp only at g1 g2 g3 g4 g5;have g1:acc=qbv b.ents 0 b.ents:=by rw[<- g1];simp[qbv]
      conv=>whnf
      refine qr hx ?_;conv=>whnf
      refine qg (fun h=>absurd h (by simp)) (fun _=>?_);conv=>whnf
      have hAl:(((l.books.take i).map qaM).map PBook.cells).length=i:=by simp;omega
      generalize hA:((l.books.take i).map qaM).map PBook.cells=A at hAl ⊢;refine qf rfl ?_;conv=>whnf
      refine qf (by show i=A.length;omega) ?_;conv=>whnf
      refine zo (by
       show(true && !jj 141 (List.flatten (qU A ++ [inj (hdC b) ++ [V.sl 900002 4 0 acc.length]])))=true;rw[qaw];rfl) ?_
      conv=>whnf
      refine zo (decide_eq_true (by
       show(A.length+1)*72<=140737488355328;omega)) ?_
      conv=>whnf
      refine qc (qa (by(try dsimp only);omega)) ?_;conv=>whnf
      have hA1:A ++ [(qaM b).cells]=(((l.books.take (i+1)).map qaM).map PBook.cells):=by rw[htk,<- hA];simp
      refine⟨n,⟨by omega,g4,fun i0 k0 b0 y0 h1 h2 h3=>g5 i0 k0 b0 y0 h1 h2 ?_⟩,(Wk.frzArr 1 [900002] 141 (sz:=6) (vs:=qU A ++ [inj (hdC b) ++ [V.sl 900002 4 0 acc.length]]) (ds:=A ++ [(qaM b).cells]) rfl (qav (qbb (qaD (a:=hdC b) (qx (qag (es':=(qbv b.ents 0 b.ents).map PEnt.cells) rfl (by rw[g1]) (by simp[g1])) rfl))) _)).trans ((Wk.move 141 900001 rfl rfl).trans (Wk.sub ⟨rfl,rfl,rfl,rfl,rfl,rfl,trivial⟩ ⟨rfl,(by
       show some (Obj.box (.vv [.d (i64 l.near),.sl 900001 6 0 (A.length+1)]))=_;rw[hAl]),(by
       show some (Obj.arr 6 (.dd (A ++ [(qaM b).cells])))=_;rw[hA1]),trivial⟩))⟩
      by_cases h4:i0=i
      ·subst h4
       have e1:=h1.book;rw[hx]at e1
       cases e1
       have e2:=(List.getElem?_eq_some_iff.1 h1.ent).1;exact .inr ⟨rfl,e2⟩
      ·exact .inl (by omega)
    ·rintro c ⟨hc8,hcC,hcO⟩
     rw[List.take_length];conv=>whnf
     refine qg (fun h=>absurd h (by simp)) (fun _=>?_);conv=>whnf
     have h36:FnV Tryz.prog 36 [qG M,qG M] (.bool true):=FnV.cast (qpA M M (by omega)) (by simp);have hcc:(0<c/\C ≠ [])\/(c=0/\C = []):=by
      by_cases hC:C = []
      ·exact .inr ⟨by
        rcases Nat.eq_zero_or_pos c with h | h
        ·exact h
        ·exact absurd hC (hcC h),hC⟩
      ·obtain⟨x,q,hq⟩:=List.exists_cons_of_ne_nil hC
       obtain⟨i0,k0,b0,y0,o1,o2,o3⟩:=hout (n:=x) (by rw[hq];simp);exact .inl ⟨hcO i0 k0 b0 y0 o1 ⟨o2,o3⟩ (List.getElem?_eq_some_iff.1 o1.book).1,hC⟩
     refine qaW (ds:=[(qbY l).d]) h37 1 [900001] (qx (qnU (qbY l) (by simp[qbY]) rfl) rfl) rfl ?_;conv=>whnf
     refine qe (ds:=[qG M,qG M]) h36 rfl rfl ?_;conv=>whnf
     rcases hcc with⟨hc1,hc2⟩ | ⟨hc1,hc2⟩
     ·obtain⟨x,q,rfl⟩:=List.exists_cons_of_ne_nil hc2
      refine qg (fun _=>?_) (fun h=>absurd h (by simp;omega));conv=>whnf
      refine qe (qov) rfl rfl ?_;conv=>whnf
      exact qb 0 rfl ⟨⟨rfl,rfl⟩,rfl⟩
     ·subst hc1 hc2
      conv=>whnf
      refine qe (qov) rfl rfl ?_;conv=>whnf
      exact qb 0 rfl ⟨⟨rfl,rfl⟩,rfl⟩
  ·refine qg (fun _=>?_) (fun h=>absurd h (by simp[hN]))
   conv=>whnf
   refine qh (r.length:Int) (by simp[hN]) (qa (by have:=congrArg List.length hN;simp at this;omega)) ?_;conv=>whnf
   refine qA [i64 T] (by simp[hN]) ?_;conv=>whnf
   refine zt (T:=tys) qi (by exact qd mixed qi (by decide +kernel)) (α:=Nat) (fun k=>⟨[(1,.ptr 1 0),(3,.d (qG M)),(4,.d (qG C)),(6,.d (qG N)),(7,.d (i64 T)),(8,.d (i64 (k+1)))],[(1,.box (.dd l.cells))],st⟩) (fun k=>(k:Int)<=T) (fun k=>T.toNat-k) 0 (Wk.sub ⟨rfl,rfl,rfl,rfl,rfl,rfl,trivial⟩ ⟨rfl,trivial⟩) (by simp;omega) ?_;rintro k hk;conv=>whnf
   refine qg (fun h=>?_) (fun h=>?_)
   ·have hk9:(k:Int)+1<=T:=by have:=of_decide_eq_true h;omega
    have hx:=hxor (n:=(k:Int)+1) (by omega) hk9;have c1:=fun {σ}=>@qow N ((k:Int)+1) (by omega) σ;have c2:=fun {σ}=>@qow M ((k:Int)+1) (by omega) σ;generalize decide ((k:Int)+1∈N)=B1 at hx c1;generalize decide ((k:Int)+1∈M)=B2 at hx c2;subst hx;conv=>whnf
    refine qe (ds:=[qG N,i64 ((k:Int)+1)]) c1 rfl rfl ?_;conv=>whnf
    refine qe (ds:=[qG M,i64 ((k:Int)+1)]) c2 rfl rfl ?_
    cases B1
    all_goals
     conv=>whnf
     refine qh (((k+1:Nat):Int)+1) (by omega) (qa (by omega)) ?_;conv=>whnf
     exact⟨k+1,by omega,by show((k+1:Nat):Int)<=T;omega,(Wk.sub (by repeat' first|exact trivial|refine⟨?_,?_⟩|rfl|(simp only[List.length_map];rfl)|simp[PX.get]) ⟨(by first | rfl | (simp only[List.length_map];rfl) | simp[PX.get]),trivial⟩)⟩
   ·have hk9:(k:Int)=T:=by have:=of_decide_eq_false h;omega
    conv=>whnf
    refine qh T (by simp;omega) (qa (by omega)) ?_;conv=>whnf
    refine qg (fun h=>absurd h (by simp)) (fun _=>?_);conv=>whnf
    refine zc (T:=tys) qi (by exact qd mixed qi (by decide +kernel)) l.books (fun i (c:Nat)=>⟨[(1,.ptr 1 0),(3,.d (qG M)),(4,.d (qG C)),(9,.ptr 9 0),(10,.d (i64 c)),(11,.d (i64 i))],[(1,.box (.dd l.cells)),(9,.box (.vv [.d (i64 l.near),.sl 900001 6 0 i])),(900001,.arr 6 (.dd (((l.books.take i).map qaM).map PBook.cells)))],st⟩)
     (fun i r c=>c<=8*i/\(0<c->C ≠ []) /\ ∀ (i0 k0:Nat) b0 y0,At l i0 k0 b0 y0->qlE b0.ents k0 y0->i0<i->0<c) 0 ((Wk.bornAtD 9 900001 6 [i64 l.near] [] rfl rfl rfl rfl rfl).trans (Wk.sub (by repeat' first|exact trivial|refine⟨?_,?_⟩|rfl|(simp only[List.length_map];rfl)|simp[PX.get]) (by repeat' first|exact trivial|refine⟨?_,?_⟩|rfl|(simp only[List.length_map];rfl)|simp[PX.get]))) ⟨by omega,fun h=>absurd h (by omega),fun _ _ _ _ _ _ h=>absurd h (by omega)⟩ ?_ ?_
    ·rintro i b r c hx hi hr ⟨hc8,hcC,hcO⟩
     have htk:l.books.take (i+1)=l.books.take i ++ [b]:=by rw[List.take_succ,hx];rfl
     have hbR:=hR.book b (List.mem_of_getElem? hx);have hel:=hbR.ents;conv=>whnf
     refine qg (fun _=>?_) (fun h=>absurd hi (by have:=of_decide_eq_false h;simp at this;omega));conv=>whnf
     refine qr hx ?_;conv=>whnf
     refine zc (T:=tys) qi (by exact qd mixed qi (by decide +kernel)) b.ents (fun k (a:List PEnt×Nat)=>⟨[(1,.ptr 1 0),(3,.d (qG M)),(4,.d (qG C)),(9,.ptr 9 0),(10,.d (i64 a.2)),(11,.d (i64 i)),(12,.ptr 12 0),(13,.d (i64 k))],[(1,.box (.dd l.cells)),(9,.box (.vv [.d (i64 l.near),.sl 900001 6 0 i])),(900001,.arr 6 (.dd (((l.books.take i).map qaM).map PBook.cells))),(12,.box (.vv [.d (.str b.name),.d (i64 b.off.lo),.d (i64 b.off.hi),.d (i64 b.set.lo),.d (i64 b.set.hi),.sl 900002 4 0 a.1.length])),(900002,.arr 4 (.dd (a.1.map PEnt.cells)))],st⟩)
      (fun k r2 a=>a.1++qbv b.ents k r2=qbv b.ents 0 b.ents/\a.1.length<=k/\a.2<=c+k/\(0<a.2->C ≠ []) /\ ∀ (i0 k0:Nat) b0 y0,At l i0 k0 b0 y0->qlE b0.ents k0 y0->(i0<i\/i0=i/\k0<k)->0<a.2) ([],c)
      ((Wk.bornAtD 12 900002 4 [.str b.name,i64 b.off.lo,i64 b.off.hi,i64 b.set.lo,i64 b.set.hi] [] rfl rfl rfl rfl rfl).trans (Wk.sub (by repeat' first|exact trivial|refine⟨?_,?_⟩|rfl|(simp only[List.length_map];rfl)|simp[PX.get]) (by repeat' first|exact trivial|refine⟨?_,?_⟩|rfl|(simp only[List.length_map];rfl)|simp[PX.get]))) ⟨rfl,by simp,by simp,hcC,fun i0 k0 b0 y0 h1 h2 h3=>hcO i0 k0 b0 y0 h1 h2 (by omega)⟩ ?_ ?_
     ·rintro k y r2 ⟨acc,n⟩ hy hk hr2 ⟨g1,g2,g3,g4,g5⟩
      simp only at g1 g2 g3 g4 g5;rw[qbv]at g1;have hyR:=hbR.ent y (List.mem_of_getElem? hy);conv=>whnf
      refine qr hx ?_;conv=>whnf
      refine qg (fun _=>?_) (fun h=>absurd hk (by have:=of_decide_eq_false h;simp at this;omega));conv=>whnf
      refine qr hx ?_;conv=>whnf
      refine qr hy ?_;conv=>whnf
      have hfl:=qlF hy;have hno:∀ {P:Prop},(0<n->P)->(¬ qlE b.ents k y) -> ∀ (i0 k0:Nat) b0 y0,At l i0 k0 b0 y0->qlE b0.ents k0 y0->(i0<i\/i0=i/\k0<k+1)->0<n:=by
       intro P _ hnot i0 k0 b0 y0 h1 h2 h3
       by_cases h4:i0=i/\k0=k
       ·obtain⟨rfl,rfl⟩:=h4
        have e1:=h1.book;rw[hx]at e1
        cases e1
        have e2:=h1.ent;rw[hy]at e2
        cases e2
        exact absurd h2 hnot
       ·exact g5 i0 k0 b0 y0 h1 h2 (by omega)
      refine qg (fun h4=>?_) (fun h4=>?_)
      ·have h4:y.kind=3:=of_decide_eq_true h4
       have hfl:=hfl h4;conv=>whnf
       refine qr hx ?_;conv=>whnf
       refine qv (ds:=[.agg b.cells,i64 y.number]) (qpF b y.number (by omega)) rfl rfl ?_;generalize qfo b y.number=FX at hfl;conv=>whnf
       refine qg (fun h5=>?_) (fun h5=>?_)
       ·have h5:qlE b.ents k y:=⟨h4,hfl.1 (of_decide_eq_true h5)⟩
        have hin:y.number∈C:=hleft ⟨hx,hy⟩ h4 h5.2;rw[if_pos ⟨h5.1,h5.2⟩]at g1;have c1:FnV Tryz.prog 57 [qG C,i64 y.number] (.bool true):=FnV.cast (qow C y.number (by omega)) (by rw[decide_eq_true hin]);conv=>whnf
        refine qh ((n+1:Nat):Int) (by rfl) (qa (by omega)) ?_;conv=>whnf
        refine qe (ds:=[qG C,i64 y.number]) c1 rfl rfl ?_;conv=>whnf
        refine qc (qa (by(try dsimp only);omega)) ?_;conv=>whnf
        exact⟨(acc,n+1),⟨g1,by simp only;omega,by simp only;omega,fun _ h=>(by rw[h]at hin;cases hin),fun _ _ _ _ _ _ _=>by simp only;omega⟩,(Wk.sub (by repeat' first|exact trivial|refine⟨?_,?_⟩|rfl|(simp only[List.length_map];rfl)|simp[PX.get]) (by repeat' first|exact trivial|refine⟨?_,?_⟩|rfl|(simp only[List.length_map];rfl)|simp[PX.get]))⟩
       ·have h5:¬ qlE b.ents k y:=fun h=>absurd (hfl.2 h.2) (of_decide_eq_false h5)
        rw[if_neg (fun h=>h5 ⟨h.1,h.2⟩)]at g1;conv=>whnf
        refine qf rfl ?_;conv=>whnf
        refine qf (by simp[Els.len]) ?_;conv=>whnf
        refine zo (decide_eq_true (by
         show((acc.map PEnt.cells).length+1)*40<=140737488355328;rw[List.length_map];omega)) ?_
        conv=>whnf
        refine qc (qa (by(try dsimp only);omega)) ?_;conv=>whnf
        refine⟨(acc ++ [y],n),⟨by rw[<- g1];simp,by simp;omega,by simp only;omega,g4,fun i0 k0 b0 y0 q1 q2 q3=>hno (P:=True) (fun _=>trivial) h5 i0 k0 b0 y0 q1 q2 q3⟩,(Wk.move 135 900002 rfl rfl).trans (Wk.sub ⟨rfl,rfl,rfl,rfl,rfl,rfl,rfl,rfl,trivial⟩ ⟨rfl,rfl,rfl,(by
         show some (Obj.box (.vv [.d (.str b.name),.d (i64 b.off.lo),.d (i64 b.off.hi),.d (i64 b.set.lo),.d (i64 b.set.hi),.sl 900002 4 0 ((acc.map PEnt.cells).length+1)]))=_;rw[List.length_map];simp),(by
         show some (Obj.arr 4 (.dd (acc.map PEnt.cells ++ [y.cells])))=_;simp),trivial⟩)⟩
      ·have h4:¬ y.kind=3:=of_decide_eq_false h4
       have h5:¬ qlE b.ents k y:=fun h=>h4 h.1;rw[if_neg (fun h=>h5 ⟨h.1,h.2⟩)]at g1;conv=>whnf
       refine qf rfl ?_;conv=>whnf
       refine qf (by simp[Els.len]) ?_;conv=>whnf
       refine zo (decide_eq_true (by
        show((acc.map PEnt.cells).length+1)*40<=140737488355328;rw[List.length_map];omega)) ?_
       conv=>whnf
       refine qc (qa (by(try dsimp only);omega)) ?_;conv=>whnf
       refine⟨(acc ++ [y],n),⟨by rw[<- g1];simp,by simp;omega,by simp only;omega,g4,fun i0 k0 b0 y0 q1 q2 q3=>hno (P:=True) (fun _=>trivial) h5 i0 k0 b0 y0 q1 q2 q3⟩,(Wk.move 135 900002 rfl rfl).trans (Wk.sub ⟨rfl,rfl,rfl,rfl,rfl,rfl,rfl,rfl,trivial⟩ ⟨rfl,rfl,rfl,(by
        show some (Obj.box (.vv [.d (.str b.name),.d (i64 b.off.lo),.d (i64 b.off.hi),.d (i64 b.set.lo),.d (i64 b.set.hi),.sl 900002 4 0 ((acc.map PEnt.cells).length+1)]))=_;rw[List.length_map];simp),(by
        show some (Obj.arr 4 (.dd (acc.map PEnt.cells ++ [y.cells])))=_;simp),trivial⟩)⟩
     ·rintro ⟨acc,n⟩ ⟨g1,g2,g3,g4,g5⟩
      simp only at g1 g2 g3 g4 g5;have g1:acc=qbv b.ents 0 b.ents:=by rw[<- g1];simp[qbv]
      conv=>whnf
      refine qr hx ?_;conv=>whnf
      refine qg (fun h=>absurd h (by simp)) (fun _=>?_);conv=>whnf
      have hAl:(((l.books.take i).map qaM).map PBook.cells).length=i:=by simp;omega
      generalize hA:((l.books.take i).map qaM).map PBook.cells=A at hAl ⊢;refine qf rfl ?_;conv=>whnf
      refine qf (by show i=A.length;omega) ?_;conv=>whnf
      refine zo (by
       show(true && !jj 141 (List.flatten (qU A ++ [inj (hdC b) ++ [V.sl 900002 4 0 acc.length]])))=true;rw[qaw];rfl) ?_
      conv=>whnf
      refine zo (decide_eq_true (by
       show(A.length+1)*72<=140737488355328;omega)) ?_
      conv=>whnf
      refine qc (qa (by(try dsimp only);omega)) ?_;conv=>whnf
      have hA1:A ++ [(qaM b).cells]=(((l.books.take (i+1)).map qaM).map PBook.cells):=by rw[htk,<- hA];simp
      refine⟨n,⟨by omega,g4,fun i0 k0 b0 y0 h1 h2 h3=>g5 i0 k0 b0 y0 h1 h2 ?_⟩,(Wk.frzArr 1 [900002] 141 (sz:=6) (vs:=qU A ++ [inj (hdC b) ++ [V.sl 900002 4 0 acc.length]]) (ds:=A ++ [(qaM b).cells]) rfl (qav (qbb (qaD (a:=hdC b) (qx (qag (es':=(qbv b.ents 0 b.ents).map PEnt.cells) rfl (by rw[g1]) (by simp[g1])) rfl))) _)).trans ((Wk.move 141 900001 rfl rfl).trans (Wk.sub ⟨rfl,rfl,rfl,rfl,rfl,rfl,trivial⟩ ⟨rfl,(by
       show some (Obj.box (.vv [.d (i64 l.near),.sl 900001 6 0 (A.length+1)]))=_;rw[hAl]),(by
       show some (Obj.arr 6 (.dd (A ++ [(qaM b).cells])))=_;rw[hA1]),trivial⟩))⟩
      by_cases h4:i0=i
      ·subst h4
       have e1:=h1.book;rw[hx]at e1
       cases e1
       have e2:=(List.getElem?_eq_some_iff.1 h1.ent).1;exact .inr ⟨rfl,e2⟩
      ·exact .inl (by omega)
    ·rintro c ⟨hc8,hcC,hcO⟩
     rw[List.take_length];conv=>whnf
     refine qg (fun h=>absurd h (by simp)) (fun _=>?_);conv=>whnf
     have h36:FnV Tryz.prog 36 [qG M,qG M] (.bool true):=FnV.cast (qpA M M (by omega)) (by simp);have hcc:(0<c/\C ≠ [])\/(c=0/\C = []):=by
      by_cases hC:C = []
      ·exact .inr ⟨by
        rcases Nat.eq_zero_or_pos c with h | h
        ·exact h
        ·exact absurd hC (hcC h),hC⟩
      ·obtain⟨x,q,hq⟩:=List.exists_cons_of_ne_nil hC
       obtain⟨i0,k0,b0,y0,o1,o2,o3⟩:=hout (n:=x) (by rw[hq];simp);exact .inl ⟨hcO i0 k0 b0 y0 o1 ⟨o2,o3⟩ (List.getElem?_eq_some_iff.1 o1.book).1,hC⟩
     refine qaW (ds:=[(qbY l).d]) h37 1 [900001] (qx (qnU (qbY l) (by simp[qbY]) rfl) rfl) rfl ?_;conv=>whnf
     refine qe (ds:=[qG M,qG M]) h36 rfl rfl ?_;conv=>whnf
     rcases hcc with⟨hc1,hc2⟩ | ⟨hc1,hc2⟩
     ·obtain⟨x,q,rfl⟩:=List.exists_cons_of_ne_nil hc2
      refine qg (fun _=>?_) (fun h=>absurd h (by simp;omega));conv=>whnf
      refine qe (qov) rfl rfl ?_;conv=>whnf
      exact qb 0 rfl ⟨⟨rfl,rfl⟩,rfl⟩
     ·subst hc1 hc2
      conv=>whnf
      refine qe (qov) rfl rfl ?_;conv=>whnf
      exact qb 0 rfl ⟨⟨rfl,rfl⟩,rfl⟩
end Go.PX
