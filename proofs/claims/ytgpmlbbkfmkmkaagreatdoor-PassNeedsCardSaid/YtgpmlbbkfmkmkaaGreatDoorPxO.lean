import Derived.Test.YtgpmlbbkfmkmkaaGreatDoorPxM
import Derived.Test.YtgpmlbbkfmkmkaaGreatDoorPxK
import Derived.Test.YtgpmlbbkfmkmkaaGreatDoorPxN
import Derived.Test.YtgpmlbbkfmkmkaaGreatDoorPxJ
import Derived.RecoverIn
import Derived.Recover
import Derived.Tactics
import Derived.Tactics2
set_option linter.all false
set_option maxRecDepth 10000
namespace Go.PX
open Go.Proofs
def nearW:ByteArray:=⟨#[110,101,97,114]⟩
def bookW:ByteArray:=⟨#[98,111,111,107]⟩
def passW:ByteArray:=⟨#[112,97,115,115]⟩
def setW:ByteArray:=⟨#[115,101,116]⟩
def reportW:ByteArray:=⟨#[114,101,112,111,114,116]⟩
def qfH(b:PBook):List Wd:=[.s bookW,.s b.name,.n b.off.lo,.n b.off.hi,.n b.set.lo,.n b.set.hi]
def qiy(x:PEnt):List Wd:=
 if x.kind=1 then [.s passW,.n x.shown,.s x.word] else if x.kind=2 then [.s setW,.n x.shown] else [.s reportW,.n x.shown,.s x.word,.n x.number]
def qnH:List PEnt->ByteArray
 | []=>.empty
 | y::r=>rowT (qiy y)++qnH r
def qvP(b:PBook):ByteArray:=rowT (qfH b)++qnH b.ents
def qfI:List PBook->ByteArray
 | []=>.empty
 | b::r=>qvP b++qfI r
def qqD(l:PLog):ByteArray:=rowT [.s nearW,.n l.near]++qfI l.books
theorem qyz(w:ByteArray):FnU Tryz.prog 187 [.d (.agg [.str w])] [] fun v h'=>v = .sl 2000000 1 0 3/\h' = [(2000000,.arr 1 (.dd [[.ifc 9 (.str passW)],[.nili],[.ifc 9 (.str w)]]))]:=by
 intro σ Y st;refine qaT mixed qm Tryz.func187 rfl (ft:=qwH) (args:=[.d (.agg [.str w])]) (show fnB qwH Tryz.f187 1=true from by decide +kernel) ?_;conv=>whnf
 exact qA [7] [.sl 2000000 1 0 3] [(2000000,.arr 1 (.dd [[.ifc 9 (.str passW)],[.nili],[.ifc 9 (.str w)]]))] rfl ⟨rfl,trivial⟩ rfl ⟨⟨rfl,rfl⟩,rfl⟩
theorem qyA:FnU Tryz.prog 189 [.d (.agg [])] [] fun v h'=>v = .sl 2000000 1 0 2/\h' = [(2000000,.arr 1 (.dd [[.ifc 9 (.str setW)],[.nili]]))]:=by
 intro σ Y st;refine qaT mixed qm Tryz.func189 rfl (ft:=qwJ) (args:=[.d (.agg [])]) (show fnB qwJ Tryz.f189 1=true from by decide +kernel) ?_;conv=>whnf
 exact qA [4] [.sl 2000000 1 0 2] [(2000000,.arr 1 (.dd [[.ifc 9 (.str setW)],[.nili]]))] rfl ⟨rfl,trivial⟩ rfl ⟨⟨rfl,rfl⟩,rfl⟩
theorem qyB(w:ByteArray)(n:Int):FnU Tryz.prog 188 [.d (.agg [.str w,i64 n])] [] fun v h'=>v = .sl 2000000 1 0 4/\h' = [(2000000,.arr 1 (.dd [[.ifc 9 (.str reportW)],[.nili],[.ifc 9 (.str w)],[.ifc 3 (i64 n)]]))]:=by
 intro σ Y st;refine qaT mixed qm Tryz.func188 rfl (ft:=qwI) (args:=[.d (.agg [.str w,i64 n])]) (show fnB qwI Tryz.f188 1=true from by decide +kernel) ?_;conv=>whnf
 exact qA [10] [.sl 2000000 1 0 4] [(2000000,.arr 1 (.dd [[.ifc 9 (.str reportW)],[.nili],[.ifc 9 (.str w)],[.ifc 3 (i64 n)]]))] rfl ⟨rfl,trivial⟩ rfl ⟨⟨rfl,rfl⟩,rfl⟩
structure NmL(l:PLog):Prop where
 name:∀ b∈l.books,b.name.size<=1000
 word:∀ b∈l.books,∀ x∈b.ents,x.word.size<=1000
theorem qkO{l:List Wd}(h:∀ w∈l,qmp w)(hl:l.length<=10):(rowT l).size<=11011:=by
 rw[rowT,zj];have h1:nlB.size=1:=rfl
 cases l with
 | nil=>show(0:Nat)+1<=_;omega
 | cons w r=>
  have h2:=qeW (h w (List.mem_cons_self ..));have h3:=qfG fun x hx=>h x (List.mem_cons_of_mem w hx);rw[qfF,zj];rw[List.length_cons]at hl;omega
theorem qmr{b:PBook}(h:BookR b)(hn:b.name.size<=1000):∀ w∈qfH b,qmp w:=by
 intro w hw;have ho:=h.off;have hs:=h.set;simp only[qfH,List.mem_cons,List.not_mem_nil,or_false]at hw;rcases hw with rfl|rfl|rfl|rfl|rfl|rfl
 ·show bookW.size<=1000;decide
 ·exact hn
 ·unfold qmp;omega
 ·unfold qmp;omega
 ·unfold qmp;omega
 ·unfold qmp;omega
theorem qpa{x:PEnt}(h:(0<=x.shown/\x.shown<=20000)/\(1<=x.kind/\x.kind<=3)/\(0<=x.number/\x.number<=99))(hn:x.word.size<=1000):∀ w∈qiy x,qmp w:=by
 intro w hw;unfold qiy at hw;split at hw
 ·simp only[List.mem_cons,List.not_mem_nil,or_false]at hw
  rcases hw with rfl|rfl|rfl
  ·show passW.size<=1000;decide
  ·unfold qmp;omega
  ·exact hn
 ·split at hw
  ·simp only[List.mem_cons,List.not_mem_nil,or_false]at hw
   rcases hw with rfl|rfl
   ·show setW.size<=1000;decide
   ·unfold qmp;omega
  ·simp only[List.mem_cons,List.not_mem_nil,or_false]at hw
   rcases hw with rfl|rfl|rfl|rfl
   ·show reportW.size<=1000;decide
   ·unfold qmp;omega
   ·exact hn
   ·unfold qmp;omega
theorem qsm(y:PEnt):(qiy y).length<=10:=by
 unfold qiy;split
 ·simp
 ·split<;>simp
theorem qjG:∀ {r:List PEnt},(∀ x∈r,((0<=x.shown/\x.shown<=20000)/\(1<=x.kind/\x.kind<=3)/\(0<=x.number/\x.number<=99))/\x.word.size<=1000)->(qnH r).size<=11011*r.length
 | [],_=>Nat.zero_le _
 | y::r,h=>by
  have h1:=qjG (r:=r) fun x hx=>h x (List.mem_cons_of_mem _ hx);obtain⟨h2,h3⟩:=h y (List.mem_cons_self ..);have h4:=qkO (qpa h2 h3) (qsm y);rw[qnH,zj,List.length_cons];omega
theorem qiz:∀ {r:List PBook},(∀ b∈r,BookR b/\b.name.size<=1000 /\ ∀ x∈b.ents,x.word.size<=1000)->(qfI r).size<=100000*r.length
 | [],_=>Nat.zero_le _
 | b::r,h=>by
  have h1:=qiz (r:=r) fun x hx=>h x (List.mem_cons_of_mem _ hx);obtain⟨h2,h3,h4⟩:=h b (List.mem_cons_self ..);have h5:=qkO (qmr h2 h3) (by simp[qfH]);have h6:=qjG (r:=b.ents) fun x hx=>⟨h2.ent x hx,h4 x hx⟩;have h7:=h2.ents;rw[qfI,qvP,zj,zj,List.length_cons];omega
theorem qsn{l:PLog}(hR:LogR l)(hN:NmL l):(qqD l).size<=400000:=by
 have h1:=qiz (r:=l.books) fun b hb=>⟨hR.book b hb,hN.name b hb,hN.word b hb⟩;have h2:=hR.near;have h3:=hR.books;have h4:=qkO (l:=[.s nearW,.n l.near]) (by
  intro w hw;simp only[List.mem_cons,List.not_mem_nil,or_false]at hw;rcases hw with rfl|rfl
  ·show nearW.size<=1000;decide
  ·unfold qmp;omega) (by simp)
 rw[qqD,zj];omega
set_option maxHeartbeats 4000000 in
theorem qyC(l:PLog)(hR:LogR l)(hN:NmL l):FnV Tryz.prog 91 [l.d] (.str (qqD l)):=by
 refine qJ mixed qm Tryz.func91 rfl (ft:=qAn) 1 (by decide +kernel) (by rfl) fun {σ} Y st=>?_;conv=>whnf
 have hnr:=hR.near;refine qcP 1 [16] (args':=[.d (qpZ [.s nearW,.n l.near]),.ptr 3 0]) (by
  show [_,_]=_;rfl) rfl ?_
 refine qT (qsg nearW (by decide) [.n l.near] (by simp) (by
  intro w hw;simp only[List.mem_cons,List.not_mem_nil,or_false]at hw;rcases hw with rfl|rfl
  ·show nearW.size<=1000;decide
  ·unfold qmp;omega)) [3] rfl ⟨_,_,rfl,rfl,rfl⟩ rfl ?_
 conv=>whnf
 have hTS:=qsn hR hN;have hbl:=hR.books;generalize hT:qqD l=T at hTS;have hT0:rowT [.s nearW,.n l.near]++qfI l.books=T:=hT;have hr0:0<(rowT [.s nearW,.n l.near]).size:=by rw[rowT,zj];have:nlB.size=1:=rfl;omega
 refine zd (T:=tys) qm (by exact qg mixed qm (by decide +kernel)) l.books (fun i (acc:ByteArray)=>⟨[(3,.ptr 3 0),(4,.clo 117 [.ptr 3 0]),(19,.d (qS l.books)),(20,.d (i64 l.books.length)),(21,.d (i64 i))],qgT 3 900000 acc,st⟩) (fun i r acc=>acc++qfI r=T/\0<acc.size) (rowT [.s nearW,.n l.near]) ?_ ⟨hT0,hr0⟩ ?_ ?_
 ·exact(Wk.move 101088 900000 rfl rfl).trans (Wk.sub (by repeat' first|constructor|(simp only[List.length_map];rfl)|simp[PX.get]) (by repeat' first|constructor|(simp only[List.length_map];rfl)|simp[PX.get]))
 ·rintro i b r acc hb hi hr ⟨hacc,ha⟩
  have hB:=hR.book b (List.mem_of_getElem? hb);have hbe:=hB.ents;have hbn:=hN.name b (List.mem_of_getElem? hb);have hwn:=hN.word b (List.mem_of_getElem? hb);have hasz:acc.size<=T.size:=by rw[<- hacc,zj];omega
  rw[qfI,qvP,qal]at hacc;conv=>whnf
  refine qj (fun _=>?_) (fun h=>absurd hi (by simpa using h));conv=>whnf
  refine qt hb ?_;conv=>whnf
  refine qcP 1 [46] (args':=[.d (qpZ (qfH b)),.ptr 3 0]) (by
   show [_,_]=_;rfl) rfl ?_
  refine qT (qtU acc ha (qfH b) (by simp[qfH]) (qmr hB hbn) (by omega) (by simp[qfH])) [3,900000] rfl ⟨_,_,rfl,rfl,_,_,rfl,rfl,rfl⟩ rfl ?_;conv=>whnf
  refine zd (T:=tys) qm (by exact qg mixed qm (by decide +kernel)) b.ents (fun k (acc:ByteArray)=>⟨[(3,.ptr 3 0),(4,.clo 117 [.ptr 3 0]),(19,.d (qS l.books)),(20,.d (i64 l.books.length)),(21,.d (i64 i)),(49,.d (qeS b.ents)),(50,.d (i64 b.ents.length)),(51,.d (i64 k))],qgT 3 900000 acc,st⟩) (fun k q acc=>acc++(qnH q++qfI r)=T/\0<acc.size) (acc++rowT (qfH b)) ?_ ⟨by rw[qal];exact hacc,by rw[zj];omega⟩ ?_ ?_
  ·exact(Wk.move 103008 900000 rfl rfl).trans (Wk.sub (by repeat' first|constructor|(simp only[List.length_map];rfl)|simp[PX.get]) (by repeat' first|constructor|(simp only[List.length_map];rfl)|simp[PX.get]))
  ·rintro k y q acc hy hk hq ⟨hacc,ha⟩
   have hyR:=hB.ent y (List.mem_of_getElem? hy);have hyw:=hwn y (List.mem_of_getElem? hy);have hwok:=qpa hyR hyw;have hasz:acc.size<=T.size:=by rw[<- hacc,zj];omega
   rw[qnH,qal]at hacc;conv=>whnf
   refine qj (fun _=>?_) (fun h=>absurd hk (by simpa using h));conv=>whnf
   refine qt hy ?_;conv=>whnf
   refine qk (qsU y) rfl rfl ?_;by_cases h1:y.kind=1
   ·have ht:zk y = .ifc 138 (.agg [.str y.word]):=by unfold zk;rw[if_pos h1]
    have he:qiy y = [.s passW,.n y.shown,.s y.word]:=by unfold qiy;rw[if_pos h1]
    rw[ht];rw[he]at hacc hwok;conv=>whnf
    refine qrM 187 (by decide +kernel) ?_;refine qT (qyz y.word) [] rfl rfl rfl ?_;conv=>whnf
    refine qcP 1 [103648] (args':=[.d (qpZ [.s passW,.n y.shown,.s y.word]),.ptr 3 0]) (by
     show [_,_]=_;rfl) rfl ?_
    refine qT (qtU acc ha [.s passW,.n y.shown,.s y.word] (by simp) hwok (by omega) (by simp)) [3,900000] rfl ⟨_,_,rfl,rfl,_,_,rfl,rfl,rfl⟩ rfl ?_;conv=>whnf
    refine qe (qb (by(try dsimp only);omega)) ?_;conv=>whnf
    exact⟨acc++rowT [.s passW,.n y.shown,.s y.word],⟨by rw[qal];exact hacc,by rw[zj];omega⟩,(Wk.move 104160 900000 rfl rfl).trans (Wk.sub (by repeat' first|constructor|(simp only[List.length_map];rfl)|simp[PX.get]) (by repeat' first|constructor|(simp only[List.length_map];rfl)|simp[PX.get]))⟩
   ·by_cases h2:y.kind=2
    ·have ht:zk y = .ifc 175 (.agg []):=by unfold zk;rw[if_neg h1,if_pos h2]
     have he:qiy y = [.s setW,.n y.shown]:=by unfold qiy;rw[if_neg h1,if_pos h2]
     rw[ht];rw[he]at hacc hwok;conv=>whnf
     refine qrM 189 (by decide +kernel) ?_;refine qT (qyA) [] rfl rfl rfl ?_;conv=>whnf
     refine qcP 1 [103648] (args':=[.d (qpZ [.s setW,.n y.shown]),.ptr 3 0]) (by
      show [_,_]=_;rfl) rfl ?_
     refine qT (qtU acc ha [.s setW,.n y.shown] (by simp) hwok (by omega) (by simp)) [3,900000] rfl ⟨_,_,rfl,rfl,_,_,rfl,rfl,rfl⟩ rfl ?_;conv=>whnf
     refine qe (qb (by(try dsimp only);omega)) ?_;conv=>whnf
     exact⟨acc++rowT [.s setW,.n y.shown],⟨by rw[qal];exact hacc,by rw[zj];omega⟩,(Wk.move 104160 900000 rfl rfl).trans (Wk.sub (by repeat' first|constructor|(simp only[List.length_map];rfl)|simp[PX.get]) (by repeat' first|constructor|(simp only[List.length_map];rfl)|simp[PX.get]))⟩
    ·have ht:zk y = .ifc 156 (.agg [.str y.word,i64 y.number]):=by unfold zk;rw[if_neg h1,if_neg h2,if_pos (by omega)]
     have he:qiy y = [.s reportW,.n y.shown,.s y.word,.n y.number]:=by unfold qiy;rw[if_neg h1,if_neg h2]
     rw[ht];rw[he]at hacc hwok;conv=>whnf
     refine qrM 188 (by decide +kernel) ?_;refine qT (qyB y.word y.number) [] rfl rfl rfl ?_;conv=>whnf
     refine qcP 1 [103648] (args':=[.d (qpZ [.s reportW,.n y.shown,.s y.word,.n y.number]),.ptr 3 0]) (by
      show [_,_]=_;rfl) rfl ?_
     refine qT (qtU acc ha [.s reportW,.n y.shown,.s y.word,.n y.number] (by simp) hwok (by omega) (by simp)) [3,900000] rfl ⟨_,_,rfl,rfl,_,_,rfl,rfl,rfl⟩ rfl ?_;conv=>whnf
     refine qe (qb (by(try dsimp only);omega)) ?_;conv=>whnf
     exact⟨acc++rowT [.s reportW,.n y.shown,.s y.word,.n y.number],⟨by rw[qal];exact hacc,by rw[zj];omega⟩,(Wk.move 104160 900000 rfl rfl).trans (Wk.sub (by repeat' first|constructor|(simp only[List.length_map];rfl)|simp[PX.get]) (by repeat' first|constructor|(simp only[List.length_map];rfl)|simp[PX.get]))⟩
  ·rintro acc ⟨hacc,ha⟩
   rw[qnH]at hacc;conv=>whnf
   refine qj (fun h=>absurd h (by simp)) (fun _=>?_);conv=>whnf
   refine qe (qb (by(try dsimp only);omega)) ?_;conv=>whnf
   exact⟨acc,⟨by rw[<- hacc];simp,ha⟩,(Wk.sub (by repeat' first|constructor|(simp only[List.length_map];rfl)|simp[PX.get]) (by repeat' first|constructor|(simp only[List.length_map];rfl)|simp[PX.get]))⟩
 ·rintro acc ⟨hacc,ha⟩
  rw[qfI,qxb]at hacc;subst hacc;conv=>whnf
  refine qj (fun h=>absurd h (by simp)) (fun _=>?_);conv=>whnf
  refine qT (qyu acc ha (by omega)) [3,900000] rfl ⟨_,_,rfl,rfl,_,_,rfl,rfl,rfl⟩ rfl ?_;conv=>whnf
  exact qc 0 rfl ⟨⟨rfl,rfl⟩,rfl⟩
theorem qeX{s:ByteArray}(h:qaO s=true):s.size<=1000:=by
 unfold qaO at h;rw[Bool.and_eq_true,qrX]at h;omega
theorem qkP{l:PLog}(h:qE l=0):NmL l:=by
 obtain⟨_,_,h3⟩:=qfE.1 h;refine⟨fun b hb=>?_,fun b hb x hx=>?_⟩
 ·obtain⟨k,hk⟩:=List.getElem?_of_mem hb
  exact qeX (qis.1 (h3 k b hk).1).name
 ·have hE:=(qcR h hb).2.2.2 x hx
  by_cases h1:x.kind=1
  ·exact qeX (hE.pass h1).1
  ·by_cases h2:x.kind=2
   ·rw[(hE.set h2).1];decide
   ·exact qeX (hE.rep (by have:=hE.kind;omega)).1
def qpb(l:PLog):ByteArray×Int:=if qE l=0 then (qqD l,0) else (.empty,qE l)
theorem qAF(l:PLog):FnV Tryz.prog 39 [l.d] (.tup [.str (qpb l).1,i64 (qpb l).2]):=by
 unfold qpb;refine qJ mixed qm Tryz.func39 rfl (ft:=qzG) 1 (by decide +kernel) (by rfl) fun {σ} Y st=>?_;conv=>whnf
 by_cases hc:qE l=0
 ·rw[if_pos hc]
  have hR:=zK hc;refine qk (qev l 0 0 0 (qcb hc)) rfl rfl ?_;conv=>whnf
  refine qk (qyC l hR (qkP hc)) rfl rfl ?_;conv=>whnf
  exact qc 0 rfl ⟨⟨rfl,rfl⟩,rfl⟩
 ·rw[if_neg hc]
  refine qk (qev l _ _ _ (qcd l)) rfl rfl ?_;conv=>whnf
  generalize qE l=E at hc;refine qj (fun _=>?_) (fun h=>absurd hc (by simpa using h));conv=>whnf
  exact qc 0 rfl ⟨⟨rfl,rfl⟩,rfl⟩
end Go.PX
namespace Go.PX
open Go.Proofs
open Go.RowKit
theorem qgV{σ:Type}{Y:Hd σ}{e:Env}{h:Heap}{s:σ}{d:Option Nat}{x:ByteArray}{K:St σ->Prop}(hx:x.size<=1000000000)
  (ht:∀ n,jV x=some n->qP (zN [] d (.d (i64 n)) []) e h fun e h=>K ⟨e,h,s⟩) (hf:jV x=none->qP (zN [] d (.d (.tup [])) []) e h fun e h=>Y.p qkL (qwZ d e) h s) (hd:qbU [] d (.d (.tup [])) []=true) (hd2:∀ n,qbU [] d (.d (i64 n)) []=true):CallA Tryz.prog Y ⟨e,h,s⟩ d 97 [.d (.str x)] K:=by
 refine qiw (qze x hx Y s) [] rfl rfl rfl rfl ?_ ?_
 ·rintro v h1 s' ⟨⟨n,hn,rfl,rfl⟩,rfl⟩
  exact⟨hd2 n,ht n hn⟩
 ·rintro pv h1 s' ⟨⟨hn,rfl,rfl⟩,rfl⟩
  exact⟨hd,hf hn⟩
def qvQ(e:PEnt):List PBook->List PBook
 | []=>[]
 | [b]=>[{ b with ents:=b.ents ++ [e] }]
 | b::c::r=>b::qvQ e (c::r)
theorem qms(e:PEnt):∀ (init:List PBook) (last:PBook),qvQ e (init ++ [last])=init ++ [{ last with ents:=last.ents ++ [e] }]
 | [],last=>rfl
 | [a],last=>rfl
 | a::b::r,last=>by
  show a::qvQ e (b::r ++ [last])=_;rw[qms e (b::r) last];rfl
def four(a b c d:ByteArray):Option (Int×Int×Int×Int):=match jV a with
 | none=>none
 | some a=>match jV b with
  | none=>none
  | some b=>match jV c with
   | none=>none
   | some c=>match jV d with
    | none=>none
    | some d=>some (a,b,c,d)
def qcS(r:List ByteArray):Option PBook:=match r with
 | [n,a,b,c,d]=>(four a b c d).map fun x=>⟨n,⟨x.1,x.2.1⟩,⟨x.2.2.1,x.2.2.2⟩,[]⟩
 | _=>none
theorem qjH{r:List ByteArray}(h:¬ r.length=5):qcS r=none:=by
 unfold qcS;split
 ·exact absurd rfl h
 ·rfl
def qmQ(h:ByteArray)(r:List ByteArray):Option PEnt:=match r with
 | []=>none
 | s::q=>match jV s with
  | none=>none
  | some t=>
   if h=passW then (match q with
    | [x]=>some ⟨t,1,x,0⟩
    | _=>none)
   else if h=setW then (match q with
    | []=>some ⟨t,2,.empty,0⟩
    | _=>none)
   else if h=reportW then (match q with
    | [x,n]=>(jV n).map fun k=>⟨t,3,x,k⟩
    | _=>none)
   else none
def qew(l:PLog)(w:List ByteArray):Option PLog:=match w with
 | []=>none
 | h::r=>
  if h=bookW then (qcS r).map fun b=>{ l with books:=l.books ++ [b] }
  else if l.books = [] then none else (qmQ h r).map fun e=>{ l with books:=qvQ e l.books }
theorem zC(l:PLog)(h:ByteArray)(r:List ByteArray):qew l (h::r)=if h=bookW then (qcS r).map fun b=>{ l with books:=l.books ++ [b] }
  else if l.books = [] then none else (qmQ h r).map fun e=>{ l with books:=qvQ e l.books }:=rfl
def hdC(b:PBook):List D:=[.str b.name,i64 b.off.lo,i64 b.off.hi,i64 b.set.lo,i64 b.set.hi]
def qwp(b:PBook):List D:=hdC b ++ [.nils]
def lg0(near:Int):Heap:=[(1000000,.box (.vv [.d (i64 near),.sl 1000001 6 0 0])),(1000001,.arr 6 (.dd []))]
def lg1(b i j:Nat)(near:Int)(init:List PBook)(last:PBook):Heap:=
 [(b,.box (.vv [.d (i64 near),.sl i 6 0 (init.length+1)])),(i,.arr 6 (.vv (ze (init.map PBook.cells) ++ [inj (hdC last) ++ [.sl j 4 0 last.ents.length]]))),(j,.arr 4 (.dd (last.ents.map PEnt.cells)))]
def lgB(near:Int)(bs:List PBook)(new:PBook):Heap:=
 [(1000000,.box (.vv [.d (i64 near),.sl 2000000 6 0 (bs.length+1)])),(2000000,.arr 6 (.dd (bs.map PBook.cells ++ [qwp new])))]
theorem zG(R:Nat->Nat)(A:List (List D))(last:PBook)(j n:Nat):qgE R (.arr 6 (.vv (ze A ++ [inj (hdC last) ++ [.sl j 4 0 n]]))) = .arr 6 (.vv (ze A ++ [inj (hdC last) ++ [.sl (R j) 4 0 n]])):=by
 show Obj.arr 6 (.vv (qr (qlJ R) _))=_;rw[qp];rfl
theorem qqb{g:Nat->Option DO}{v u:List V}{d c:List D}(h:zY g v=some d)(h2:zY g u=some c):qaA g [v,u]=some [d,c]:=by
 rw[qaA,h,qeo h2]
theorem qyD(near:Int)(w:List ByteArray)(hw:w ≠ [])(hs:∀ x∈w,x.size<=1000000)(hl:w.length<=1000000) :
  qwo Tryz.prog 98 [.ptr 1000000 0,.d (qcQ w)] (lg0 near) (fun v h'=>∃ h r b,w=h::r/\h=bookW/\qcS r=some b/\v = .d (.tup [])/\h'=lgB near [] b) (fun pv h'=>qew ⟨near,[]⟩ w=none/\pv=qkL/\h'=lg0 near):=by
 intro σ Y st;refine qmo mixed qm Tryz.func98 rfl (ft:=ft98) (args:=[.ptr 1000000 0,.d (qcQ w)]) (show fnB ft98 Tryz.f98 2=true from by decide +kernel) ?_
 match w,hw with
 | h::r,_=>
 conv=>whnf
 refine qj (fun h1=>?_) (fun h1=>?_)
 ·have h1:h=bookW:=of_decide_eq_true h1
  conv=>whnf
  refine qan rfl (fun h2=>?_) (fun h2=>?_)
  ·have h2:r.length=5:=by
    have:=of_decide_eq_true h2;simp at this;omega
   match r,h2 with
   | [n,a,b,c,d],_=>
   conv=>whnf
   refine zI (T:=tys) qm (by exact qg mixed qm (by decide +kernel)) (α:=Nat×(Int×Int×Int×Int)) (fun z=>⟨[(0,.ptr 1000000 0),(1,.d (qcQ [h,n,a,b,c,d])),(4,.ptr 4 0),(29,.sl 29 1 0 4),(30,.d (i64 4)),(31,.d (i64 z.1))],(29,.arr 1 (.vv [[.ptr 4 1],[.ptr 4 2],[.ptr 4 3],[.ptr 4 4]]))::(4,.box (.dd [.str n,i64 z.2.1,i64 z.2.2.1,i64 z.2.2.2.1,i64 z.2.2.2.2,.nils]))::lg0 near,st⟩) (fun z=>z.1<=4/\(1<=z.1->jV a=some z.2.1)/\(2<=z.1->jV b=some z.2.2.1)/\(3<=z.1->jV c=some z.2.2.2.1)/\(4<=z.1->jV d=some z.2.2.2.2)) (fun z=>4-z.1) (0,(0,0,0,0)) (Wk.sub (by repeat' first|constructor|(simp only[List.length_map];rfl)|simp[PX.get]) (by repeat' first|constructor|(simp only[List.length_map];rfl)|simp[PX.get])) ⟨by simp,by simp,by simp,by simp,by simp⟩ ?_;rintro ⟨i,x0,x1,x2,x3⟩ ⟨hi,ha,hb,hc,hd⟩;simp only at hi ha hb hc hd;obtain rfl|rfl|rfl|rfl|rfl:i=0\/i=1\/i=2\/i=3\/i=4:=by omega
   ·have hsz:ByteArray.size a<=1000000000:=by have:=hs a (by simp);omega
    conv=>whnf
    refine qn (2) (by simp) (qb (by omega)) ?_;conv=>whnf
    refine qgV hsz (fun k hk=>?_) (fun hk=>?_) rfl (by intro k;rfl)
    ·conv=>whnf
     exact⟨(1,(k,x1,x2,x3)),by simp only;omega,⟨by simp only;omega,by simp_all⟩,(Wk.sub (by repeat' first|constructor|(simp only[List.length_map];rfl)|simp[PX.get]) (by repeat' first|constructor|(simp only[List.length_map];rfl)|simp[PX.get]))⟩
    ·conv=>whnf
     refine qA [] [] (lg0 near) rfl ⟨rfl,rfl,trivial⟩ rfl ⟨⟨?_,rfl,rfl⟩,rfl⟩;rw[zC,if_pos h1];unfold qcS four;simp_all
   ·have hsz:ByteArray.size b<=1000000000:=by have:=hs b (by simp);omega
    conv=>whnf
    refine qn (3) (by simp) (qb (by omega)) ?_;conv=>whnf
    refine qgV hsz (fun k hk=>?_) (fun hk=>?_) rfl (by intro k;rfl)
    ·conv=>whnf
     exact⟨(2,(x0,k,x2,x3)),by simp only;omega,⟨by simp only;omega,by simp_all⟩,(Wk.sub (by repeat' first|constructor|(simp only[List.length_map];rfl)|simp[PX.get]) (by repeat' first|constructor|(simp only[List.length_map];rfl)|simp[PX.get]))⟩
    ·conv=>whnf
     refine qA [] [] (lg0 near) rfl ⟨rfl,rfl,trivial⟩ rfl ⟨⟨?_,rfl,rfl⟩,rfl⟩;rw[zC,if_pos h1];unfold qcS four;simp_all
   ·have hsz:ByteArray.size c<=1000000000:=by have:=hs c (by simp);omega
    conv=>whnf
    refine qn (4) (by simp) (qb (by omega)) ?_;conv=>whnf
    refine qgV hsz (fun k hk=>?_) (fun hk=>?_) rfl (by intro k;rfl)
    ·conv=>whnf
     exact⟨(3,(x0,x1,k,x3)),by simp only;omega,⟨by simp only;omega,by simp_all⟩,(Wk.sub (by repeat' first|constructor|(simp only[List.length_map];rfl)|simp[PX.get]) (by repeat' first|constructor|(simp only[List.length_map];rfl)|simp[PX.get]))⟩
    ·conv=>whnf
     refine qA [] [] (lg0 near) rfl ⟨rfl,rfl,trivial⟩ rfl ⟨⟨?_,rfl,rfl⟩,rfl⟩;rw[zC,if_pos h1];unfold qcS four;simp_all
   ·have hsz:ByteArray.size d<=1000000000:=by have:=hs d (by simp);omega
    conv=>whnf
    refine qn (5) (by simp) (qb (by omega)) ?_;conv=>whnf
    refine qgV hsz (fun k hk=>?_) (fun hk=>?_) rfl (by intro k;rfl)
    ·conv=>whnf
     exact⟨(4,(x0,x1,x2,k)),by simp only;omega,⟨by simp only;omega,by simp_all⟩,(Wk.sub (by repeat' first|constructor|(simp only[List.length_map];rfl)|simp[PX.get]) (by repeat' first|constructor|(simp only[List.length_map];rfl)|simp[PX.get]))⟩
    ·conv=>whnf
     refine qA [] [] (lg0 near) rfl ⟨rfl,rfl,trivial⟩ rfl ⟨⟨?_,rfl,rfl⟩,rfl⟩;rw[zC,if_pos h1];unfold qcS four;simp_all
   have ha:=ha (by omega);have hb:=hb (by omega);have hc:=hc (by omega);have hd:=hd (by omega);conv=>whnf
   refine ql rfl ?_;conv=>whnf
   refine ql rfl ?_;conv=>whnf
   have hbF:qcS [n,a,b,c,d]=some ⟨n,⟨x0,x1⟩,⟨x2,x3⟩,[]⟩:=by simp[qcS,four,ha,hb,hc,hd]
   exact qA [52] [] (lgB near [] ⟨n,⟨x0,x1⟩,⟨x2,x3⟩,[]⟩) rfl ⟨rfl,rfl,trivial⟩ rfl ⟨⟨_,_,_,rfl,h1,hbF,rfl,rfl⟩,rfl⟩
  ·have h2:¬ r.length=5:=by
    have:=of_decide_eq_false h2;simp at this;omega
   conv=>whnf
   refine qA [] [] (lg0 near) rfl ⟨rfl,rfl,trivial⟩ rfl ⟨⟨?_,rfl,rfl⟩,rfl⟩;rw[zC,if_pos h1,qjH h2];rfl
 ·have h1:¬ h=bookW:=of_decide_eq_false h1
  have hT:qew ⟨near,[]⟩ (h::r)=none:=by rw[zC,if_neg h1,if_pos rfl]
  conv=>whnf
  refine qj (fun h3=>?_) (fun h3=>?_)
  ·conv=>whnf
   refine qan rfl (fun h4=>?_) (fun h4=>?_)
   ·cases h4
   ·conv=>whnf
    exact qA [] [] (lg0 near) rfl ⟨rfl,rfl,trivial⟩ rfl ⟨⟨hT,rfl,rfl⟩,rfl⟩
  ·conv=>whnf
   refine qan rfl (fun h4=>?_) (fun h4=>?_)
   ·cases h4
   ·conv=>whnf
    exact qA [] [] (lg0 near) rfl ⟨rfl,rfl,trivial⟩ rfl ⟨⟨hT,rfl,rfl⟩,rfl⟩
theorem qkQ(init:List PBook)(X:List V)(Y:Cells):(Els.vv (ze (init.map PBook.cells) ++ [X])).set (0+(↑init.length:Int).toNat) Y=Els.vv (ze (init.map PBook.cells) ++ [Y.toV]):=by
 show Els.vv (List.set _ _ Y.toV)=_;rw[Nat.zero_add,Int.toNat_natCast];simp[qZ,List.set_append]
theorem FnX.mono{σ:Type}{P:Program}{Y:Hd σ}{f:FuncId}{args:List V}{h:Heap}{s:σ}{Q Q':V->Heap->σ->Prop}{X X':Value->Heap->σ->Prop}(hf:FnX P Y f args h s Q X)(hq:∀ v h' s',Q v h' s'->Q' v h' s')(hx:∀ pv h' s',X pv h' s'->X' pv h' s'):FnX P Y f args h s Q' X':=by
 refine⟨hf.enter,fun cx hY L F vals w hh hr=>(hf.run cx hY L F vals w hh hr).mono ?_⟩;rintro e w' (⟨x,he,v,h',s',L',F',h1,h2⟩|⟨pv,h',s',L',F',he,h1,h2⟩)
 ·exact .inl ⟨x,he,v,h',s',L',F',hq _ _ _ h1,h2⟩
 ·exact .inr ⟨pv,h',s',L',F',he,hx _ _ _ h1,h2⟩
theorem qyE(s:ByteArray)(n:Int)(hs:s.size<=1000000000)(h:jV s=some n):FnV Tryz.prog 97 [.str s] (i64 n):=by
 refine FnU.ofX (Q:=fun v h'=>v = .d (i64 n)/\h' = []) (X:=fun _ _=>False) ?_ (fun _ _ h=>h);intro σ Y st;refine(qze s hs Y st).mono (fun v h' s' hh=>?_) (fun pv h' s' hh=>?_)
 ·obtain⟨⟨m,hm,hv,hh⟩,hs⟩:=hh
  rw[h]at hm;cases hm;exact⟨⟨hv,hh⟩,hs⟩
 ·obtain⟨⟨hm,_⟩,_⟩:=hh
  rw[h]at hm;cases hm
set_option maxHeartbeats 4000000 in
theorem qyF(near:Int)(init:List PBook)(last:PBook)(w:List ByteArray)(hw:w ≠ [])(hs:∀ x∈w,x.size<=1000000)(hl:w.length<=1000000)(hin:init.length<=100000)(hen:last.ents.length<=100000)
  (hbad:∀ s x n,w = [reportW,s,x,n]->jV s≠none->jV n≠none) :
  qwo Tryz.prog 98 [.ptr 1000000 0,.d (qcQ w)] (lg1 1000000 1000001 1000002 near init last)
   (fun v h'=>v = .d (.tup []) /\ ∃ h r,w=h::r/\((h=bookW /\ ∃ b,qcS r=some b/\h'=lgB near (init ++ [last]) b)\/(¬ h=bookW /\ ∃ e,qmQ h r=some e/\h'=lg1 1000000 1000001 2000000 near init { last with ents:=last.ents ++ [e] })))
   (fun pv h'=>qew ⟨near,init ++ [last]⟩ w=none/\pv=qkL/\h'=lg1 1000000 1000001 1000002 near init last):=by
 intro σ Y st;refine qmo mixed qm Tryz.func98 rfl (ft:=ft98) (args:=[.ptr 1000000 0,.d (qcQ w)]) (show fnB ft98 Tryz.f98 2=true from by decide +kernel) ?_
 match w,hw with
 | h::r,_=>
 conv=>whnf
 refine qj (fun h1=>?_) (fun h1=>?_)
 ·have h1:h=bookW:=of_decide_eq_true h1
  conv=>whnf
  refine qan rfl (fun h2=>?_) (fun h2=>?_)
  ·have h2:r.length=5:=by
    have:=of_decide_eq_true h2;simp at this;omega
   match r,h2 with
   | [n,a,b,c,d],_=>
   conv=>whnf
   refine zI (T:=tys) qm (by exact qg mixed qm (by decide +kernel)) (α:=Nat×(Int×Int×Int×Int)) (fun z=>⟨[(0,.ptr 1000000 0),(1,.d (qcQ [h,n,a,b,c,d])),(4,.ptr 4 0),(29,.sl 29 1 0 4),(30,.d (i64 4)),(31,.d (i64 z.1))],(29,.arr 1 (.vv [[.ptr 4 1],[.ptr 4 2],[.ptr 4 3],[.ptr 4 4]]))::(4,.box (.dd [.str n,i64 z.2.1,i64 z.2.2.1,i64 z.2.2.2.1,i64 z.2.2.2.2,.nils]))::lg1 1000000 1000001 1000002 near init last,st⟩) (fun z=>z.1<=4/\(1<=z.1->jV a=some z.2.1)/\(2<=z.1->jV b=some z.2.2.1)/\(3<=z.1->jV c=some z.2.2.2.1)/\(4<=z.1->jV d=some z.2.2.2.2)) (fun z=>4-z.1) (0,(0,0,0,0)) (Wk.sub ⟨(by first|rfl|(simp only[List.length_map];rfl)),(by first|rfl|(simp only[List.length_map];rfl)),(by first|rfl|(simp only[List.length_map];rfl)),(by first|rfl|(simp only[List.length_map];rfl)),(by first|rfl|(simp only[List.length_map];rfl)),(by first|rfl|(simp only[List.length_map];rfl)),trivial⟩ ⟨(by first|rfl|(simp only[List.length_map];rfl)),(by first|rfl|(simp only[List.length_map];rfl)),(by first|rfl|(simp only[List.length_map];rfl)),(by first|rfl|(show some (Obj.arr 6 (.vv (qr _ (qr _ (ze _++_)))))=_;rw[qp,qp];rfl)),(by first|rfl|(simp only[List.length_map];rfl)),trivial⟩) ⟨by simp,by simp,by simp,by simp,by simp⟩ ?_;rintro ⟨i,x0,x1,x2,x3⟩ ⟨hi,ha,hb,hc,hd⟩;simp only at hi ha hb hc hd;obtain rfl|rfl|rfl|rfl|rfl:i=0\/i=1\/i=2\/i=3\/i=4:=by omega
   ·have hsz:ByteArray.size a<=1000000000:=by have:=hs a (by simp);omega
    conv=>whnf
    refine qn (2) (by simp) (qb (by omega)) ?_;conv=>whnf
    refine qgV hsz (fun k hk=>?_) (fun hk=>?_) rfl (by intro k;rfl)
    ·conv=>whnf
     exact⟨(1,(k,x1,x2,x3)),by simp only;omega,⟨by simp only;omega,by simp_all⟩,(Wk.sub ⟨(by first|rfl|(simp only[List.length_map];rfl)),(by first|rfl|(simp only[List.length_map];rfl)),(by first|rfl|(simp only[List.length_map];rfl)),(by first|rfl|(simp only[List.length_map];rfl)),(by first|rfl|(simp only[List.length_map];rfl)),(by first|rfl|(simp only[List.length_map];rfl)),trivial⟩ ⟨(by first|rfl|(simp only[List.length_map];rfl)),(by first|rfl|(simp only[List.length_map];rfl)),(by first|rfl|(simp only[List.length_map];rfl)),(by first|rfl|(show some (Obj.arr 6 (.vv (qr _ (qr _ (ze _++_)))))=_;rw[qp,qp];rfl)),(by first|rfl|(simp only[List.length_map];rfl)),trivial⟩)⟩
    ·conv=>whnf
     refine qA [] [] (lg1 1000000 1000001 1000002 near init last) rfl ⟨rfl,(congrArg some (zG (qbk []) (init.map PBook.cells) last 1000002 last.ents.length)).symm,rfl,trivial⟩ rfl ⟨⟨?_,rfl,rfl⟩,rfl⟩;rw[zC,if_pos h1];unfold qcS four;simp_all
   ·have hsz:ByteArray.size b<=1000000000:=by have:=hs b (by simp);omega
    conv=>whnf
    refine qn (3) (by simp) (qb (by omega)) ?_;conv=>whnf
    refine qgV hsz (fun k hk=>?_) (fun hk=>?_) rfl (by intro k;rfl)
    ·conv=>whnf
     exact⟨(2,(x0,k,x2,x3)),by simp only;omega,⟨by simp only;omega,by simp_all⟩,(Wk.sub ⟨(by first|rfl|(simp only[List.length_map];rfl)),(by first|rfl|(simp only[List.length_map];rfl)),(by first|rfl|(simp only[List.length_map];rfl)),(by first|rfl|(simp only[List.length_map];rfl)),(by first|rfl|(simp only[List.length_map];rfl)),(by first|rfl|(simp only[List.length_map];rfl)),trivial⟩ ⟨(by first|rfl|(simp only[List.length_map];rfl)),(by first|rfl|(simp only[List.length_map];rfl)),(by first|rfl|(simp only[List.length_map];rfl)),(by first|rfl|(show some (Obj.arr 6 (.vv (qr _ (qr _ (ze _++_)))))=_;rw[qp,qp];rfl)),(by first|rfl|(simp only[List.length_map];rfl)),trivial⟩)⟩
    ·conv=>whnf
     refine qA [] [] (lg1 1000000 1000001 1000002 near init last) rfl ⟨rfl,(congrArg some (zG (qbk []) (init.map PBook.cells) last 1000002 last.ents.length)).symm,rfl,trivial⟩ rfl ⟨⟨?_,rfl,rfl⟩,rfl⟩;rw[zC,if_pos h1];unfold qcS four;simp_all
   ·have hsz:ByteArray.size c<=1000000000:=by have:=hs c (by simp);omega
    conv=>whnf
    refine qn (4) (by simp) (qb (by omega)) ?_;conv=>whnf
    refine qgV hsz (fun k hk=>?_) (fun hk=>?_) rfl (by intro k;rfl)
    ·conv=>whnf
     exact⟨(3,(x0,x1,k,x3)),by simp only;omega,⟨by simp only;omega,by simp_all⟩,(Wk.sub ⟨(by first|rfl|(simp only[List.length_map];rfl)),(by first|rfl|(simp only[List.length_map];rfl)),(by first|rfl|(simp only[List.length_map];rfl)),(by first|rfl|(simp only[List.length_map];rfl)),(by first|rfl|(simp only[List.length_map];rfl)),(by first|rfl|(simp only[List.length_map];rfl)),trivial⟩ ⟨(by first|rfl|(simp only[List.length_map];rfl)),(by first|rfl|(simp only[List.length_map];rfl)),(by first|rfl|(simp only[List.length_map];rfl)),(by first|rfl|(show some (Obj.arr 6 (.vv (qr _ (qr _ (ze _++_)))))=_;rw[qp,qp];rfl)),(by first|rfl|(simp only[List.length_map];rfl)),trivial⟩)⟩
    ·conv=>whnf
     refine qA [] [] (lg1 1000000 1000001 1000002 near init last) rfl ⟨rfl,(congrArg some (zG (qbk []) (init.map PBook.cells) last 1000002 last.ents.length)).symm,rfl,trivial⟩ rfl ⟨⟨?_,rfl,rfl⟩,rfl⟩;rw[zC,if_pos h1];unfold qcS four;simp_all
   ·have hsz:ByteArray.size d<=1000000000:=by have:=hs d (by simp);omega
    conv=>whnf
    refine qn (5) (by simp) (qb (by omega)) ?_;conv=>whnf
    refine qgV hsz (fun k hk=>?_) (fun hk=>?_) rfl (by intro k;rfl)
    ·conv=>whnf
     exact⟨(4,(x0,x1,x2,k)),by simp only;omega,⟨by simp only;omega,by simp_all⟩,(Wk.sub ⟨(by first|rfl|(simp only[List.length_map];rfl)),(by first|rfl|(simp only[List.length_map];rfl)),(by first|rfl|(simp only[List.length_map];rfl)),(by first|rfl|(simp only[List.length_map];rfl)),(by first|rfl|(simp only[List.length_map];rfl)),(by first|rfl|(simp only[List.length_map];rfl)),trivial⟩ ⟨(by first|rfl|(simp only[List.length_map];rfl)),(by first|rfl|(simp only[List.length_map];rfl)),(by first|rfl|(simp only[List.length_map];rfl)),(by first|rfl|(show some (Obj.arr 6 (.vv (qr _ (qr _ (ze _++_)))))=_;rw[qp,qp];rfl)),(by first|rfl|(simp only[List.length_map];rfl)),trivial⟩)⟩
    ·conv=>whnf
     refine qA [] [] (lg1 1000000 1000001 1000002 near init last) rfl ⟨rfl,(congrArg some (zG (qbk []) (init.map PBook.cells) last 1000002 last.ents.length)).symm,rfl,trivial⟩ rfl ⟨⟨?_,rfl,rfl⟩,rfl⟩;rw[zC,if_pos h1];unfold qcS four;simp_all
   have ha:=ha (by omega);have hb:=hb (by omega);have hc:=hc (by omega);have hd:=hd (by omega);conv=>whnf
   refine ql rfl ?_;conv=>whnf
   rw[show qr (qz 52) (qr (qz 51) (ze (init.map PBook.cells) ++ [inj (hdC last) ++ [V.sl 1000002 4 0 last.ents.length]]))=ze (init.map PBook.cells) ++ [inj (hdC last) ++ [V.sl 1000002 4 0 last.ents.length]] from by rw[qp,qp];rfl];refine ql (by simp[Els.len,qZ]) ?_;refine zx (by
    show(true && !qam 52 (List.flatten (ze (init.map PBook.cells) ++ [_]++_)))=true;rw[List.append_assoc,qds];rfl) ?_
   refine zx (decide_eq_true (by
    show((ze (init.map PBook.cells) ++ [_]).length+1)*72<=140737488355328;simp[qZ];omega)) ?_
   conv=>whnf
   refine qcK [1000002,52] (by
    show zh (List.flatten (ze (init.map PBook.cells) ++ [inj (hdC last) ++ [V.sl 1000002 4 0 last.ents.length]]++ze [[D.str n,i64 x0,i64 x1,i64 x2,i64 x3,.nils]]))++([52] ++ [])=_;rw[List.append_assoc,jD];rfl) ?_
   conv=>whnf
   have hbF:qcS [n,a,b,c,d]=some ⟨n,⟨x0,x1⟩,⟨x2,x3⟩,[]⟩:=by simp[qcS,four,ha,hb,hc,hd]
   generalize hnew:(⟨n,⟨x0,x1⟩,⟨x2,x3⟩,[]⟩:PBook)=new at hbF;have hnc : [D.str n,i64 x0,i64 x1,i64 x2,i64 x3,.nils]=qwp new:=by rw[<- hnew];rfl
   refine qkz (l':=[]) (h':=[(1000000,.box (.vv [.d (i64 near),.sl 52 6 0 (init.length+2)])),(52,.arr 6 (.dd (init.map PBook.cells ++ [last.cells,qwp new])))]) ((Wk.frzArr 1 [1000002] 52 (sz:=6) (vs:=ze (init.map PBook.cells)++([inj (hdC last) ++ [V.sl 1000002 4 0 last.ents.length]]++ze [[D.str n,i64 x0,i64 x1,i64 x2,i64 x3,.nils]])) (ds:=init.map PBook.cells ++ [last.cells,qwp new]) ?_ (qcJ (qqb (qcI (a:=hdC last) (qy (je (es':=last.ents.map PEnt.cells) rfl rfl (by simp)) rfl)) (by rw[<- hnc];rfl)) _)).trans (Wk.sub trivial ⟨?_,rfl,trivial⟩)) rfl rfl ?_
   ·exact congrArg (fun z=>some (Obj.arr 6 (.vv z))) (List.append_assoc _ _ _)
   ·show some (Obj.box (.vv [.d (i64 near),.sl 52 6 0 ((ze (init.map PBook.cells) ++ [inj (hdC last) ++ [V.sl 1000002 4 0 last.ents.length]]).length+1)]))=_
    simp[qZ]
   ·refine qA [52] [] (lgB near (init ++ [last]) new) rfl ⟨?_,?_,trivial⟩ rfl ⟨⟨rfl,_,_,rfl,.inl ⟨h1,new,hbF,rfl⟩⟩,rfl⟩
    ·show some (Obj.box (.vv [.d (i64 near),.sl 52 6 0 (init.length+2)]))=some (Obj.box (.vv [.d (i64 near),.sl 52 6 0 ((init ++ [last]).length+1)]))
     simp
    ·show some (Obj.arr 6 (.dd (init.map PBook.cells ++ [last.cells,qwp new])))=some (Obj.arr 6 (.dd ((init ++ [last]).map PBook.cells ++ [qwp new])))
     simp
  ·have h2:¬ r.length=5:=by
    have:=of_decide_eq_false h2;simp at this;omega
   conv=>whnf
   refine qA [] [] (lg1 1000000 1000001 1000002 near init last) rfl ⟨rfl,(congrArg some (zG (qbk []) (init.map PBook.cells) last 1000002 last.ents.length)).symm,rfl,trivial⟩ rfl ⟨⟨?_,rfl,rfl⟩,rfl⟩;rw[zC,if_pos h1,qjH h2];rfl
 ·have h1:¬ h=bookW:=of_decide_eq_false h1
  have hT:qew ⟨near,init ++ [last]⟩ (h::r)=(qmQ h r).map fun e=>(⟨near,qvQ e (init ++ [last])⟩:PLog):=by rw[zC,if_neg h1,if_neg (by simp)]
  cases r with
  | nil=>
   conv=>whnf
   refine qan rfl (fun h4=>by cases h4) (fun _=>?_);conv=>whnf
   exact qA [] [] (lg1 1000000 1000001 1000002 near init last) rfl ⟨rfl,(congrArg some (zG (qbk []) (init.map PBook.cells) last 1000002 last.ents.length)).symm,rfl,trivial⟩ rfl ⟨⟨hT,rfl,rfl⟩,rfl⟩
  | cons s q=>
   have hss:s.size<=1000000000:=by have:=hs s (by simp);omega
   conv=>whnf
   refine qj (fun _=>?_) (fun h2=>absurd h2 (by simp;omega));conv=>whnf
   refine qan rfl (fun _=>?_) (fun h2=>absurd h2 (by first|(simp;done)|(simp;omega)));conv=>whnf
   refine qgV hss (fun t ht=>?_) (fun ht=>?_) rfl (by intro k;rfl);case refine_2=>
    conv=>whnf
    refine qA [] [] (lg1 1000000 1000001 1000002 near init last) rfl ⟨rfl,(by first|exact(congrArg some (zG (qbk []) (init.map PBook.cells) last 1000002 last.ents.length)).symm|(show some (Obj.arr 6 (.vv (qr _ (ze _++_))))=_;rw[qp];exact(congrArg some (zG (qbk []) (init.map PBook.cells) last 1000002 last.ents.length)).symm)),rfl,trivial⟩ rfl ⟨⟨?_,rfl,rfl⟩,rfl⟩;rw[hT];unfold qmQ;simp only[ht];rfl
   conv=>whnf
   refine qj (fun h3=>?_) (fun h3=>?_)
   ·have h3:h=passW:=of_decide_eq_true h3
    conv=>whnf
    refine CallA.wkK ?_;refine qan rfl (fun hq=>?_) (fun hq=>?_);case refine_2=>
     have hq:¬ q.length=1:=by
      have:=of_decide_eq_false hq;simp at this;omega
     conv=>whnf
     refine qA [] [] (lg1 1000000 1000001 1000002 near init last) rfl ⟨rfl,(by first|exact(congrArg some (zG (qbk []) (init.map PBook.cells) last 1000002 last.ents.length)).symm|(show some (Obj.arr 6 (.vv (qr _ (ze _++_))))=_;rw[qp];exact(congrArg some (zG (qbk []) (init.map PBook.cells) last 1000002 last.ents.length)).symm)),rfl,trivial⟩ rfl ⟨⟨?_,rfl,rfl⟩,rfl⟩;rw[hT];unfold qmQ;simp only[ht,if_pos h3];(match q,hq with | [],_=>rfl | [x],h=>exact absurd rfl h|x::y::r,_=>rfl)
    refine⟨⟨[(0,.ptr 1000000 0),(1,.d (qcQ (h::s::q))),(7,.ptr 7 0)],(7,.box (.dd [i64 t,i64 0,.str ⟨#[]⟩,i64 0]))::lg1 1000000 1000001 1000002 near init last,st⟩,Wk.sub ⟨rfl,rfl,rfl,trivial⟩ ⟨rfl,rfl,(by show some (Obj.arr 6 (.vv (qr _ (ze _++_))))=_;rw[qp];rfl),rfl,trivial⟩,?_⟩;have hq:q.length=1:=by
     have:=of_decide_eq_true hq;simp at this;omega
    match q,hq with
    | [x],_=>
    conv=>whnf
    refine qn ((init.length:Nat):Int) (by simp) (qb (by omega)) ?_;conv=>whnf
    refine qj (fun _=>?_) (fun h=>absurd h (by simp;omega));conv=>whnf
    rw[show qr (qz 128) (qr (qz 127) (ze (init.map PBook.cells) ++ [inj (hdC last) ++ [V.sl 1000002 4 0 last.ents.length]]))=ze (init.map PBook.cells) ++ [inj (hdC last) ++ [V.sl 1000002 4 0 last.ents.length]] from by rw[qp,qp];rfl];refine jd (inj (hdC last) ++ [V.sl 1000002 4 0 last.ents.length]) (by rw[Nat.zero_add,Int.toNat_natCast];simp[qZ]) ?_;conv=>whnf
    refine ql rfl ?_;conv=>whnf
    refine ql (by simp[Els.len]) ?_;conv=>whnf
    refine zx (decide_eq_true (by
     show((last.ents.map PEnt.cells).length+1)*40<=140737488355328;rw[List.length_map];omega)) ?_
    conv=>whnf
    refine jd (inj (hdC last) ++ [V.sl 1000002 4 0 last.ents.length]) (by rw[Nat.zero_add,Int.toNat_natCast];simp[qZ]) ?_;conv=>whnf
    rw[qkQ];refine qcK [128] (by
     show zh (List.flatten (ze (init.map PBook.cells) ++ [inj (hdC last) ++ [V.sl 128 4 0 _]])) ++ []=_;rw[jD];rfl) ?_
    conv=>whnf
    have hE:qmQ h (s :: [x])=some (⟨t,1,x,0⟩:PEnt):=(by unfold qmQ;simp only[ht,if_pos h3]);generalize hee:(⟨t,1,x,0⟩:PEnt)=ee at hE;have hlen:(last.ents ++ [ee]).length=(last.ents.map PEnt.cells).length+1:=by simp
    refine qA [128] [] (lg1 1000000 1000001 2000000 near init { last with ents:=last.ents ++ [ee] }) rfl ⟨rfl,?_,?_,trivial⟩ rfl ⟨⟨rfl,_,_,rfl,.inr ⟨h1,ee,hE,rfl⟩⟩,rfl⟩
    ·show some (Obj.arr 6 (.vv (ze (init.map PBook.cells) ++ [inj (hdC last) ++ [V.sl 128 4 0 ((last.ents.map PEnt.cells).length+1)]])))=some (qgE (qbk [128]) (.arr 6 (.vv (ze (init.map PBook.cells) ++ [inj (hdC last) ++ [.sl 2000000 4 0 (last.ents ++ [ee]).length]]))))
     rw[zG,hlen];rfl
    ·show _=some (Obj.arr 4 (.dd ((last.ents ++ [ee]).map PEnt.cells)))
     rw[<- hee,List.map_append];rfl
   ·have h3:¬ h=passW:=of_decide_eq_false h3
    conv=>whnf
    refine qj (fun h4=>?_) (fun h4=>?_)
    ·have h4:h=setW:=of_decide_eq_true h4
     conv=>whnf
     refine CallA.wkK ?_;refine qan rfl (fun hq=>?_) (fun hq=>?_);case refine_2=>
      have hq:¬ q.length=0:=by
       have:=of_decide_eq_false hq;simp at this;omega
      conv=>whnf
      refine qA [] [] (lg1 1000000 1000001 1000002 near init last) rfl ⟨rfl,(by first|exact(congrArg some (zG (qbk []) (init.map PBook.cells) last 1000002 last.ents.length)).symm|(show some (Obj.arr 6 (.vv (qr _ (ze _++_))))=_;rw[qp];exact(congrArg some (zG (qbk []) (init.map PBook.cells) last 1000002 last.ents.length)).symm)),rfl,trivial⟩ rfl ⟨⟨?_,rfl,rfl⟩,rfl⟩;rw[hT];unfold qmQ;simp only[ht,if_neg h3,if_pos h4];(match q,hq with | [],h=>exact absurd rfl h|x::r,_=>rfl)
     refine⟨⟨[(0,.ptr 1000000 0),(1,.d (qcQ (h::s::q))),(7,.ptr 7 0)],(7,.box (.dd [i64 t,i64 0,.str ⟨#[]⟩,i64 0]))::lg1 1000000 1000001 1000002 near init last,st⟩,Wk.sub ⟨rfl,rfl,rfl,trivial⟩ ⟨rfl,rfl,(by show some (Obj.arr 6 (.vv (qr _ (ze _++_))))=_;rw[qp];rfl),rfl,trivial⟩,?_⟩;have hq:q.length=0:=by
      have:=of_decide_eq_true hq;simp at this;omega
     match q,hq with
     | [],_=>
     conv=>whnf
     refine qn ((init.length:Nat):Int) (by simp) (qb (by omega)) ?_;conv=>whnf
     refine qj (fun _=>?_) (fun h=>absurd h (by simp;omega));conv=>whnf
     rw[show qr (qz 128) (qr (qz 127) (ze (init.map PBook.cells) ++ [inj (hdC last) ++ [V.sl 1000002 4 0 last.ents.length]]))=ze (init.map PBook.cells) ++ [inj (hdC last) ++ [V.sl 1000002 4 0 last.ents.length]] from by rw[qp,qp];rfl];refine jd (inj (hdC last) ++ [V.sl 1000002 4 0 last.ents.length]) (by rw[Nat.zero_add,Int.toNat_natCast];simp[qZ]) ?_;conv=>whnf
     refine ql rfl ?_;conv=>whnf
     refine ql (by simp[Els.len]) ?_;conv=>whnf
     refine zx (decide_eq_true (by
      show((last.ents.map PEnt.cells).length+1)*40<=140737488355328;rw[List.length_map];omega)) ?_
     conv=>whnf
     refine jd (inj (hdC last) ++ [V.sl 1000002 4 0 last.ents.length]) (by rw[Nat.zero_add,Int.toNat_natCast];simp[qZ]) ?_;conv=>whnf
     rw[qkQ];refine qcK [128] (by
      show zh (List.flatten (ze (init.map PBook.cells) ++ [inj (hdC last) ++ [V.sl 128 4 0 _]])) ++ []=_;rw[jD];rfl) ?_
     conv=>whnf
     have hE:qmQ h (s :: [])=some (⟨t,2,.empty,0⟩:PEnt):=(by unfold qmQ;simp only[ht,if_neg h3,if_pos h4]);generalize hee:(⟨t,2,.empty,0⟩:PEnt)=ee at hE;have hlen:(last.ents ++ [ee]).length=(last.ents.map PEnt.cells).length+1:=by simp
     refine qA [128] [] (lg1 1000000 1000001 2000000 near init { last with ents:=last.ents ++ [ee] }) rfl ⟨rfl,?_,?_,trivial⟩ rfl ⟨⟨rfl,_,_,rfl,.inr ⟨h1,ee,hE,rfl⟩⟩,rfl⟩
     ·show some (Obj.arr 6 (.vv (ze (init.map PBook.cells) ++ [inj (hdC last) ++ [V.sl 128 4 0 ((last.ents.map PEnt.cells).length+1)]])))=some (qgE (qbk [128]) (.arr 6 (.vv (ze (init.map PBook.cells) ++ [inj (hdC last) ++ [.sl 2000000 4 0 (last.ents ++ [ee]).length]]))))
      rw[zG,hlen];rfl
     ·show _=some (Obj.arr 4 (.dd ((last.ents ++ [ee]).map PEnt.cells)))
      rw[<- hee,List.map_append];rfl
    ·have h4:¬ h=setW:=of_decide_eq_false h4
     conv=>whnf
     refine qj (fun h5=>?_) (fun h5=>?_)
     ·have h5:h=reportW:=of_decide_eq_true h5
      conv=>whnf
      refine CallA.wkK ?_;refine qan rfl (fun hq=>?_) (fun hq=>?_);case refine_2=>
       have hq:¬ q.length=2:=by
        have:=of_decide_eq_false hq;simp at this;omega
       conv=>whnf
       refine qA [] [] (lg1 1000000 1000001 1000002 near init last) rfl ⟨rfl,(by first|exact(congrArg some (zG (qbk []) (init.map PBook.cells) last 1000002 last.ents.length)).symm|(show some (Obj.arr 6 (.vv (qr _ (ze _++_))))=_;rw[qp];exact(congrArg some (zG (qbk []) (init.map PBook.cells) last 1000002 last.ents.length)).symm)),rfl,trivial⟩ rfl ⟨⟨?_,rfl,rfl⟩,rfl⟩;rw[hT];unfold qmQ;simp only[ht,if_neg h3,if_neg h4,if_pos h5];(match q,hq with | [],_=>rfl | [x],_=>rfl | [x,y],h=>exact absurd rfl h|x::y::z::r,_=>rfl)
      refine⟨⟨[(0,.ptr 1000000 0),(1,.d (qcQ (h::s::q))),(7,.ptr 7 0)],(7,.box (.dd [i64 t,i64 0,.str ⟨#[]⟩,i64 0]))::lg1 1000000 1000001 1000002 near init last,st⟩,Wk.sub ⟨rfl,rfl,rfl,trivial⟩ ⟨rfl,rfl,(by show some (Obj.arr 6 (.vv (qr _ (ze _++_))))=_;rw[qp];rfl),rfl,trivial⟩,?_⟩;have hq:q.length=2:=by
       have:=of_decide_eq_true hq;simp at this;omega
      match q,hq with
      | [x,n],_=>
      obtain⟨k,hk⟩:∃ k,jV n=some k:=by
       cases hk:jV n with
       | some k=>exact⟨k,rfl⟩
       | none=>exact absurd hk (hbad s x n (by rw[h5]) (by rw[ht];simp))
      conv=>whnf
      refine qq (qyE n k (by have:=hs n (by simp);omega) hk) rfl rfl ?_;conv=>whnf
      refine qn ((init.length:Nat):Int) (by simp) (qb (by omega)) ?_;conv=>whnf
      refine qj (fun _=>?_) (fun h=>absurd h (by simp;omega));conv=>whnf
      rw[show qr (qz 128) (qr (qz 127) (ze (init.map PBook.cells) ++ [inj (hdC last) ++ [V.sl 1000002 4 0 last.ents.length]]))=ze (init.map PBook.cells) ++ [inj (hdC last) ++ [V.sl 1000002 4 0 last.ents.length]] from by rw[qp,qp];rfl];refine jd (inj (hdC last) ++ [V.sl 1000002 4 0 last.ents.length]) (by rw[Nat.zero_add,Int.toNat_natCast];simp[qZ]) ?_;conv=>whnf
      refine ql rfl ?_;conv=>whnf
      refine ql (by simp[Els.len]) ?_;conv=>whnf
      refine zx (decide_eq_true (by
       show((last.ents.map PEnt.cells).length+1)*40<=140737488355328;rw[List.length_map];omega)) ?_
      conv=>whnf
      refine jd (inj (hdC last) ++ [V.sl 1000002 4 0 last.ents.length]) (by rw[Nat.zero_add,Int.toNat_natCast];simp[qZ]) ?_;conv=>whnf
      rw[qkQ];refine qcK [128] (by
       show zh (List.flatten (ze (init.map PBook.cells) ++ [inj (hdC last) ++ [V.sl 128 4 0 _]])) ++ []=_;rw[jD];rfl) ?_
      conv=>whnf
      have hE:qmQ h (s :: [x,n])=some (⟨t,3,x,k⟩:PEnt):=(by unfold qmQ;simp only[ht,if_neg h3,if_neg h4,if_pos h5,hk];rfl);generalize hee:(⟨t,3,x,k⟩:PEnt)=ee at hE;have hlen:(last.ents ++ [ee]).length=(last.ents.map PEnt.cells).length+1:=by simp
      refine qA [128] [] (lg1 1000000 1000001 2000000 near init { last with ents:=last.ents ++ [ee] }) rfl ⟨rfl,?_,?_,trivial⟩ rfl ⟨⟨rfl,_,_,rfl,.inr ⟨h1,ee,hE,rfl⟩⟩,rfl⟩
      ·show some (Obj.arr 6 (.vv (ze (init.map PBook.cells) ++ [inj (hdC last) ++ [V.sl 128 4 0 ((last.ents.map PEnt.cells).length+1)]])))=some (qgE (qbk [128]) (.arr 6 (.vv (ze (init.map PBook.cells) ++ [inj (hdC last) ++ [.sl 2000000 4 0 (last.ents ++ [ee]).length]]))))
       rw[zG,hlen];rfl
      ·show _=some (Obj.arr 4 (.dd ((last.ents ++ [ee]).map PEnt.cells)))
       rw[<- hee,List.map_append];rfl
     ·have h5:¬ h=reportW:=of_decide_eq_false h5
      conv=>whnf
      refine qan rfl (fun h6=>by cases h6) (fun _=>?_);conv=>whnf
      refine qA [] [] (lg1 1000000 1000001 1000002 near init last) rfl ⟨rfl,(by first|exact(congrArg some (zG (qbk []) (init.map PBook.cells) last 1000002 last.ents.length)).symm|(show some (Obj.arr 6 (.vv (qr _ (ze _++_))))=_;rw[qp];exact(congrArg some (zG (qbk []) (init.map PBook.cells) last 1000002 last.ents.length)).symm)),rfl,trivial⟩ rfl ⟨⟨?_,rfl,rfl⟩,rfl⟩;rw[hT];unfold qmQ;simp only[ht,if_neg h3,if_neg h4,if_neg h5];rfl
set_option maxHeartbeats 4000000 in
theorem qxf(near:Int)(init:List PBook)(last:PBook)(s x n:ByteArray)(t:Int)(hin:init.length<=100000)(hss:s.size<=1000000)(hns:n.size<=1000000)(ht:jV s=some t)(hn:jV n=none) :
  qwo Tryz.prog 98 [.ptr 1000000 0,.d (qcQ [reportW,s,x,n])] (lg1 1000000 1000001 1000002 near init last) (fun _ _=>False) (fun pv h'=>pv=qkL/\h'=lg1 1000000 1000001 1000002 near init last):=by
 intro σ Y st;refine qmo mixed qm Tryz.func98 rfl (ft:=ft98.less 21) (args:=[.ptr 1000000 0,.d (qcQ [reportW,s,x,n])]) (show fnB (ft98.less 21) Tryz.f98 2=true from by decide +kernel) ?_;conv=>whnf
 refine qan rfl (fun _=>?_) (fun h2=>absurd h2 (by first|(simp;done)|(simp;omega)));conv=>whnf
 refine qgV (by omega) (fun t2 ht2=>?_) (fun ht2=>by rw[ht]at ht2;cases ht2) rfl (by intro k;rfl);conv=>whnf
 refine CallA.wkK ?_;refine qan rfl (fun _=>?_) (fun h2=>absurd h2 (by first|(simp;done)|(simp;omega)));refine⟨⟨[(0,.ptr 1000000 0),(1,.d (qcQ [reportW,s,x,n])),(7,.ptr 7 0)],(7,.box (.dd [i64 t2,i64 0,.str ⟨#[]⟩,i64 0]))::lg1 1000000 1000001 1000002 near init last,st⟩,Wk.sub ⟨rfl,rfl,rfl,trivial⟩ ⟨rfl,rfl,(by show some (Obj.arr 6 (.vv (qr _ (ze _++_))))=_;rw[qp];rfl),rfl,trivial⟩,?_⟩;conv=>whnf
 refine qnt mixed qm [[],[0],[1],[],[3],[4],[5],[],[7,6],[0,1,2,7,8],[9,2,8,0,1,7],[0,1,2,3,4,5,6,7,8,9,10],[11,6,10,0,1,2,3,4,5,7,8,9]] (by decide +kernel) ?_;have hns9:n.size<=1000000000:=by omega
 have hno:∀ k,jV n≠some k:=fun k hk=>by rw[hn]at hk;cases hk
 conv=>whnf
 repeat' (first
  | (refine And.intro ?_ ?_<;>conv=>whnf)
  | trivial
  | (refine qgV hns9 (fun k hk=>absurd hk (hno k)) (fun _=>?_) rfl (by intro k;rfl);(conv=>whnf);exact qA [] [] (lg1 1000000 1000001 1000002 near init last) rfl ⟨rfl,(congrArg some (zG (qbk []) (init.map PBook.cells) last 1000002 last.ents.length)).symm,rfl,trivial⟩ rfl ⟨⟨rfl,rfl⟩,rfl⟩))
end Go.PX
namespace Go.PX
open Go.RowKit
def CloD(P:Program)(g:FuncId)(u u':FrameMode)(h h':Heap):Prop:=
 ∀ {σ:Type} (cx:Cx σ),qfc P cx -> ∀ (L:Loc) (F:Nat->Nat) (s:σ) (w:World),HeapOk cx L F h s w ->
  CallsDIn Fence.wide 0 P g #[.pointer (some ⟨L.ρ 1000000,0,none⟩),.pointer (some ⟨L.ρ 1000001,0,none⟩)] u w fun e u2 w'=>(∃ x,e = .returned x)/\u2=u' /\ ∃ L' F',HeapOk cx L' F' h' s w'/\Tr F w F' w'/\qfb L L'
def qwq{σ:Type}(P:Program)(T:Tys)(fn:Func)(g:FuncId)(c e:Nat)(r:D)(s0:σ)(u:FrameMode)(en:Env)(h:Heap)(s:σ):Prop:=
 get en c=some (.ptr 1000000 0)/\get en e=some (.ptr 1000001 0) /\ ∃ u' hR,settle u' = .returning/\CloD P g u u' h hR /\
  quJ T [(c,.ptr 1000000 0),(e,.ptr 1000001 0)] hR fn.results.toList fun l=>RetA l hR s fun v h' s'=>v = .d r/\h' = []/\s'=s0
section
variable {P : Program} {T : Tys} {σ : Type}
theorem qeD{cx:Cx σ}{L:Loc}{F0:Nat->Nat}{w0:World}{h:Heap}{s:σ}{fn:Func}{tmps:Array Value}{R:Ending->World->Prop}{ds:List Deferred}{u:FrameMode}(hu:u ≠ .run):∀ (m:List Nat) {F:Nat->Nat} {w:World},HeapOk cx L F h s w->Tr F0 w0 F w ->
  (∀ b∈m,w.heap[b]?=some (.deferred (some []))/\¬ cx.C s b)->m.Nodup->(∀ w',HeapOk cx L F h s w'->Tr F w F w'->LeavesInM Fence.wide 0 P fn tmps R ds u w') ->
  LeavesInM Fence.wide 0 P fn tmps R (m.map mark++ds) u w
 | [],F,w,hh,tr,hm,hn,hR=>hR w hh (Tr.refl F w)
 | b::m,F,w,hh,tr,hm,hn,hR=>by
  obtain⟨hb,hC⟩:=hm b (List.mem_cons_self ..);obtain⟨hh',tr'⟩:=hh.unmark hb hC;simp only[List.map_cons,List.cons_append,LeavesInM];refine⟨hu,.inl ⟨b,w.putObj b (.deferred none),rfl,?_,?_⟩⟩
  ·simp[Instr.takeDeferred,Sem.run_bind,getObj,setObj,Sem.run,hb,Result.andThen,World.putObj]
  ·have hnd:=List.nodup_cons.1 hn
   refine qeD hu m hh' (Tr.trans tr tr') (fun x hx=>?_) hnd.2 fun w' h1 h2=>hR w' h1 (Tr.trans tr' h2);have hxb:x≠b:=by rintro rfl;exact hnd.1 hx
   refine⟨?_,(hm x (List.mem_cons_of_mem _ hx)).2⟩;rw[<- (hm x (List.mem_cons_of_mem _ hx)).1];simp[World.putObj,Array.getElem?_setIfInBounds_ne (Ne.symm hxb)]
theorem HeapOk.cxs{cx cx':Cx σ}{L:Loc}{F:Nat->Nat}{h:Heap}{s:σ}{w:World}(hh:HeapOk cx L F h s w)(h1:cx'.C=cx.C)(h2:cx'.HG=cx.HG)(h3:cx'.yv=cx.yv):HeapOk cx' L F h s w:=by
 refine⟨by rw[h2];exact hh.hg,fun b hb=>hh.csz b (by rw[<- h1];exact hb),hh.fresh,fun id o ho=>by rw[h3];exact hh.obj id o ho,fun id o ho hb=>?_,hh.inj⟩;rw[h1];exact hh.own id o ho hb
theorem Handles.same{Y:Hd σ}{cx cx':Cx σ}(hY:Handles P Y cx)(h1:cx'.C=cx.C)(h2:cx'.HG=cx.HG)(h3:cx'.yv=cx.yv)(p:Value->Env->Heap->σ->Prop):Handles P { y:=Y.y,p:=p } cx':=by
 refine⟨?_,fun s w F h=>hY.laid s w F (by rw[<- h2];exact h)⟩;intro l hl args h s Q hy L' F' vals w hh' hr;rw[h3]at hl hr;obtain⟨fn,tmps,asg,body,e1,e2⟩:=hY.yld l hl args h s Q hy L' F' vals w (hh'.cxs h1.symm h2.symm h3.symm) hr;refine⟨fn,tmps,asg,body,e1,e2.mono ?_⟩;rintro e w' ⟨x,he,v,h',s',L'',F'',hq,hh'',hv,tr,pin,r1,r2,r3⟩;exact⟨x,he,v,h',s',L'',F'',hq,hh''.cxs h1 h2 h3,by rw[h3];exact hv,tr,pin,by rw[h1];exact r1,by rw[h1];exact r2,r3⟩
theorem qkR(hT:qU P T){ft:FT}{Y:Hd σ}{cx:Cx σ}{r:Option Nat}{m:List Nat}{L:Loc}{F:Nat->Nat}{a:Act}{w:World}(hY:Handles P Y cx){id:Nat}{ops:Array Oper}{st:St σ}{K:AExit->St σ->Prop}(h:wpA P T ft Y (.region id ops false) st K)(hg:Good cx r m L F st a w)(hc:jm a.tmps.size (.region id ops false)=true) :
  (Code.region id ops false).wpIn (fr r) 0 P (fun ex a' w'=>(∃ st' L' F',ex = .normal/\K .normal st'/\Good cx r m L' F' st' a' w'/\Tr F w F' w'/\a'.tmps.size=a.tmps.size)\/PanicP Y cx r F w a.tmps.size ex a' w') a w:=by
 obtain⟨e,hp,s⟩:=st;have h:qmW P T Y ops.toList ops.toList e hp s (fun e h s=>jX (qM ft.ks e) fun e=>K .normal ⟨e,h,s⟩):=h;refine wpIn_mono (wpIn_region (id:=id) (Q:=qfl Y cx r m F w a.tmps.size (fun e h s=>jX (qM ft.ks e) fun e=>K .normal ⟨e,h,s⟩)) ?_) fun ex a' w' hq=>?_
 ·have:=qeL hT hY ops.toList 0 (fun j=>by simp) hg rfl (qfm hc) (Tr.refl F w) h
  rwa [<- List.range_eq_range',Array.length_toList]at this
 ·rcases hq with⟨e',h',s',L',F',hex,hk,hg',tr,hs⟩|hp
  ·rw[qap]at hk
   exact .inl ⟨_,L',F',hex,hk,hg'.sub (jZ ft.ks e') (fun _ _ h=>h),tr,hs⟩
  ·exact .inr hp
theorem qso(hT:qU P T){ft:FT}{Y:Hd σ}{cx:Cx σ}{r:Option Nat}{m:List Nat}{L:Loc}{F:Nat->Nat}{a:Act}{w:World}(hY:Handles P Y cx){id:Nat}{ops:Array Oper}{rt:RT}(hrt:get ft.tb id=some rt)(hD:zS P T ft (.region id ops true)){st:St σ}{K:AExit->St σ->Prop}(h:wpA P T ft Y (.region id ops true) st K)(hg:Good cx r m L F st a w)(hc:jm a.tmps.size (.region id ops true)=true) :
  (Code.region id ops true).wpIn (fr r) 0 P (fun ex a' w'=>∃ st' L' F',ex = .normal/\K .normal st'/\Good cx r m L' F' st' a' w'/\Tr F w F' w'/\a'.tmps.size=a.tmps.size) a w:=by
 obtain⟨e,hp,s⟩:=st;obtain⟨made,ots⟩:=rt
 have h:(match get ft.tb id with
  | some ⟨made,ots⟩=>qlj made e hp fun e h=>wpD P T made ops.toList (ops.toList.zip ots) [] e h fun e h=>jX (qM ft.ks e) fun e=>K .normal ⟨e,h,s⟩
  | none=>RegionA P ft Y id ops ⟨e,hp,s⟩ K):=h
 rw[hrt]at h;have hdr:=hD rfl ⟨made,ots⟩ hrt cx hY.laid r m L F e hp s a w _ hg (qfm hc) h;refine wpIn_mono (hdr id) fun ex a' w' hq=>?_;obtain⟨e',h',s',L',F',hex,⟨hk,rfl⟩,hg',tr,hs⟩:=hq;rw[qap]at hk;exact⟨_,L',F',hex,hk,hg'.sub (jZ ft.ks e') (fun _ _ h=>h),tr,hs⟩
def noY{σ:Type}:Hd σ:={ y:=fun _ _ _ _=>False }
theorem qqc{cx cx':Cx σ}(hl:qfc P cx)(h:cx'.HG=cx.HG):Handles P (noY (σ:=σ)) cx':=⟨fun _ _ _ _ _ _ hy=>hy.elim,fun s w F hh=>hl s w F (by rw[<- h];exact hh)⟩
theorem qkS(hT:qU P T){ft:FT}{cx:Cx σ}(hl:qfc P cx){L:Loc}{F:Nat->Nat}{s:σ}{w:World}{h h':Heap}(hh:HeapOk cx L F h s w){n:Nat}(hn:Nat.ble n 1000000=true){v:Value}{d:D}(hd:RepD F w d v)(hone:True){a:Act}(hsz:a.tmps.size=n)(hdf:a.defers = [])
  (t0:a.tmps[0]?=some (.pointer (some ⟨L.ρ 1000000,0,none⟩))) (t1:a.tmps[1]?=some (.pointer (some ⟨L.ρ 1000001,0,none⟩))) (t2:a.tmps[2]?=some v)
  {i1 i2:Nat} {ops1 ops2:Array Oper} {cd:Operand} (hc:jm n (.seq (.region i1 ops1 false) (.cond cd (.region i2 ops2 true) .skip))=true) (hD:zS P T ft (.region i2 ops2 true)) {rt:RT} (hrt:get ft.tb i2=some rt)
  {Q:Exit->Act->World->Prop} (hQ:∀ a' w' L' F',a'.defers = []->HeapOk cx L' F' h' s w'->Tr F w F' w'->qfb L L'->Q .normal a' w')
  (hw:wpA P T ft noY (.region i1 ops1 false) ⟨[(0,.ptr 1000000 0),(1,.ptr 1000001 0),(2,.d d)],h,s⟩ fun _ st1=>qmZ (opnd st1.env cd) (wpA P T ft noY (.region i2 ops2 true) st1 fun _ st2=>qaF h' st2.heap/\st2.s=s) (qaF h' st1.heap/\st1.s=s)) :
  (Code.seq (.region i1 ops1 false) (.cond cd (.region i2 ops2 true) .skip)).wpIn Fence.wide 0 P Q a w:=by
 obtain⟨cx1,hcx1⟩:∃ cx1:Cx σ,cx1={ cx with pρ:=L.ρ,pκ:=L.κ,base:=[] }:=⟨_,rfl⟩;have f1:cx1.C=cx.C:=by rw[hcx1]
 have f2:cx1.HG=cx.HG:=by rw[hcx1]
 have f3:cx1.yv=cx.yv:=by rw[hcx1]
 have hY:Handles P noY cx1:=qqc hl f2;have hn:=Nat.le_of_ble_eq_true hn;simp only[jm,Bool.and_eq_true]at hc;obtain⟨hc1,hc2,_⟩:=hc;have hg:Good cx1 none [] L F ⟨[(0,.ptr 1000000 0),(1,.ptr 1000001 0),(2,.d d)],h,s⟩ a w:=by
  refine⟨hh.cxs f1 f2 f3,fun k u hk=>?_,by rw[hdf,hcx1];rfl,(fun b hb=>by cases hb),List.nodup_nil,(fun l hl=>by cases hl),fun i hi=>by rw[hcx1];exact⟨rfl,rfl⟩,by omega⟩;simp only[get]at hk;split at hk
  ·rename_i h0;have:=(Nat.eq_of_beq_eq_true h0).symm;subst this;cases hk
   exact⟨_,t0,rfl⟩
  ·split at hk
   ·rename_i h0;have:=(Nat.eq_of_beq_eq_true h0).symm;subst this;cases hk
    exact⟨_,t1,rfl⟩
   ·split at hk
    ·rename_i h0;have:=(Nat.eq_of_beq_eq_true h0).symm;subst this;cases hk
     exact⟨_,t2,hd⟩
    ·cases hk
 have fin:∀ {st':St σ} {L':Loc} {F':Nat->Nat} {a':Act} {w':World},qaF h' st'.heap/\st'.s=s->Good cx1 none [] L' F' st' a' w'->Tr F w F' w'->Q .normal a' w':=by
  rintro ⟨e',hp',s'⟩ L' F' a' w' ⟨hs1,hs2⟩ hg' tr;have hs2:s'=s:=hs2;subst hs2;have hg2:=hg'.sub (e:=[]) (h:=h') (fun k u hk=>by cases hk) hs1;refine hQ a' w' L' F' (by have:=hg'.dfr;rw[hcx1]at this;exact this) (hg2.heap.cxs f1.symm f2.symm f3.symm) tr fun i hi=>?_;have:=hg'.pin i hi;rw[hcx1]at this;exact this
 refine wpIn_seq (wpIn_mono (qkR hT hY hw hg (by rw[hsz];simpa[jm]using hc1)) fun ex a1 w1 hq=>?_);rcases hq with⟨st1,L1,F1,rfl,hw1,hg1,tr1,hs1⟩|⟨v,e',h',s',m',L',F',_,hy,_⟩
 case inr=>exact hy.elim
 obtain⟨en1,hp1,s1⟩:=st1;unfold qmZ at hw1;split at hw1;case h_2=>exact hw1.elim
 rename_i tb htb;have hev:a1.eval cd = .bool tb:=hg1.opnd htb;rcases qka hw1 with⟨rfl,hw3⟩|⟨rfl,hw3⟩
 ·refine wpIn_cond hev (wpIn_mono (qso hT hY hrt hD hw3 hg1 (by rw[hs1,hsz];simpa[jm]using hc2)) fun ex a2 w2 hq=>?_)
  obtain⟨st2,L2,F2,rfl,hk,hg2,tr2,_⟩:=hq;exact fin hk hg2 (Tr.trans tr1 tr2)
 ·exact wpIn_cond hev (wpIn_skip (fin hw3 hg1 tr1))
theorem CloD.sub{g:FuncId}{u u':FrameMode}{h0 h h':Heap}(hc:CloD P g u u' h0 h')(hs:qbt h h0):CloD P g u u' h h':=by
 intro σ cx hl L F s w hh;exact hc cx hl L F s w ⟨hh.hg,hh.csz,hh.fresh,fun i o hi=>hh.obj i o (jF hs i o hi),fun i o hi hb=>hh.own i o (jF hs i o hi) hb,fun i j o p hi hj hbi hbj=>hh.inj i j o p (jF hs i o hi) (jF hs j p hj) hbi hbj⟩
theorem qiA{α:Type}:∀ (A B:Tab α) (k:Nat),get (A++B) k=match get A k with
  | some v=>some v
  | none=>get B k
 | [],B,k=>rfl
 | (j,v)::A,B,k=>by
  show(match Nat.beq j k with|true=>some v|false=>get (A++B) k)=_;rw[qiA A B k];simp only[get];cases Nat.beq j k<;>rfl
theorem qqd{ds:List D}{i k:Nat}{v:V}(h:get (jn i (inj ds)) k=some v):∃ d,v = .d d:=by
 obtain⟨j,_,hj⟩:=qcE h;have:∀ (l:List D) (j:Nat) (v:V),(inj l)[j]?=some v -> ∃ d,v = .d d:=by
  intro l
  induction l with
  | nil=>intro j v h;cases h
  | cons a r ih=>
   intro j v h
   cases j with
   | zero=>cases h;exact⟨a,rfl⟩
   | succ j=>exact ih j v h
 exact this ds j v hj
def EndR(P:Program)(cx:Cx σ)(L:Loc)(F:Nat->Nat)(w:World)(r:D)(s:σ):Ending->World->Prop:=fun e w'=>
 ∃ x,e = .returned x /\ ∃ v h' s' L' F',((v = .d r/\h' = [])/\s'=s)/\HeapOk cx L' F' h' s' w'/\RepV cx.yv L' F' w' v x/\Tr F w F' w'/\qfb L L'
theorem EndR.of{cx:Cx σ}{L L0:Loc}{F F2:Nat->Nat}{w w2:World}{r:D}{s:σ}{x:Value}(hh:HeapOk cx L0 F2 [] s w2)(hv:RepD F2 w2 r x)(tr:Tr F w F2 w2):EndR P cx L F w r s (.returned x) w2:=
 ⟨x,rfl,.d r,[],s,L,F2,⟨⟨rfl,rfl⟩,rfl⟩,⟨hh.hg,hh.csz,hh.fresh,(fun id o h=>by cases h),(fun id o h=>by cases h),(fun i j o p h=>by cases h)⟩,hv,tr,fun _ _=>⟨rfl,rfl⟩⟩
theorem qsp(hm:P.follows .mixedOrders=true)(hT:qU P T){f g:FuncId}{fn:Func}{idA idB idD:Nat}{opsA opsB opsD:Array Oper}{cd:Operand}{B C:Code}{ft:FT}{ds:List D}{r:D}(c e t:Nat){lc le:List D}
  (hf:P.funcs[f]?=some fn)
  (hb:fn.body=some (.seq (.region idA opsA false) (.seq (.seq (.region idB opsB false) (.cond cd B .skip)) (.seq (.region idD opsD false) C))))
  (hok:fnB ft fn ds.length=true) (hce:c≠e) (hct:c≠t) (het:e≠t) (hAt:get (jn 0 (inj ds)) t=none) (hAc:get (jn 0 (inj ds)) c=none) (hAe:get (jn 0 (inj ds)) e=none)
  (hdef:∀ (a:Act) (w:World) (p q:Value) (Q:Exit->Act->World->Prop),a.tmps[c]?=some p->a.tmps[e]?=some q->a.tmps.size=fn.ntmps->Q .normal { tmps:=a.tmps.setIfInBounds t (.func (.func g) #[] #[p,q]),defers:={ target:=.fn (.func g) #[p,q],args:=#[] }::a.defers } w->(Code.region idD opsD false).wpIn Fence.wide 0 P Q a w)
  (hinv:∀ (p q:Value) (w:World),(invoke (.fn (.func g) #[p,q]) #[]).run P w = .ok (.enter g #[p,q]) w)
  (hA:∀ {σ:Type} (Y:Hd σ) (s:σ),wpA P T ft Y.np (.region idA opsA false) ⟨jn 0 (inj ds),[],s⟩ fun _ st1=>wpA P T ft Y.np (.region idB opsB false) st1 fun _ st2=>
   qmZ (opnd st2.env cd) (wpA P T ft Y.np B st2 fun ex st3=>ex = .ret/\fnK T fn.results.toList (fun v h' s'=>(v = .d r/\h' = [])/\s'=s) .ret st3)
    (Wk st2 ⟨jn 0 (inj ds) ++ [(c,.ptr c 0),(e,.ptr e 0)],[(c,.box (.dd lc)),(e,.box (.dd le))],s⟩ /\
     wpA P T ft { y:=Y.y,p:=fun pv en h s'=>qwq P T fn g c e r s (.panicking [{ v:=pv,recovered:=false }]) en h s' } C ⟨jn 0 (inj ds) ++ [(c,.ptr 1000000 0),(e,.ptr 1000001 0)],[(1000000,.box (.dd lc)),(1000001,.box (.dd le))],s⟩
      fun ex st3=>(ex = .normal\/ex = .ret)/\qwq P T fn g c e r s .returning st3.env st3.heap st3.s)):FnV P f ds r:=by
 intro σ Y s;unfold fnB at hok;rw[hb]at hok;simp only[Bool.and_eq_true,bne_iff_ne,ne_eq]at hok;obtain⟨⟨⟨⟨hcode,hdraws⟩,hnt⟩,hname⟩,hlen⟩:=hok;have hnt:=Nat.le_of_ble_eq_true hnt;have hlen:=Nat.le_of_ble_eq_true hlen;refine⟨fun vs w=>by simp[callFunc,hf,hname,hb,Go.mark],fun cx hY L F vals w hh hr=>?_⟩;have hvl:vals.size=ds.length:=by
  have:=hr.length;rw[jl]at this;simpa using this
 have hsz:(vals++Array.replicate (fn.ntmps-vals.size) undef).size=fn.ntmps:=by simp;omega
 refine callsIn_of_wp_marks hf hb trivial ?_;have hdr:=qg (P:=P) hm hT hdraws;obtain⟨hdA,⟨hdB,hdB2,_⟩,hdD,hdC⟩:=hdr;simp only[jm,Bool.and_eq_true]at hcode;obtain⟨hcA,⟨hcB,hcB2,_⟩,hcD,hcC⟩:=hcode;have hg:Good { cx with pρ:=L.ρ,pκ:=L.κ,base:=[] } none [] L F ⟨jn 0 (inj ds),[],s⟩ { tmps:=vals++Array.replicate (fn.ntmps-vals.size) undef,defers:=[] } w:=by
  refine⟨⟨hh.hg,hh.csz,hh.fresh,hh.obj,hh.own,hh.inj⟩,fun t v ht=>?_,rfl,(fun b hb=>by cases hb),List.nodup_nil,(fun l hl=>by cases hl),fun _ _=>⟨rfl,rfl⟩,by rw[hsz];exact hnt⟩;obtain⟨k,hk,hv⟩:=qcE ht;rw[Nat.zero_add]at hk;subst hk;obtain⟨x,hx,hrx⟩:=hr.get t hv;refine⟨x,?_,hrx⟩;have hlt:t<vals.size:=by
   have:=(List.getElem?_eq_some_iff.1 hx).1;simpa using this
  rw[Array.getElem?_append_left hlt];simpa using hx
 generalize hcx0:({ cx with pρ:=L.ρ,pκ:=L.κ,base:=[] }:Cx σ)=cx0 at hg;have e1:cx0.C=cx.C:=by rw[<- hcx0]
 have e2:cx0.HG=cx.HG:=by rw[<- hcx0]
 have e3:cx0.yv=cx.yv:=by rw[<- hcx0]
 have e4:cx0.base = []:=by rw[<- hcx0]
 have hY0:Handles P Y.np cx0:=hY.same e1 e2 e3 _;have hwA:=hA Y s;show(Code.seq _ _).wpIn Fence.wide 0 P (bodyPostM Fence.wide 0 P fn (EndR P cx L F w r s)) _ w;generalize ha0:({ tmps:=vals++Array.replicate (fn.ntmps-vals.size) undef,defers:=[] }:Act)=a0 at hg;have hs0:a0.tmps.size=fn.ntmps:=by rw[<- ha0];exact hsz
 refine wpIn_seq (wpIn_mono (qkR hT hY0 hwA hg (by rw[hs0];simpa[jm]using hcA)) fun ex a1 w1 hq=>?_);rcases hq with⟨st1,L1,F1,rfl,hw1,hg1,tr1,hs1⟩|⟨v,e',h',s',m',L',F',_,hy,_⟩
 case inr=>exact hy.elim
 refine wpIn_seq (wpIn_seq (wpIn_mono (qkR hT hY0 hw1 hg1 (by rw[hs1,hs0];simpa[jm]using hcB)) fun ex a2 w2 hq=>?_));rcases hq with⟨st2,L2,F2,rfl,hw2,hg2,tr2,hs2⟩|⟨v,e',h',s',m',L',F',_,hy,_⟩
 case inr=>exact hy.elim
 have tr02:=Tr.trans tr1 tr2;have hs02:a2.tmps.size=fn.ntmps:=by rw[hs2,hs1,hs0]
 obtain⟨en2,hp2,s2⟩:=st2;unfold qmZ at hw2;split at hw2;case h_2=>exact hw2.elim
 rename_i tb htb;have hev:a2.eval cd = .bool tb:=hg2.opnd htb;rcases qka hw2 with⟨rfl,hw2⟩|⟨rfl,hw2⟩
 ·
  refine wpIn_cond hev ?_;refine wpIn_mono (zM hT B hdB2 _ _ hw2 cx0 hY0 none [] L2 F2 a2 w2 hg2 (by rw[hs02];exact hcB2)) fun ex a' w' hq=>?_;rcases hq with⟨e',st',m',L',F',rfl,⟨rfl,hk⟩,hg',tr,hs⟩|⟨v,e',h',s',m',L',F',_,hy,_⟩
  case inr=>exact hy.elim
  show LeavesInM Fence.wide 0 P fn a'.tmps _ a'.defers .returning w';rw[hg'.dfr,e4,List.append_nil];refine qcl m' hg'.heap (Tr.trans tr02 tr) hg'.mks hg'.mnd fun w'' hh'' tr''=>?_;obtain⟨en1,h1,s1⟩:=st';have hk:quJ T en1 h1 fn.results.toList fun l=>RetA l h1 s1 _:=hk;obtain⟨l,⟨hret⟩,hrun⟩:=qjj (P:=P) hT hk;have hg'':Good { cx0 with base:=[] } none [] L' F' ⟨en1,h1,s1⟩ { a' with defers:=[] } w'':=by
   refine⟨hh''.cxs rfl rfl rfl,fun t v ht=>?_,rfl,(fun b hb=>by cases hb),List.nodup_nil,(fun l hl=>by cases hl),hg'.pin,hg'.tsz⟩;obtain⟨x,hx,hrx⟩:=hg'.env t v ht;exact⟨x,hx,RepV.mono tr'' v x (fun _ _=>⟨rfl,rfl⟩) hrx⟩
  obtain⟨vals',hres,hrep⟩:=hrun hg'';obtain⟨v,h',L3,F3,⟨⟨rfl,rfl⟩,rfl⟩,hh2,hr2,tr3,pin2⟩:=hret cx L' F' vals' w'' (hh''.cxs e1.symm e2.symm e3.symm) (by rw[<- e3];exact hrep);exact⟨_,qbT hres,EndR.of hh2 hr2 (Tr.trans tr02 (Tr.trans tr (Tr.trans tr'' tr3)))⟩
 ·
  obtain⟨hwk,hwC⟩:=hw2;refine wpIn_cond hev (wpIn_skip ?_);obtain⟨L3,F3,hg3,tr3⟩:=hwk cx0 none [] L2 F2 a2 w2 hg2;have tr03:=Tr.trans tr02 tr3;have gc:get (jn 0 (inj ds) ++ [(c,V.ptr c 0),(e,V.ptr e 0)]) c=some (.ptr c 0):=by rw[qiA,hAc];simp[get]
  have ge:get (jn 0 (inj ds) ++ [(c,V.ptr c 0),(e,V.ptr e 0)]) e=some (.ptr e 0):=by
   rw[qiA,hAe];have:Nat.beq c e=false:=by rw[Bool.eq_false_iff];intro h;exact hce (Nat.eq_of_beq_eq_true h)
   simp[get,this]
  obtain⟨p,hp,rp⟩:=hg3.env c _ gc;obtain⟨q,hq,rq⟩:=hg3.env e _ ge;have rp:p = .pointer (some ⟨L3.ρ c,0,none⟩):=rp;have rq:q = .pointer (some ⟨L3.ρ e,0,none⟩):=rq;refine wpIn_seq (hdef a2 w2 p q _ hp hq hs02 ?_);have hde:a2.defers = []:=by have:=hg3.dfr;rw[e4]at this;simpa using this
  rw[hde];obtain⟨L4,hL4⟩:∃ L4:Loc,L4=⟨fun k=>if k=1000000 then L3.ρ c else if k=1000001 then L3.ρ e else L3.ρ k,fun k=>if k=1000000 then L3.κ c else if k=1000001 then L3.κ e else L3.κ k⟩:=⟨_,rfl⟩;have r0:L4.ρ 1000000=L3.ρ c:=by rw[hL4];rfl
  have r1:L4.ρ 1000001=L3.ρ e:=by rw[hL4];rfl
  obtain⟨d,hd⟩:∃ d:Deferred,d={ target:=.fn (.func g) #[p,q],args:=#[] }:=⟨_,rfl⟩;rw[<- hd];obtain⟨cx1,hcx1⟩:∃ cx1:Cx σ,cx1={ cx0 with pρ:=L4.ρ,pκ:=L4.κ,base:=[d] }:=⟨_,rfl⟩;have f1:cx1.C=cx.C:=by rw[hcx1];exact e1
  have f2:cx1.HG=cx.HG:=by rw[hcx1];exact e2
  have f3:cx1.yv=cx.yv:=by rw[hcx1];exact e3
  have hbc:=hg3.heap.obj c (.box (.dd lc)) (by simp[get]);have hbe:=hg3.heap.obj e (.box (.dd le)) (by
   have:Nat.beq c e=false:=by rw[Bool.eq_false_iff];intro h;exact hce (Nat.eq_of_beq_eq_true h)
   simp[get,this])
  have hoc:=hg3.heap.own c (.box (.dd lc)) (by simp[get]) trivial;have hoe:=hg3.heap.own e (.box (.dd le)) (by
   have:Nat.beq c e=false:=by rw[Bool.eq_false_iff];intro h;exact hce (Nat.eq_of_beq_eq_true h)
   simp[get,this]) trivial
  have hne:L3.ρ c≠L3.ρ e:=fun h=>hce (hg3.heap.inj c e (.box (.dd lc)) (.box (.dd le)) (by simp[get]) (by
   have:Nat.beq c e=false:=by rw[Bool.eq_false_iff];intro h;exact hce (Nat.eq_of_beq_eq_true h)
   simp[get,this]) trivial trivial h)
  have key:∀ i o,get [(1000000,Obj.box (.dd lc)),(1000001,Obj.box (.dd le))] i=some o->(i=1000000/\o = .box (.dd lc))\/(i=1000001/\o = .box (.dd le)):=by
   intro i o hi;simp only[get]at hi;split at hi
   ·rename_i h;cases hi;exact .inl ⟨(Nat.eq_of_beq_eq_true h).symm,rfl⟩
   ·split at hi
    ·rename_i h;cases hi;exact .inr ⟨(Nat.eq_of_beq_eq_true h).symm,rfl⟩
    ·cases hi
  have hg4:Good cx1 none [] L4 F3 ⟨jn 0 (inj ds) ++ [(c,.ptr 1000000 0),(e,.ptr 1000001 0)],[(1000000,.box (.dd lc)),(1000001,.box (.dd le))],s⟩ { tmps:=a2.tmps.setIfInBounds t (.func (.func g) #[] #[p,q]),defers:=[d] } w2:=by
   refine⟨⟨by rw[f2,<- e2];exact hg3.heap.hg,fun b hb=>hg3.heap.csz b (by rw[e1,<- f1];exact hb),hg3.heap.fresh,fun i o hi=>?_,fun i o hi hbk=>?_,fun i j o o' hi hj hbi hbj he=>?_⟩,fun k v hk=>?_,by rw[hcx1];rfl,(fun b hb=>by cases hb),List.nodup_nil,(fun l hl=>by cases hl),fun i hi=>by rw[hcx1];exact⟨rfl,rfl⟩,by rw[Array.size_setIfInBounds];exact hg3.tsz⟩
   ·rcases key i o hi with⟨rfl,rfl⟩|⟨rfl,rfl⟩
    ·obtain⟨cs,TT,h1,h2⟩:=hbc
     exact⟨cs,TT,by rw[r0];exact h1,RepVL.inj.2 (RepVL.inj.1 h2)⟩
    ·obtain⟨cs,TT,h1,h2⟩:=hbe
     exact⟨cs,TT,by rw[r1];exact h1,RepVL.inj.2 (RepVL.inj.1 h2)⟩
   ·rw[f1,<- e1]
    rcases key i o hi with⟨rfl,rfl⟩|⟨rfl,rfl⟩
    ·rw[r0];exact hoc
    ·rw[r1];exact hoe
   ·rcases key i o hi with⟨rfl,rfl⟩|⟨rfl,rfl⟩<;>rcases key j o' hj with⟨rfl,rfl⟩|⟨rfl,rfl⟩
    ·rfl
    ·rw[r0,r1]at he;exact absurd he hne
    ·rw[r0,r1]at he;exact absurd he.symm hne
    ·rfl
   ·rw[qiA]at hk
    have hset:∀ k,k≠t->(a2.tmps.setIfInBounds t (.func (.func g) #[] #[p,q]))[k]?=a2.tmps[k]?:=fun k hkt=>Array.getElem?_setIfInBounds_ne (Ne.symm hkt);split at hk
    ·rename_i u hu
     cases hk;obtain⟨dd,rfl⟩:=qqd hu;obtain⟨x,hx,hrx⟩:=hg3.env k (.d dd) (by rw[qiA,hu]);refine⟨x,?_,hrx⟩;show(a2.tmps.setIfInBounds t _)[k]?=_;rw[hset k (by rintro rfl;rw[hAt]at hu;cases hu)];exact hx
    ·simp only[get]at hk
     split at hk
     ·rename_i h
      have:=(Nat.eq_of_beq_eq_true h).symm;subst this;cases hk;refine⟨p,?_,?_⟩
      ·show(a2.tmps.setIfInBounds t _)[k]?=_
       rw[hset k hct];exact hp
      ·show p=_
       rw[rp,r0]
     ·split at hk
      ·rename_i h
       have:=(Nat.eq_of_beq_eq_true h).symm;subst this;cases hk;refine⟨q,?_,?_⟩
       ·show(a2.tmps.setIfInBounds t _)[k]?=_
        rw[hset k het];exact hq
       ·show q=_
        rw[rq,r1]
      ·cases hk
  have hY1:Handles P { y:=Y.y,p:=fun pv en h s'=>qwq P T fn g c e r s (.panicking [{ v:=pv,recovered:=false }]) en h s' } cx1:=hY.same f1 f2 f3 _;have hfin:∀ {u:FrameMode} {st':St σ} {m':List Nat} {L':Loc} {F':Nat->Nat} {a':Act} {w':World},u ≠ .run->qwq P T fn g c e r s u st'.env st'.heap st'.s->Good cx1 none m' L' F' st' a' w'->Tr F3 w2 F' w'->LeavesInM Fence.wide 0 P fn a'.tmps (EndR P cx L F w r s) a'.defers u w':=by
   rintro u st' m' L' F' a' w' hu ⟨ec,ee,u',hR,hset,hclo,hres⟩ hg' tr;have hbs:cx1.base = [d]:=by rw[hcx1]
   rw[hg'.dfr,hbs];refine qeD hu m' hg'.heap (Tr.trans tr03 tr) hg'.mks hg'.mnd fun w'' hh'' tr''=>?_;have p0:L'.ρ 1000000=L3.ρ c:=by
    have:=(hg'.pin 1000000 (by unfold pinned;omega)).1;rw[hcx1]at this;exact this.trans r0
   have p1:L'.ρ 1000001=L3.ρ e:=by
    have:=(hg'.pin 1000001 (by unfold pinned;omega)).1;rw[hcx1]at this;exact this.trans r1
   refine⟨hu,.inr ⟨by simp[Fence.wide],.func g,#[p,q],g,#[p,q],by rw[hd],?_,fun _ _=>trivial,?_⟩⟩
   ·rw[hd];exact hinv p q w''
   have hlaid:qfc P cx1:=hY1.laid;have hcall:=hclo cx1 hlaid L' F' st'.s w'' hh'';rw[p0,p1,<- rp,<- rq]at hcall;refine hcall.mono ?_;rintro en u2 w3 ⟨⟨x,rfl⟩,rfl,L5,F5,hh5,tr5,pin5⟩;show LeavesInM Fence.wide 0 P fn a'.tmps _ [] (settle u2) w3;rw[hset];simp only[LeavesInM,LeavesIn];obtain⟨l,⟨hret⟩,hrun⟩:=qjj (P:=P) hT hres;have hg5:Good { cx1 with pρ:=L5.ρ,pκ:=L5.κ,base:=[] } none [] L5 F5 ⟨[(c,.ptr 1000000 0),(e,.ptr 1000001 0)],hR,st'.s⟩ { a' with defers:=[] } w3:=by
    refine⟨hh5.cxs rfl rfl rfl,fun k v hk=>?_,rfl,(fun b hb=>by cases hb),List.nodup_nil,(fun l hl=>by cases hl),fun _ _=>⟨rfl,rfl⟩,hg'.tsz⟩;simp only[get]at hk;split at hk
    ·rename_i h
     have:=(Nat.eq_of_beq_eq_true h).symm;subst this;cases hk;obtain⟨x,hx,hrx⟩:=hg'.env _ _ ec;refine⟨x,hx,?_⟩;have hrx:x = .pointer (some ⟨L'.ρ 1000000,0,none⟩):=hrx;show x=_;rw[hrx,(pin5 1000000 (by unfold pinned;omega)).1]
    ·split at hk
     ·rename_i h
      have:=(Nat.eq_of_beq_eq_true h).symm;subst this;cases hk;obtain⟨x,hx,hrx⟩:=hg'.env _ _ ee;refine⟨x,hx,?_⟩;have hrx:x = .pointer (some ⟨L'.ρ 1000001,0,none⟩):=hrx;show x=_;rw[hrx,(pin5 1000001 (by unfold pinned;omega)).1]
     ·cases hk
   obtain⟨vals',hres',hrep⟩:=hrun hg5;obtain⟨v,h',L6,F6,⟨rfl,rfl,hss⟩,hh6,hr6,tr6,_⟩:=hret cx L5 F5 vals' w3 (hh5.cxs f1.symm f2.symm f3.symm) (by rw[<- f3];exact hrep);refine⟨_,qbT hres',?_⟩;rw[hss]at hh6;exact EndR.of hh6 hr6 (Tr.trans tr03 (Tr.trans tr (Tr.trans tr'' (Tr.trans tr5 tr6))))
  refine wpIn_mono (zM hT C hdC _ _ hwC cx1 hY1 none [] L4 F3 _ w2 hg4 (by simp only[Array.size_setIfInBounds];rw[hs02];exact hcC)) fun ex a' w' hq=>?_;rcases hq with⟨e',st',m',L',F',rfl,⟨he,hk⟩,hg',tr,hs⟩|⟨pv,e',h',s',m',L',F',rfl,hy,hg',tr,hs⟩
  ·rcases he with rfl|rfl
   ·exact hfin (by simp) hk hg' tr
   ·exact hfin (by simp) hk hg' tr
  ·exact hfin (st':=⟨e',h',s'⟩) (by simp) hy hg' tr
end
end Go.PX
namespace Go.PX
open Go.Proofs
open Go.RowKit
theorem qvR(l:Array Value)(w:World):(results Tryz.f93 l).run Tryz.prog w = .ok (.tuple #[]) w:=by
 have h:(([]:List ResultVar).mapM (qgD l)).run Tryz.prog w = .ok [] w:=by simp
 exact qbT (fn:=Tryz.f93) h
theorem qjI(h:Heap):CloD Tryz.prog 93 .returning .returning h h:=by
 intro σ cx hl L F s w hh;refine callsDIn_of_wpSIn Tryz.func93 rfl trivial fun c₀ cs hu=>?_;apply wpSIn_seq;apply wpSIn_region;simp[wpOpsSIn,go_sem,recoverD,hu,Exit.thenS];refine wpSIn_of_wpIn rfl ?_;refine qkS qm (ft:=qxX) hl hh (n:=9) rfl (v:=.nilIface) (d:=.nili) rfl trivial (by simp) rfl (by rfl) (by rfl) (by rfl) (by decide +kernel) (by exact(qg mixed qm (by decide +kernel))) rfl (h':=h) ?_ ?_
 ·intro a' w' L' F' hdf hh' tr pin
  refine⟨hdf,.returning,by cases c₀;simp_all,.tuple #[],qvR _ _,⟨⟨_,rfl⟩,rfl,L',F',hh',tr,pin⟩⟩
 ·conv=>whnf
  exact⟨fun _ _ h=>h,rfl⟩
theorem qsq(near:Int)(i n:Nat):CloD Tryz.prog 93 (.panicking [{ v:=qkL,recovered:=false }]) (.panicking [{ v:=qkL,recovered:=true }]) [(1000000,.box (.vv [.d (i64 near),.sl i 6 0 n])),(1000001,.box (.dd [i64 0]))] [(1000000,.box (.vv [.d (i64 0),.d .nils])),(1000001,.box (.dd [i64 6]))]:=by
 intro σ cx hl L F s w hh;refine callsDIn_of_wpSIn Tryz.func93 rfl trivial fun c₀ cs hu=>?_;apply wpSIn_seq;apply wpSIn_region;simp[wpOpsSIn,go_sem,recoverD,hu,Exit.thenS];refine wpSIn_of_wpIn rfl ?_;refine qkS qm (ft:=qxX) hl hh (n:=9) rfl (v:=qkL) (d:=.ifc 27 (i64 6)) ⟨_,rfl,rfl⟩ trivial (by simp) rfl (by rfl) (by rfl) (by rfl) (by decide +kernel) (by exact(qg mixed qm (by decide +kernel))) rfl (h':=[(1000000,.box (.vv [.d (i64 0),.d .nils])),(1000001,.box (.dd [i64 6]))]) ?_ ?_
 ·intro a' w' L' F' hdf hh' tr pin
  refine⟨hdf,.panicking [{ v:=qkL,recovered:=true }],rfl,.tuple #[],qvR _ _,⟨⟨_,rfl⟩,rfl,L',F',hh',tr,pin⟩⟩
 ·conv=>whnf
  exact⟨jF ⟨rfl,rfl,trivial⟩,rfl⟩
end Go.PX
namespace Go.PX
open Go.Proofs
def qqe:ByteArray:=⟨#[110,101,97,114,32]⟩
def qxg(s p:ByteArray):Bool:=decide (p.size<=s.size)&&decide (s.extract 0 p.size=p)
theorem qyG(s p:ByteArray):FnV Tryz.prog 133 [.str s,.str p] (.bool (qxg s p)):=by
 refine qJ mixed qm Tryz.func133 rfl (ft:=qyj) 2 (by decide +kernel) (by rfl) fun {σ} Y st=>?_;conv=>whnf
 unfold qxg;have e:decide (((p.size:Nat):Int)<=((s.size:Nat):Int))=decide (p.size<=s.size):=by
  rw[Bool.eq_iff_iff,decide_eq_true_eq,decide_eq_true_eq];omega
 rw[e]
 cases hd:decide (p.size<=s.size) with
 | false=>
  conv=>whnf
  exact qc 0 rfl ⟨⟨rfl,rfl⟩,rfl⟩
 | true=>
  have hd:=of_decide_eq_true hd;conv=>whnf
  refine zx (by simp;omega) ?_;conv=>whnf
  exact qc 0 rfl ⟨⟨congrArg (fun z=>V.d (.bool z)) (by simp),rfl⟩,rfl⟩
def qsV(s p:ByteArray):ByteArray×Bool:=if qxg s p then (s.extract p.size s.size,true) else (s,false)
theorem qyH(s p:ByteArray):FnV Tryz.prog 124 [.str s,.str p] (.tup [.str (qsV s p).1,.bool (qsV s p).2]):=by
 unfold qsV;refine qJ mixed qm Tryz.func124 rfl (ft:=qyg) 2 (by decide +kernel) (by rfl) fun {σ} Y st=>?_;conv=>whnf
 refine qk (qyG s p) rfl rfl ?_;conv=>whnf
 cases hh:qxg s p with
 | false=>
  conv=>whnf
  exact qc 0 rfl ⟨⟨rfl,rfl⟩,rfl⟩
 | true=>
  have hle:p.size<=s.size:=by
   unfold qxg at hh;rw[Bool.and_eq_true]at hh;exact of_decide_eq_true hh.1
  conv=>whnf
  refine zx (by simp;omega) ?_;conv=>whnf
  exact qc 0 rfl ⟨⟨congrArg (fun z=>V.d (.tup [.str z,.bool true])) (by simp),rfl⟩,rfl⟩
theorem qAG(s p:ByteArray):FnV Tryz.prog 95 [.str s,.str p] (.tup [.str (qsV s p).1,.bool (qsV s p).2]):=by
 refine qJ mixed qm Tryz.func95 rfl (ft:=qAo) 2 (by decide +kernel) (by rfl) fun {σ} Y st=>?_;conv=>whnf
 refine qk (qyH s p) rfl rfl ?_;conv=>whnf
 exact qc 0 rfl ⟨⟨rfl,rfl⟩,rfl⟩
theorem qsr(A:List (List D))(a:List D):ze (A ++ [a ++ [.nils]])=ze A ++ [inj a ++ [.d .nils]]:=by
 rw[qZ,qZ,List.map_append];have:inj (a ++ [.nils])=inj a ++ [.d .nils]:=by rw[qbH];rfl
 rw[List.map_cons,List.map_nil,this]
theorem qmt{sz:Nat}{X:List (List V)}{a:List V}{x y:V}(h:zL sz (X ++ [a ++ [x]])):zL sz (X ++ [a ++ [y]]):=by
 intro e he;rcases List.mem_append.1 he with he|he
 ·exact h e (List.mem_append_left _ he)
 ·rw[List.mem_singleton]at he
  have:=h (a ++ [x]) (by simp);rw[he,<- this];simp
theorem Wk.bornArr{σ:Type}{e:Env}{h:Heap}{s:σ}(b k sz sz2:Nat)(A:List (List D))(a:List D)(hk:Nat.blt k 1000000=true)(hs:Nat.blt 0 sz2=true)(hb:get h b=some (.arr sz (.dd (A ++ [a ++ [.nils]]))))(hbk:Nat.beq b k=false) :
  Wk (⟨e,h,s⟩:St σ) ⟨jT (mapId (qz k)) e,put (((k,.arr sz2 (.dd []))::jT (Obj.mapId (qz k)) (cut h k))) b (.arr sz (.vv (ze A ++ [inj a ++ [.sl k sz2 0 0]]))),s⟩:=by
 have hk:=Nat.le_of_ble_eq_true hk;have hs:=Nat.le_of_ble_eq_true hs;have hne:b≠k:=by rintro rfl;simp at hbk
 have h1:Wk (⟨e,h,s⟩:St σ) ⟨jT (mapId (qz k)) e,((k,.arr sz2 (.dd []))::jT (Obj.mapId (qz k)) (cut h k)),s⟩:=by
  intro cx r m L F a w hg;exact⟨_,F,hg.newEmpty k sz2 (by unfold pinned;omega) hs (.dd []) rfl,Tr.refl F w⟩
 refine h1.trans (Wk.reobj b (o:=.arr sz (.dd (A ++ [a ++ [.nils]]))) _ (by rw[qI,if_neg hne,qQ,zZ,if_neg hne,hb];rfl) (fun yv L F w h=>?_) fun L hb=>hb);obtain⟨h0,hl,hr⟩:=h;have hl:zL sz (ze (A ++ [a ++ [.nils]])):=hl;have hr:(ze (A ++ [a ++ [.nils]]) = []/\L.κ b=0) \/ ∃ (c:Array Value) (T:TypeId),w.heap[L.ρ b]?=some (.cells c T (0,0))/\c.size=L.κ b/\(ze (A ++ [a ++ [.nils]])).length*sz<=c.size/\RepVL yv L F w (ze (A ++ [a ++ [.nils]])).flatten (c.toList.take ((ze (A ++ [a ++ [.nils]])).length*sz)):=hr;rw[qsr]at hl hr;refine⟨h0,qmt hl,.inr ?_⟩;rcases hr with⟨hr,_⟩|⟨c,T,h2,h3,h4,h5⟩
 ·simp at hr
 ·have hlen:(ze A ++ [inj a ++ [V.sl k sz2 0 0]]).length=(ze A ++ [inj a ++ [V.d .nils]]).length:=by simp
  refine⟨c,T,h2,h3,by show(ze A ++ [inj a ++ [V.sl k sz2 0 0]]).length*sz<=c.size;rw[hlen];exact h4,?_⟩;show RepVL yv L F w (ze A ++ [inj a ++ [V.sl k sz2 0 0]]).flatten (c.toList.take ((ze A ++ [inj a ++ [V.sl k sz2 0 0]]).length*sz));rw[hlen];have e1:(ze A ++ [inj a ++ [V.d .nils]]).flatten=((ze A).flatten++inj a)++V.d .nils :: []:=by simp
  have e2:(ze A ++ [inj a ++ [V.sl k sz2 0 0]]).flatten=((ze A).flatten++inj a)++V.sl k sz2 0 0 :: []:=by simp
  rw[e1]at h5;rw[e2];exact RepVL.nil_at k sz2 hs h5
end Go.PX
