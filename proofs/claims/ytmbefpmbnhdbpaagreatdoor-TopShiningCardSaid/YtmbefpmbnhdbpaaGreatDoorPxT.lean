import Derived.Test.YtmbefpmbnhdbpaaGreatDoorPxR
import Derived.Test.YtmbefpmbnhdbpaaGreatDoorPxK
import Derived.Test.YtmbefpmbnhdbpaaGreatDoorPxQ
import Derived.Test.YtmbefpmbnhdbpaaGreatDoorPxS
import Derived.RecoverIn
import Derived.Recover
import Derived.Tactics
import Derived.Tactics2
set_option linter.all false
set_option maxRecDepth 10000
namespace Go.PX
open Go.Proofs
def uQ:ByteArray:=⟨#[110,101,97,114]⟩
def qq:ByteArray:=⟨#[98,111,111,107]⟩
def pY:ByteArray:=⟨#[112,97,115,115]⟩
def xN:ByteArray:=⟨#[115,101,116]⟩
def ff:ByteArray:=⟨#[114,101,112,111,114,116]⟩
def o6(b:au):List Wd:=[.s qq,.s b.name,.n b.off.lo,.n b.off.hi,.n b.set.lo,.n b.set.hi]
def qw(x:aZ):List Wd:=
 if x.kind=1 then [.s pY,.n x.shown,.s x.word] else if x.kind=2 then [.s xN,.n x.shown] else [.s ff,.n x.shown,.s x.word,.n x.number]
def yM:List aZ->ByteArray
 | []=>.empty
 | y::r=>n7 (qw y)++yM r
def LQ(b:au):ByteArray:=n7 (o6 b)++yM b.ar
def o7:List au->ByteArray
 | []=>.empty
 | b::r=>LQ b++o7 r
def xL(l:aN):ByteArray:=n7 [.s uQ,.n l.near]++o7 l.an
theorem XZ(w:ByteArray):tH Tryz.prog 265 [.d (.agg [.str w])] [] fun v h'=>v = .sl 2000000 1 0 3/\h' = [(2000000,.arr 1 (.dd [[.ifc 9 (.str pY)],[.nili],[.ifc 9 (.str w)]]))]:=by
 intro σ Y st;refine ez mixed av Tryz.func265 rfl (ft:=Q3) (args:=[.d (.agg [.str w])]) (show oQ Q3 Tryz.f265 1=true from by decide +kernel) ?_;conv=>whnf
 exact aK [7] [.sl 2000000 1 0 3] [(2000000,.arr 1 (.dd [[.ifc 9 (.str pY)],[.nili],[.ifc 9 (.str w)]]))] rfl ⟨rfl,trivial⟩ rfl ⟨⟨rfl,rfl⟩,rfl⟩
theorem X1:tH Tryz.prog 267 [.d (.agg [])] [] fun v h'=>v = .sl 2000000 1 0 2/\h' = [(2000000,.arr 1 (.dd [[.ifc 9 (.str xN)],[.nili]]))]:=by
 intro σ Y st;refine ez mixed av Tryz.func267 rfl (ft:=Q5) (args:=[.d (.agg [])]) (show oQ Q5 Tryz.f267 1=true from by decide +kernel) ?_;conv=>whnf
 exact aK [4] [.sl 2000000 1 0 2] [(2000000,.arr 1 (.dd [[.ifc 9 (.str xN)],[.nili]]))] rfl ⟨rfl,trivial⟩ rfl ⟨⟨rfl,rfl⟩,rfl⟩
theorem X0(w:ByteArray)(n:Int):tH Tryz.prog 266 [.d (.agg [.str w,i64 n])] [] fun v h'=>v = .sl 2000000 1 0 4/\h' = [(2000000,.arr 1 (.dd [[.ifc 9 (.str ff)],[.nili],[.ifc 9 (.str w)],[.ifc 3 (i64 n)]]))]:=by
 intro σ Y st;refine ez mixed av Tryz.func266 rfl (ft:=Q4) (args:=[.d (.agg [.str w,i64 n])]) (show oQ Q4 Tryz.f266 1=true from by decide +kernel) ?_;conv=>whnf
 exact aK [10] [.sl 2000000 1 0 4] [(2000000,.arr 1 (.dd [[.ifc 9 (.str ff)],[.nili],[.ifc 9 (.str w)],[.ifc 3 (i64 n)]]))] rfl ⟨rfl,trivial⟩ rfl ⟨⟨rfl,rfl⟩,rfl⟩
structure Zn(l:aN):Prop where
 name:∀ b∈l.an,b.name.size<=1000
 word:∀ b∈l.an,∀ x∈b.ar,x.word.size<=1000
theorem Am{l:List Wd}(h:∀ w∈l,ql w)(hl:l.length<=10):(n7 l).size<=11011:=by
 rw[n7,cA];have h1:TQ.size=1:=rfl
 cases l with
 | nil=>show(0:Nat)+1<=_;omega
 | cons w r=>
  have h2:=pO (h w (List.mem_cons_self ..));have h3:=r8 fun x hx=>h x (List.mem_cons_of_mem w hx);rw[pP,cA];rw[List.length_cons]at hl;omega
theorem Bn{b:au}(h:Ii b)(hn:b.name.size<=1000):∀ w∈o6 b,ql w:=by
 intro w hw;have ho:=h.off;have hs:=h.set;simp only[o6,List.mem_cons,List.not_mem_nil,or_false]at hw;rcases hw with rfl|rfl|rfl|rfl|rfl|rfl
 ·show qq.size<=1000;decide
 ·exact hn
 ·unfold ql;omega
 ·unfold ql;omega
 ·unfold ql;omega
 ·unfold ql;omega
theorem Ew{x:aZ}(h:(0<=x.shown/\x.shown<=20000)/\(1<=x.kind/\x.kind<=3)/\(0<=x.number/\x.number<=99))(hn:x.word.size<=1000):∀ w∈qw x,ql w:=by
 intro w hw;unfold qw at hw;split at hw
 ·simp only[List.mem_cons,List.not_mem_nil,or_false]at hw
  rcases hw with rfl|rfl|rfl
  ·show pY.size<=1000;decide
  ·unfold ql;omega
  ·exact hn
 ·split at hw
  ·simp only[List.mem_cons,List.not_mem_nil,or_false]at hw
   rcases hw with rfl|rfl
   ·show xN.size<=1000;decide
   ·unfold ql;omega
  ·simp only[List.mem_cons,List.not_mem_nil,or_false]at hw
   rcases hw with rfl|rfl|rfl|rfl
   ·show ff.size<=1000;decide
   ·unfold ql;omega
   ·exact hn
   ·unfold ql;omega
theorem JJ(y:aZ):(qw y).length<=10:=by
 unfold qw;split
 ·simp
 ·split<;>simp
theorem yN:∀ {r:List aZ},(∀ x∈r,((0<=x.shown/\x.shown<=20000)/\(1<=x.kind/\x.kind<=3)/\(0<=x.number/\x.number<=99))/\x.word.size<=1000)->(yM r).size<=11011*r.length
 | [],_=>Nat.zero_le _
 | y::r,h=>by
  have h1:=yN (r:=r) fun x hx=>h x (List.mem_cons_of_mem _ hx);obtain⟨h2,h3⟩:=h y (List.mem_cons_self ..);have h4:=Am (Ew h2 h3) (JJ y);rw[yM,cA,List.length_cons];omega
theorem wM:∀ {r:List au},(∀ b∈r,Ii b/\b.name.size<=1000 /\ ∀ x∈b.ar,x.word.size<=1000)->(o7 r).size<=100000*r.length
 | [],_=>Nat.zero_le _
 | b::r,h=>by
  have h1:=wM (r:=r) fun x hx=>h x (List.mem_cons_of_mem _ hx);obtain⟨h2,h3,h4⟩:=h b (List.mem_cons_self ..);have h5:=Am (Bn h2 h3) (by simp[o6]);have h6:=yN (r:=b.ar) fun x hx=>⟨h2.fV x hx,h4 x hx⟩;have h7:=h2.ar;rw[o7,LQ,cA,cA,List.length_cons];omega
theorem Kt{l:aN}(hR:qh l)(hN:Zn l):(xL l).size<=400000:=by
 have h1:=wM (r:=l.an) fun b hb=>⟨hR.book b hb,hN.name b hb,hN.word b hb⟩;have h2:=hR.near;have h3:=hR.an;have h4:=Am (l:=[.s uQ,.n l.near]) (by
  intro w hw;simp only[List.mem_cons,List.not_mem_nil,or_false]at hw;rcases hw with rfl|rfl
  ·show uQ.size<=1000;decide
  ·unfold ql;omega) (by simp)
 rw[xL,cA];omega
set_option maxHeartbeats 4000000 in
theorem TX(l:aN)(hR:qh l)(hN:Zn l):bq Tryz.prog 117 [l.d] (.str (xL l)):=by
 refine aY Tryz.func117 rfl (ft:=Vf) 1 fun {σ} Y st=>?_;conv=>whnf
 have C8:=hR.near;refine mq 1 [16] (args':=[.d (wy [.s uQ,.n l.near]),.ptr 3 0]) (by
  show [_,_]=_;rfl) rfl ?_
 refine bH (KN uQ (by decide) [.n l.near] (by simp) (by
  intro w hw;simp only[List.mem_cons,List.not_mem_nil,or_false]at hw;rcases hw with rfl|rfl
  ·show uQ.size<=1000;decide
  ·unfold ql;omega)) [3] rfl ⟨_,_,rfl,rfl,rfl⟩ rfl ?_
 conv=>whnf
 have hTS:=Kt hR hN;have xV:=hR.an;generalize hT:xL l=T at hTS;have hT0:n7 [.s uQ,.n l.near]++o7 l.an=T:=hT;have E3:0<(n7 [.s uQ,.n l.near]).size:=by rw[n7,cA];have:TQ.size=1:=rfl;omega
 refine bB (T:=tys) av (by exact aj mixed av (by decide +kernel)) l.an (fun i (acc:ByteArray)=>⟨[(3,.ptr 3 0),(4,.clo 173 [.ptr 3 0]),(19,.d (bF l.an)),(20,.d (i64 l.an.length)),(21,.d (i64 i))],lh 3 900000 acc,st⟩) (fun i r acc=>acc++o7 r=T/\0<acc.size) (n7 [.s uQ,.n l.near]) ?_ ⟨hT0,E3⟩ ?_ ?_
 ·exact(Wk.move 101088 900000 rfl rfl).trans aw
 ·rintro i b r acc hb hi hr ⟨dI,ha⟩
  have hB:=hR.book b (List.mem_of_getElem? hb);have SG:=hB.ar;have sg:=hN.name b (List.mem_of_getElem? hb);have UA:=hN.word b (List.mem_of_getElem? hb);have aaB:acc.size<=T.size:=by rw[<- dI,cA];omega
  rw[o7,LQ,gd]at dI;conv=>whnf
  refine ag (fun _=>?_) (fun h=>absurd hi (by simpa using h));conv=>whnf
  refine aG hb ?_;conv=>whnf
  refine mq 1 [46] (args':=[.d (wy (o6 b)),.ptr 3 0]) (by
   show [_,_]=_;rfl) rfl ?_
  refine bH (Jh acc ha (o6 b) (by simp[o6]) (Bn hB sg) (by omega) (by simp[o6])) [3,900000] rfl ⟨_,_,rfl,rfl,_,_,rfl,rfl,rfl⟩ rfl ?_;conv=>whnf
  refine bB (T:=tys) av (by exact aj mixed av (by decide +kernel)) b.ar (fun k (acc:ByteArray)=>⟨[(3,.ptr 3 0),(4,.clo 173 [.ptr 3 0]),(19,.d (bF l.an)),(20,.d (i64 l.an.length)),(21,.d (i64 i)),(49,.d (lF b.ar)),(50,.d (i64 b.ar.length)),(51,.d (i64 k))],lh 3 900000 acc,st⟩) (fun k q acc=>acc++(yM q++o7 r)=T/\0<acc.size) (acc++n7 (o6 b)) ?_ ⟨by rw[gd];exact dI,by rw[cA];omega⟩ ?_ ?_
  ·exact(Wk.move 103008 900000 rfl rfl).trans aw
  ·rintro k y q acc hy hk hq ⟨dI,ha⟩
   have hyR:=hB.fV y (List.mem_of_getElem? hy);have hyw:=UA y (List.mem_of_getElem? hy);have Ke:=Ew hyR hyw;have aaB:acc.size<=T.size:=by rw[<- dI,cA];omega
   rw[yM,gd]at dI;conv=>whnf
   refine ag (fun _=>?_) (fun h=>absurd hk (by simpa using h));conv=>whnf
   refine aG hy ?_;conv=>whnf
   refine af (Bc y) rfl rfl ?_;by_cases h1:y.kind=1
   ·have ht:bQ y = .ifc 214 (.agg [.str y.word]):=by unfold bQ;rw[if_pos h1]
    have he:qw y = [.s pY,.n y.shown,.s y.word]:=by unfold qw;rw[if_pos h1]
    rw[ht];rw[he]at dI Ke;conv=>whnf
    refine mr 265 (by decide +kernel) ?_;refine bH (XZ y.word) [] rfl rfl rfl ?_;conv=>whnf
    refine mq 1 [103648] (args':=[.d (wy [.s pY,.n y.shown,.s y.word]),.ptr 3 0]) (by
     show [_,_]=_;rfl) rfl ?_
    refine bH (Jh acc ha [.s pY,.n y.shown,.s y.word] (by simp) Ke (by omega) (by simp)) [3,900000] rfl ⟨_,_,rfl,rfl,_,_,rfl,rfl,rfl⟩ rfl ?_;conv=>whnf
    refine ae ?_;conv=>whnf
    exact⟨acc++n7 [.s pY,.n y.shown,.s y.word],⟨by rw[gd];exact dI,by rw[cA];omega⟩,(Wk.move 104160 900000 rfl rfl).trans aw⟩
   ·by_cases h2:y.kind=2
    ·have ht:bQ y = .ifc 288 (.agg []):=by unfold bQ;rw[if_neg h1,if_pos h2]
     have he:qw y = [.s xN,.n y.shown]:=by unfold qw;rw[if_neg h1,if_pos h2]
     rw[ht];rw[he]at dI Ke;conv=>whnf
     refine mr 267 (by decide +kernel) ?_;refine bH (X1) [] rfl rfl rfl ?_;conv=>whnf
     refine mq 1 [103648] (args':=[.d (wy [.s xN,.n y.shown]),.ptr 3 0]) (by
      show [_,_]=_;rfl) rfl ?_
     refine bH (Jh acc ha [.s xN,.n y.shown] (by simp) Ke (by omega) (by simp)) [3,900000] rfl ⟨_,_,rfl,rfl,_,_,rfl,rfl,rfl⟩ rfl ?_;conv=>whnf
     refine ae ?_;conv=>whnf
     exact⟨acc++n7 [.s xN,.n y.shown],⟨by rw[gd];exact dI,by rw[cA];omega⟩,(Wk.move 104160 900000 rfl rfl).trans aw⟩
    ·have ht:bQ y = .ifc 228 (.agg [.str y.word,i64 y.number]):=by unfold bQ;rw[if_neg h1,if_neg h2,if_pos (by omega)]
     have he:qw y = [.s ff,.n y.shown,.s y.word,.n y.number]:=by unfold qw;rw[if_neg h1,if_neg h2]
     rw[ht];rw[he]at dI Ke;conv=>whnf
     refine mr 266 (by decide +kernel) ?_;refine bH (X0 y.word y.number) [] rfl rfl rfl ?_;conv=>whnf
     refine mq 1 [103648] (args':=[.d (wy [.s ff,.n y.shown,.s y.word,.n y.number]),.ptr 3 0]) (by
      show [_,_]=_;rfl) rfl ?_
     refine bH (Jh acc ha [.s ff,.n y.shown,.s y.word,.n y.number] (by simp) Ke (by omega) (by simp)) [3,900000] rfl ⟨_,_,rfl,rfl,_,_,rfl,rfl,rfl⟩ rfl ?_;conv=>whnf
     refine ae ?_;conv=>whnf
     exact⟨acc++n7 [.s ff,.n y.shown,.s y.word,.n y.number],⟨by rw[gd];exact dI,by rw[cA];omega⟩,(Wk.move 104160 900000 rfl rfl).trans aw⟩
  ·rintro acc ⟨dI,ha⟩
   rw[yM]at dI;conv=>whnf
   refine ag (fun h=>absurd h (by simp)) (fun _=>?_);conv=>whnf
   refine ae ?_;conv=>whnf
   exact⟨acc,⟨by rw[<- dI];simp,ha⟩,aw⟩
 ·rintro acc ⟨dI,ha⟩
  rw[o7,R6]at dI;subst dI;conv=>whnf
  refine ag (fun h=>absurd h (by simp)) (fun _=>?_);conv=>whnf
  refine bH (XV acc ha (by omega)) [3,900000] rfl ⟨_,_,rfl,rfl,_,_,rfl,rfl,rfl⟩ rfl ?_;conv=>whnf
  exact ai
theorem q8{s:ByteArray}(h:fm s=true):s.size<=1000:=by
 unfold fm at h;rw[Bool.and_eq_true,I1]at h;omega
theorem yE{l:aN}(h:bC l=0):Zn l:=by
 obtain⟨_,_,h3⟩:=l8.1 h;refine⟨fun b hb=>?_,fun b hb x hx=>?_⟩
 ·obtain⟨k,hk⟩:=List.getElem?_of_mem hb
  exact q8 (ov.1 (h3 k b hk).1).name
 ·have hE:=(kn h hb).2.2.2 x hx
  by_cases h1:x.kind=1
  ·exact q8 (hE.pass h1).1
  ·by_cases h2:x.kind=2
   ·rw[(hE.set h2).1];decide
   ·exact q8 (hE.rep (by have:=hE.kind;omega)).1
def DS(l:aN):ByteArray×Int:=if bC l=0 then (xL l,0) else (.empty,bC l)
theorem abK(l:aN):bq Tryz.prog 50 [l.d] (.tup [.str (DS l).1,i64 (DS l).2]):=by
 unfold DS;refine aY Tryz.func50 rfl (ft:=ZQ) 1 fun {σ} Y st=>?_;conv=>whnf
 by_cases hc:bC l=0
 ·rw[if_pos hc]
  have hR:=fI hc;refine af (lI l 0 0 0 (km hc)) rfl rfl ?_;conv=>whnf
  refine af (TX l hR (yE hc)) rfl rfl ?_;conv=>whnf
  exact ai
 ·rw[if_neg hc]
  refine af (lI l _ _ _ (kl l)) rfl rfl ?_;conv=>whnf
  generalize bC l=E at hc;refine ag (fun _=>?_) (fun h=>absurd hc (by simpa using h));conv=>whnf
  exact ai
end Go.PX
namespace Go.PX
open Go.Proofs
open Go.RowKit
theorem pX{σ:Type}{Y:Hd σ}{e:Env}{h:Heap}{s:σ}{d:Option Nat}{x:ByteArray}{K:St σ->Prop}(hx:x.size<=1000000000)
  (ht:∀ n,eE x=some n->bz (c8 [] d (.d (i64 n)) []) e h fun e h=>K ⟨e,h,s⟩) (hf:eE x=none->bz (c8 [] d (.d (.tup [])) []) e h fun e h=>Y.p pF (Mb d e) h s) (hd:fU [] d (.d (.tup [])) []=true) (SM:∀ n,fU [] d (.d (i64 n)) []=true):eg Tryz.prog Y ⟨e,h,s⟩ d 122 [.d (.str x)] K:=by
 refine tN (Yf x hx Y s) [] rfl rfl rfl rfl ?_ ?_
 ·rintro v h1 s' ⟨⟨n,hn,rfl,rfl⟩,rfl⟩
  exact⟨SM n,ht n hn⟩
 ·rintro pv h1 s' ⟨⟨hn,rfl,rfl⟩,rfl⟩
  exact⟨hd,hf hn⟩
def GF(e:aZ):List au->List au
 | []=>[]
 | [b]=>[{ b with ar:=b.ar ++ [e] }]
 | b::c::r=>b::GF e (c::r)
theorem Bj(e:aZ):∀ (init:List au) (last:au),GF e (init ++ [last])=init ++ [{ last with ar:=last.ar ++ [e] }]
 | [],last=>rfl
 | [a],last=>rfl
 | a::b::r,last=>by
  show a::GF e (b::r ++ [last])=_;rw[Bj e (b::r) last];rfl
def four(a b c d:ByteArray):Option (Int×Int×Int×Int):=match eE a with
 | none=>none
 | some a=>match eE b with
  | none=>none
  | some b=>match eE c with
   | none=>none
   | some c=>match eE d with
    | none=>none
    | some d=>some (a,b,c,d)
def jq(r:List ByteArray):Option au:=match r with
 | [n,a,b,c,d]=>(four a b c d).map fun x=>⟨n,⟨x.1,x.2.1⟩,⟨x.2.2.1,x.2.2.2⟩,[]⟩
 | _=>none
theorem yA{r:List ByteArray}(h:¬ r.length=5):jq r=none:=by
 unfold jq;split
 ·exact absurd rfl h
 ·rfl
def se(h:ByteArray)(r:List ByteArray):Option aZ:=match r with
 | []=>none
 | s::q=>match eE s with
  | none=>none
  | some t=>
   if h=pY then (match q with
    | [x]=>some ⟨t,1,x,0⟩
    | _=>none)
   else if h=xN then (match q with
    | []=>some ⟨t,2,.empty,0⟩
    | _=>none)
   else if h=ff then (match q with
    | [x,n]=>(eE n).map fun k=>⟨t,3,x,k⟩
    | _=>none)
   else none
def lJ(l:aN)(w:List ByteArray):Option aN:=match w with
 | []=>none
 | h::r=>
  if h=qq then (jq r).map fun b=>{ l with an:=l.an ++ [b] }
  else if l.an = [] then none else (se h r).map fun e=>{ l with an:=GF e l.an }
theorem dA(l:aN)(h:ByteArray)(r:List ByteArray):lJ l (h::r)=if h=qq then (jq r).map fun b=>{ l with an:=l.an ++ [b] }
  else if l.an = [] then none else (se h r).map fun e=>{ l with an:=GF e l.an }:=rfl
def pn(b:au):List D:=[.str b.name,i64 b.off.lo,i64 b.off.hi,i64 b.set.lo,i64 b.set.hi]
def Kz(b:au):List D:=pn b ++ [.nils]
def OE(near:Int):Heap:=[(1000000,.box (.vv [.d (i64 near),.sl 1000001 6 0 0])),(1000001,.arr 6 (.dd []))]
def uJ(b i j:Nat)(near:Int)(init:List au)(last:au):Heap:=
 [(b,.box (.vv [.d (i64 near),.sl i 6 0 (init.length+1)])),(i,.arr 6 (.vv (bg (init.map au.cells) ++ [inj (pn last) ++ [.sl j 4 0 last.ar.length]]))),(j,.arr 4 (.dd (last.ar.map aZ.cells)))]
def Y8(near:Int)(bs:List au)(new:au):Heap:=
 [(1000000,.box (.vv [.d (i64 near),.sl 2000000 6 0 (bs.length+1)])),(2000000,.arr 6 (.dd (bs.map au.cells ++ [Kz new])))]
theorem dw(R:Nat->Nat)(A:List (List D))(last:au)(j n:Nat):kO R (.arr 6 (.vv (bg A ++ [inj (pn last) ++ [.sl j 4 0 n]]))) = .arr 6 (.vv (bg A ++ [inj (pn last) ++ [.sl (R j) 4 0 n]])):=by
 show Obj.arr 6 (.vv (aX (lZ R) _))=_;rw[aE];rfl
theorem H5{g:Nat->Option DO}{v u:List V}{d c:List D}(h:cS g v=some d)(h2:cS g u=some c):iR g [v,u]=some [d,c]:=by
 rw[iR,h,jm h2]
theorem Yr(near:Int)(w:List ByteArray)(hw:w ≠ [])(hs:∀ x∈w,x.size<=1000000)(hl:w.length<=1000000) :
  Jw Tryz.prog 123 [.ptr 1000000 0,.d (kA w)] (OE near) (fun v h'=>∃ h r b,w=h::r/\h=qq/\jq r=some b/\v = .d (.tup [])/\h'=Y8 near [] b) (fun pv h'=>lJ ⟨near,[]⟩ w=none/\pv=pF/\h'=OE near):=by
 intro σ Y st;refine yV mixed av Tryz.func123 rfl (ft:=BH) (args:=[.ptr 1000000 0,.d (kA w)]) (show oQ BH Tryz.f123 2=true from by decide +kernel) ?_
 match w,hw with
 | h::r,_=>
 conv=>whnf
 refine ag (fun h1=>?_) (fun h1=>?_)
 ·have h1:h=qq:=of_decide_eq_true h1
  conv=>whnf
  refine fE rfl (fun h2=>?_) (fun h2=>?_)
  ·have h2:r.length=5:=by
    have:=of_decide_eq_true h2;simp at this;omega
   match r,h2 with
   | [n,a,b,c,d],_=>
   conv=>whnf
   refine cD (T:=tys) av (by exact aj mixed av (by decide +kernel)) (α:=Nat×(Int×Int×Int×Int)) (fun z=>⟨[(0,.ptr 1000000 0),(1,.d (kA [h,n,a,b,c,d])),(4,.ptr 4 0),(29,.sl 29 1 0 4),(30,.d (i64 4)),(31,.d (i64 z.1))],(29,.arr 1 (.vv [[.ptr 4 1],[.ptr 4 2],[.ptr 4 3],[.ptr 4 4]]))::(4,.box (.dd [.str n,i64 z.2.1,i64 z.2.2.1,i64 z.2.2.2.1,i64 z.2.2.2.2,.nils]))::OE near,st⟩) (fun z=>z.1<=4/\(1<=z.1->eE a=some z.2.1)/\(2<=z.1->eE b=some z.2.2.1)/\(3<=z.1->eE c=some z.2.2.2.1)/\(4<=z.1->eE d=some z.2.2.2.2)) (fun z=>4-z.1) (0,(0,0,0,0)) aw ⟨by simp,by simp,by simp,by simp,by simp⟩ ?_;rintro ⟨i,x0,x1,x2,x3⟩ ⟨hi,ha,hb,hc,hd⟩;simp only at hi ha hb hc hd;obtain rfl|rfl|rfl|rfl|rfl:i=0\/i=1\/i=2\/i=3\/i=4:=by omega
   ·have dD:ByteArray.size a<=1000000000:=by have:=hs a (by simp);omega
    conv=>whnf
    refine ao (2) (by simp) (wrap_i64 (by omega)) ?_;conv=>whnf
    refine pX dD (fun k hk=>?_) (fun hk=>?_) rfl (by intro k;rfl)
    ·conv=>whnf
     exact⟨(1,(k,x1,x2,x3)),by simp only;omega,⟨by simp only;omega,by simp_all⟩,aw⟩
    ·conv=>whnf
     refine aK [] [] (OE near) rfl ⟨rfl,rfl,trivial⟩ rfl ⟨⟨?_,rfl,rfl⟩,rfl⟩;rw[dA,if_pos h1];unfold jq four;simp_all
   ·have dD:ByteArray.size b<=1000000000:=by have:=hs b (by simp);omega
    conv=>whnf
    refine ao (3) (by simp) (wrap_i64 (by omega)) ?_;conv=>whnf
    refine pX dD (fun k hk=>?_) (fun hk=>?_) rfl (by intro k;rfl)
    ·conv=>whnf
     exact⟨(2,(x0,k,x2,x3)),by simp only;omega,⟨by simp only;omega,by simp_all⟩,aw⟩
    ·conv=>whnf
     refine aK [] [] (OE near) rfl ⟨rfl,rfl,trivial⟩ rfl ⟨⟨?_,rfl,rfl⟩,rfl⟩;rw[dA,if_pos h1];unfold jq four;simp_all
   ·have dD:ByteArray.size c<=1000000000:=by have:=hs c (by simp);omega
    conv=>whnf
    refine ao (4) (by simp) (wrap_i64 (by omega)) ?_;conv=>whnf
    refine pX dD (fun k hk=>?_) (fun hk=>?_) rfl (by intro k;rfl)
    ·conv=>whnf
     exact⟨(3,(x0,x1,k,x3)),by simp only;omega,⟨by simp only;omega,by simp_all⟩,aw⟩
    ·conv=>whnf
     refine aK [] [] (OE near) rfl ⟨rfl,rfl,trivial⟩ rfl ⟨⟨?_,rfl,rfl⟩,rfl⟩;rw[dA,if_pos h1];unfold jq four;simp_all
   ·have dD:ByteArray.size d<=1000000000:=by have:=hs d (by simp);omega
    conv=>whnf
    refine ao (5) (by simp) (wrap_i64 (by omega)) ?_;conv=>whnf
    refine pX dD (fun k hk=>?_) (fun hk=>?_) rfl (by intro k;rfl)
    ·conv=>whnf
     exact⟨(4,(x0,x1,x2,k)),by simp only;omega,⟨by simp only;omega,by simp_all⟩,aw⟩
    ·conv=>whnf
     refine aK [] [] (OE near) rfl ⟨rfl,rfl,trivial⟩ rfl ⟨⟨?_,rfl,rfl⟩,rfl⟩;rw[dA,if_pos h1];unfold jq four;simp_all
   have ha:=ha (by omega);have hb:=hb (by omega);have hc:=hc (by omega);have hd:=hd (by omega);conv=>whnf
   refine ak rfl ?_;conv=>whnf
   refine ak rfl ?_;conv=>whnf
   have Ow:jq [n,a,b,c,d]=some ⟨n,⟨x0,x1⟩,⟨x2,x3⟩,[]⟩:=by simp[jq,four,ha,hb,hc,hd]
   exact aK [52] [] (Y8 near [] ⟨n,⟨x0,x1⟩,⟨x2,x3⟩,[]⟩) rfl ⟨rfl,rfl,trivial⟩ rfl ⟨⟨_,_,_,rfl,h1,Ow,rfl,rfl⟩,rfl⟩
  ·have h2:¬ r.length=5:=by
    have:=of_decide_eq_false h2;simp at this;omega
   conv=>whnf
   refine aK [] [] (OE near) rfl ⟨rfl,rfl,trivial⟩ rfl ⟨⟨?_,rfl,rfl⟩,rfl⟩;rw[dA,if_pos h1,yA h2];rfl
 ·have h1:¬ h=qq:=of_decide_eq_false h1
  have hT:lJ ⟨near,[]⟩ (h::r)=none:=by rw[dA,if_neg h1,if_pos rfl]
  conv=>whnf
  refine ag (fun h3=>?_) (fun h3=>?_)
  ·conv=>whnf
   refine fE rfl (fun h4=>?_) (fun h4=>?_)
   ·cases h4
   ·conv=>whnf
    exact aK [] [] (OE near) rfl ⟨rfl,rfl,trivial⟩ rfl ⟨⟨hT,rfl,rfl⟩,rfl⟩
  ·conv=>whnf
   refine fE rfl (fun h4=>?_) (fun h4=>?_)
   ·cases h4
   ·conv=>whnf
    exact aK [] [] (OE near) rfl ⟨rfl,rfl,trivial⟩ rfl ⟨⟨hT,rfl,rfl⟩,rfl⟩
theorem Aq(init:List au)(X:List V)(Y:Cells):(bx.vv (bg (init.map au.cells) ++ [X])).set (0+(↑init.length:Int).toNat) Y=bx.vv (bg (init.map au.cells) ++ [Y.bJ]):=by
 show bx.vv (List.set _ _ Y.bJ)=_;rw[Nat.zero_add,Int.toNat_natCast];simp[cc,List.set_append]
theorem Uh.mono{σ:Type}{P:Program}{Y:Hd σ}{f:FuncId}{args:List V}{h:Heap}{s:σ}{Q Q':V->Heap->σ->Prop}{X X':Value->Heap->σ->Prop}(hf:Uh P Y f args h s Q X)(hq:∀ v h' s',Q v h' s'->Q' v h' s')(hx:∀ pv h' s',X pv h' s'->X' pv h' s'):Uh P Y f args h s Q' X':=by
 refine⟨hf.enter,fun cx hY L F aT w hh hr=>(hf.run cx hY L F aT w hh hr).mono ?_⟩;rintro e w' (⟨x,he,v,h',s',L',F',h1,h2⟩|⟨pv,h',s',L',F',he,h1,h2⟩)
 ·exact .inl ⟨x,he,v,h',s',L',F',hq _ _ _ h1,h2⟩
 ·exact .inr ⟨pv,h',s',L',F',he,hx _ _ _ h1,h2⟩
theorem Yg(s:ByteArray)(n:Int)(hs:s.size<=1000000000)(h:eE s=some n):bq Tryz.prog 122 [.str s] (i64 n):=by
 refine tH.ofX (Q:=fun v h'=>v = .d (i64 n)/\h' = []) (X:=fun _ _=>False) ?_ (fun _ _ h=>h);intro σ Y st;refine(Yf s hs Y st).mono (fun v h' s' hh=>?_) (fun pv h' s' hh=>?_)
 ·obtain⟨⟨m,hm,hv,hh⟩,hs⟩:=hh
  rw[h]at hm;cases hm;exact⟨⟨hv,hh⟩,hs⟩
 ·obtain⟨⟨hm,_⟩,_⟩:=hh
  rw[h]at hm;cases hm
set_option maxHeartbeats 4000000 in
theorem Ys(near:Int)(init:List au)(last:au)(w:List ByteArray)(hw:w ≠ [])(hs:∀ x∈w,x.size<=1000000)(hl:w.length<=1000000)(gN:init.length<=100000)(IS:last.ar.length<=100000)
  (O4:∀ s x n,w = [ff,s,x,n]->eE s≠none->eE n≠none) :
  Jw Tryz.prog 123 [.ptr 1000000 0,.d (kA w)] (uJ 1000000 1000001 1000002 near init last)
   (fun v h'=>v = .d (.tup []) /\ ∃ h r,w=h::r/\((h=qq /\ ∃ b,jq r=some b/\h'=Y8 near (init ++ [last]) b)\/(¬ h=qq /\ ∃ e,se h r=some e/\h'=uJ 1000000 1000001 2000000 near init { last with ar:=last.ar ++ [e] })))
   (fun pv h'=>lJ ⟨near,init ++ [last]⟩ w=none/\pv=pF/\h'=uJ 1000000 1000001 1000002 near init last):=by
 intro σ Y st;refine yV mixed av Tryz.func123 rfl (ft:=BH) (args:=[.ptr 1000000 0,.d (kA w)]) (show oQ BH Tryz.f123 2=true from by decide +kernel) ?_
 match w,hw with
 | h::r,_=>
 conv=>whnf
 refine ag (fun h1=>?_) (fun h1=>?_)
 ·have h1:h=qq:=of_decide_eq_true h1
  conv=>whnf
  refine fE rfl (fun h2=>?_) (fun h2=>?_)
  ·have h2:r.length=5:=by
    have:=of_decide_eq_true h2;simp at this;omega
   match r,h2 with
   | [n,a,b,c,d],_=>
   conv=>whnf
   refine cD (T:=tys) av (by exact aj mixed av (by decide +kernel)) (α:=Nat×(Int×Int×Int×Int)) (fun z=>⟨[(0,.ptr 1000000 0),(1,.d (kA [h,n,a,b,c,d])),(4,.ptr 4 0),(29,.sl 29 1 0 4),(30,.d (i64 4)),(31,.d (i64 z.1))],(29,.arr 1 (.vv [[.ptr 4 1],[.ptr 4 2],[.ptr 4 3],[.ptr 4 4]]))::(4,.box (.dd [.str n,i64 z.2.1,i64 z.2.2.1,i64 z.2.2.2.1,i64 z.2.2.2.2,.nils]))::uJ 1000000 1000001 1000002 near init last,st⟩) (fun z=>z.1<=4/\(1<=z.1->eE a=some z.2.1)/\(2<=z.1->eE b=some z.2.2.1)/\(3<=z.1->eE c=some z.2.2.2.1)/\(4<=z.1->eE d=some z.2.2.2.2)) (fun z=>4-z.1) (0,(0,0,0,0)) (Wk.sub ⟨(by first|rfl|(simp only[List.length_map];rfl)),(by first|rfl|(simp only[List.length_map];rfl)),(by first|rfl|(simp only[List.length_map];rfl)),(by first|rfl|(simp only[List.length_map];rfl)),(by first|rfl|(simp only[List.length_map];rfl)),(by first|rfl|(simp only[List.length_map];rfl)),trivial⟩ ⟨(by first|rfl|(simp only[List.length_map];rfl)),(by first|rfl|(simp only[List.length_map];rfl)),(by first|rfl|(simp only[List.length_map];rfl)),(by first|rfl|(show some (Obj.arr 6 (.vv (aX _ (aX _ (bg _++_)))))=_;rw[aE,aE];rfl)),(by first|rfl|(simp only[List.length_map];rfl)),trivial⟩) ⟨by simp,by simp,by simp,by simp,by simp⟩ ?_;rintro ⟨i,x0,x1,x2,x3⟩ ⟨hi,ha,hb,hc,hd⟩;simp only at hi ha hb hc hd;obtain rfl|rfl|rfl|rfl|rfl:i=0\/i=1\/i=2\/i=3\/i=4:=by omega
   ·have dD:ByteArray.size a<=1000000000:=by have:=hs a (by simp);omega
    conv=>whnf
    refine ao (2) (by simp) (wrap_i64 (by omega)) ?_;conv=>whnf
    refine pX dD (fun k hk=>?_) (fun hk=>?_) rfl (by intro k;rfl)
    ·conv=>whnf
     exact⟨(1,(k,x1,x2,x3)),by simp only;omega,⟨by simp only;omega,by simp_all⟩,(Wk.sub ⟨(by first|rfl|(simp only[List.length_map];rfl)),(by first|rfl|(simp only[List.length_map];rfl)),(by first|rfl|(simp only[List.length_map];rfl)),(by first|rfl|(simp only[List.length_map];rfl)),(by first|rfl|(simp only[List.length_map];rfl)),(by first|rfl|(simp only[List.length_map];rfl)),trivial⟩ ⟨(by first|rfl|(simp only[List.length_map];rfl)),(by first|rfl|(simp only[List.length_map];rfl)),(by first|rfl|(simp only[List.length_map];rfl)),(by first|rfl|(show some (Obj.arr 6 (.vv (aX _ (aX _ (bg _++_)))))=_;rw[aE,aE];rfl)),(by first|rfl|(simp only[List.length_map];rfl)),trivial⟩)⟩
    ·conv=>whnf
     refine aK [] [] (uJ 1000000 1000001 1000002 near init last) rfl ⟨rfl,(congrArg some (dw (gm []) (init.map au.cells) last 1000002 last.ar.length)).symm,rfl,trivial⟩ rfl ⟨⟨?_,rfl,rfl⟩,rfl⟩;rw[dA,if_pos h1];unfold jq four;simp_all
   ·have dD:ByteArray.size b<=1000000000:=by have:=hs b (by simp);omega
    conv=>whnf
    refine ao (3) (by simp) (wrap_i64 (by omega)) ?_;conv=>whnf
    refine pX dD (fun k hk=>?_) (fun hk=>?_) rfl (by intro k;rfl)
    ·conv=>whnf
     exact⟨(2,(x0,k,x2,x3)),by simp only;omega,⟨by simp only;omega,by simp_all⟩,(Wk.sub ⟨(by first|rfl|(simp only[List.length_map];rfl)),(by first|rfl|(simp only[List.length_map];rfl)),(by first|rfl|(simp only[List.length_map];rfl)),(by first|rfl|(simp only[List.length_map];rfl)),(by first|rfl|(simp only[List.length_map];rfl)),(by first|rfl|(simp only[List.length_map];rfl)),trivial⟩ ⟨(by first|rfl|(simp only[List.length_map];rfl)),(by first|rfl|(simp only[List.length_map];rfl)),(by first|rfl|(simp only[List.length_map];rfl)),(by first|rfl|(show some (Obj.arr 6 (.vv (aX _ (aX _ (bg _++_)))))=_;rw[aE,aE];rfl)),(by first|rfl|(simp only[List.length_map];rfl)),trivial⟩)⟩
    ·conv=>whnf
     refine aK [] [] (uJ 1000000 1000001 1000002 near init last) rfl ⟨rfl,(congrArg some (dw (gm []) (init.map au.cells) last 1000002 last.ar.length)).symm,rfl,trivial⟩ rfl ⟨⟨?_,rfl,rfl⟩,rfl⟩;rw[dA,if_pos h1];unfold jq four;simp_all
   ·have dD:ByteArray.size c<=1000000000:=by have:=hs c (by simp);omega
    conv=>whnf
    refine ao (4) (by simp) (wrap_i64 (by omega)) ?_;conv=>whnf
    refine pX dD (fun k hk=>?_) (fun hk=>?_) rfl (by intro k;rfl)
    ·conv=>whnf
     exact⟨(3,(x0,x1,k,x3)),by simp only;omega,⟨by simp only;omega,by simp_all⟩,(Wk.sub ⟨(by first|rfl|(simp only[List.length_map];rfl)),(by first|rfl|(simp only[List.length_map];rfl)),(by first|rfl|(simp only[List.length_map];rfl)),(by first|rfl|(simp only[List.length_map];rfl)),(by first|rfl|(simp only[List.length_map];rfl)),(by first|rfl|(simp only[List.length_map];rfl)),trivial⟩ ⟨(by first|rfl|(simp only[List.length_map];rfl)),(by first|rfl|(simp only[List.length_map];rfl)),(by first|rfl|(simp only[List.length_map];rfl)),(by first|rfl|(show some (Obj.arr 6 (.vv (aX _ (aX _ (bg _++_)))))=_;rw[aE,aE];rfl)),(by first|rfl|(simp only[List.length_map];rfl)),trivial⟩)⟩
    ·conv=>whnf
     refine aK [] [] (uJ 1000000 1000001 1000002 near init last) rfl ⟨rfl,(congrArg some (dw (gm []) (init.map au.cells) last 1000002 last.ar.length)).symm,rfl,trivial⟩ rfl ⟨⟨?_,rfl,rfl⟩,rfl⟩;rw[dA,if_pos h1];unfold jq four;simp_all
   ·have dD:ByteArray.size d<=1000000000:=by have:=hs d (by simp);omega
    conv=>whnf
    refine ao (5) (by simp) (wrap_i64 (by omega)) ?_;conv=>whnf
    refine pX dD (fun k hk=>?_) (fun hk=>?_) rfl (by intro k;rfl)
    ·conv=>whnf
     exact⟨(4,(x0,x1,x2,k)),by simp only;omega,⟨by simp only;omega,by simp_all⟩,(Wk.sub ⟨(by first|rfl|(simp only[List.length_map];rfl)),(by first|rfl|(simp only[List.length_map];rfl)),(by first|rfl|(simp only[List.length_map];rfl)),(by first|rfl|(simp only[List.length_map];rfl)),(by first|rfl|(simp only[List.length_map];rfl)),(by first|rfl|(simp only[List.length_map];rfl)),trivial⟩ ⟨(by first|rfl|(simp only[List.length_map];rfl)),(by first|rfl|(simp only[List.length_map];rfl)),(by first|rfl|(simp only[List.length_map];rfl)),(by first|rfl|(show some (Obj.arr 6 (.vv (aX _ (aX _ (bg _++_)))))=_;rw[aE,aE];rfl)),(by first|rfl|(simp only[List.length_map];rfl)),trivial⟩)⟩
    ·conv=>whnf
     refine aK [] [] (uJ 1000000 1000001 1000002 near init last) rfl ⟨rfl,(congrArg some (dw (gm []) (init.map au.cells) last 1000002 last.ar.length)).symm,rfl,trivial⟩ rfl ⟨⟨?_,rfl,rfl⟩,rfl⟩;rw[dA,if_pos h1];unfold jq four;simp_all
   have ha:=ha (by omega);have hb:=hb (by omega);have hc:=hc (by omega);have hd:=hd (by omega);conv=>whnf
   refine ak rfl ?_;conv=>whnf
   rw[show aX (bp 52) (aX (bp 51) (bg (init.map au.cells) ++ [inj (pn last) ++ [V.sl 1000002 4 0 last.ar.length]]))=bg (init.map au.cells) ++ [inj (pn last) ++ [V.sl 1000002 4 0 last.ar.length]] from by rw[aE,aE];rfl];refine ak (by simp[bx.len,cc]) ?_;refine aM (by
    show(true && !eU 52 (List.flatten (bg (init.map au.cells) ++ [_]++_)))=true;rw[List.append_assoc,il];rfl) ?_
   refine aM (decide_eq_true (by
    show((bg (init.map au.cells) ++ [_]).length+1)*72<=140737488355328;simp[cc];omega)) ?_
   conv=>whnf
   refine mb [1000002,52] (by
    show ck (List.flatten (bg (init.map au.cells) ++ [inj (pn last) ++ [V.sl 1000002 4 0 last.ar.length]]++bg [[D.str n,i64 x0,i64 x1,i64 x2,i64 x3,.nils]]))++([52] ++ [])=_;rw[List.append_assoc,fS];rfl) ?_
   conv=>whnf
   have Ow:jq [n,a,b,c,d]=some ⟨n,⟨x0,x1⟩,⟨x2,x3⟩,[]⟩:=by simp[jq,four,ha,hb,hc,hd]
   generalize uz:(⟨n,⟨x0,x1⟩,⟨x2,x3⟩,[]⟩:au)=new at Ow;have S6 : [D.str n,i64 x0,i64 x1,i64 x2,i64 x3,.nils]=Kz new:=by rw[<- uz];rfl
   refine oV (l':=[]) (h':=[(1000000,.box (.vv [.d (i64 near),.sl 52 6 0 (init.length+2)])),(52,.arr 6 (.dd (init.map au.cells ++ [last.cells,Kz new])))]) ((Wk.s4 1 [1000002] 52 (sz:=6) (vs:=bg (init.map au.cells)++([inj (pn last) ++ [V.sl 1000002 4 0 last.ar.length]]++bg [[D.str n,i64 x0,i64 x1,i64 x2,i64 x3,.nils]])) (ds:=init.map au.cells ++ [last.cells,Kz new]) ?_ (iA (H5 (ky (a:=pn last) (aC (fq (es':=last.ar.map aZ.cells) rfl rfl (by simp)) rfl)) (by rw[<- S6];rfl)) _)).trans (Wk.sub trivial ⟨?_,rfl,trivial⟩)) rfl rfl ?_
   ·exact congrArg (fun z=>some (Obj.arr 6 (.vv z))) (List.append_assoc _ _ _)
   ·show some (Obj.box (.vv [.d (i64 near),.sl 52 6 0 ((bg (init.map au.cells) ++ [inj (pn last) ++ [V.sl 1000002 4 0 last.ar.length]]).length+1)]))=_
    simp[cc]
   ·refine aK [52] [] (Y8 near (init ++ [last]) new) rfl ⟨?_,?_,trivial⟩ rfl ⟨⟨rfl,_,_,rfl,.inl ⟨h1,new,Ow,rfl⟩⟩,rfl⟩
    ·show some (Obj.box (.vv [.d (i64 near),.sl 52 6 0 (init.length+2)]))=some (Obj.box (.vv [.d (i64 near),.sl 52 6 0 ((init ++ [last]).length+1)]))
     simp
    ·show some (Obj.arr 6 (.dd (init.map au.cells ++ [last.cells,Kz new])))=some (Obj.arr 6 (.dd ((init ++ [last]).map au.cells ++ [Kz new])))
     simp
  ·have h2:¬ r.length=5:=by
    have:=of_decide_eq_false h2;simp at this;omega
   conv=>whnf
   refine aK [] [] (uJ 1000000 1000001 1000002 near init last) rfl ⟨rfl,(congrArg some (dw (gm []) (init.map au.cells) last 1000002 last.ar.length)).symm,rfl,trivial⟩ rfl ⟨⟨?_,rfl,rfl⟩,rfl⟩;rw[dA,if_pos h1,yA h2];rfl
 ·have h1:¬ h=qq:=of_decide_eq_false h1
  have hT:lJ ⟨near,init ++ [last]⟩ (h::r)=(se h r).map fun e=>(⟨near,GF e (init ++ [last])⟩:aN):=by rw[dA,if_neg h1,if_neg (by simp)]
  cases r with
  | nil=>
   conv=>whnf
   refine fE rfl (fun h4=>by cases h4) (fun _=>?_);conv=>whnf
   exact aK [] [] (uJ 1000000 1000001 1000002 near init last) rfl ⟨rfl,(congrArg some (dw (gm []) (init.map au.cells) last 1000002 last.ar.length)).symm,rfl,trivial⟩ rfl ⟨⟨hT,rfl,rfl⟩,rfl⟩
  | cons s q=>
   have Lm:s.size<=1000000000:=by have:=hs s (by simp);omega
   conv=>whnf
   refine ag (fun _=>?_) (fun h2=>absurd h2 (by simp;omega));conv=>whnf
   refine fE rfl (fun _=>?_) (fun h2=>absurd h2 (by first|(simp;done)|(simp;omega)));conv=>whnf
   refine pX Lm (fun t ht=>?_) (fun ht=>?_) rfl (by intro k;rfl);case refine_2=>
    conv=>whnf
    refine aK [] [] (uJ 1000000 1000001 1000002 near init last) rfl ⟨rfl,(by first|exact(congrArg some (dw (gm []) (init.map au.cells) last 1000002 last.ar.length)).symm|(show some (Obj.arr 6 (.vv (aX _ (bg _++_))))=_;rw[aE];exact(congrArg some (dw (gm []) (init.map au.cells) last 1000002 last.ar.length)).symm)),rfl,trivial⟩ rfl ⟨⟨?_,rfl,rfl⟩,rfl⟩;rw[hT];unfold se;simp only[ht];rfl
   conv=>whnf
   refine ag (fun h3=>?_) (fun h3=>?_)
   ·have h3:h=pY:=of_decide_eq_true h3
    conv=>whnf
    refine eg.OF ?_;refine fE rfl (fun hq=>?_) (fun hq=>?_);case refine_2=>
     have hq:¬ q.length=1:=by
      have:=of_decide_eq_false hq;simp at this;omega
     conv=>whnf
     refine aK [] [] (uJ 1000000 1000001 1000002 near init last) rfl ⟨rfl,(by first|exact(congrArg some (dw (gm []) (init.map au.cells) last 1000002 last.ar.length)).symm|(show some (Obj.arr 6 (.vv (aX _ (bg _++_))))=_;rw[aE];exact(congrArg some (dw (gm []) (init.map au.cells) last 1000002 last.ar.length)).symm)),rfl,trivial⟩ rfl ⟨⟨?_,rfl,rfl⟩,rfl⟩;rw[hT];unfold se;simp only[ht,if_pos h3];(match q,hq with | [],_=>rfl | [x],h=>exact absurd rfl h|x::y::r,_=>rfl)
    refine⟨⟨[(0,.ptr 1000000 0),(1,.d (kA (h::s::q))),(7,.ptr 7 0)],(7,.box (.dd [i64 t,i64 0,.str ⟨#[]⟩,i64 0]))::uJ 1000000 1000001 1000002 near init last,st⟩,Wk.sub ⟨rfl,rfl,rfl,trivial⟩ ⟨rfl,rfl,(by show some (Obj.arr 6 (.vv (aX _ (bg _++_))))=_;rw[aE];rfl),rfl,trivial⟩,?_⟩;have hq:q.length=1:=by
     have:=of_decide_eq_true hq;simp at this;omega
    match q,hq with
    | [x],_=>
    conv=>whnf
    refine ao ((init.length:Nat):Int) (by simp) (wrap_i64 (by omega)) ?_;conv=>whnf
    refine ag (fun _=>?_) (fun h=>absurd h (by simp;omega));conv=>whnf
    rw[show aX (bp 128) (aX (bp 127) (bg (init.map au.cells) ++ [inj (pn last) ++ [V.sl 1000002 4 0 last.ar.length]]))=bg (init.map au.cells) ++ [inj (pn last) ++ [V.sl 1000002 4 0 last.ar.length]] from by rw[aE,aE];rfl];refine cJ (inj (pn last) ++ [V.sl 1000002 4 0 last.ar.length]) (by rw[Nat.zero_add,Int.toNat_natCast];simp[cc]) ?_;conv=>whnf
    refine ak rfl ?_;conv=>whnf
    refine ak (by simp[bx.len]) ?_;conv=>whnf
    refine aM (decide_eq_true (by
     show((last.ar.map aZ.cells).length+1)*40<=140737488355328;rw[List.length_map];omega)) ?_
    conv=>whnf
    refine cJ (inj (pn last) ++ [V.sl 1000002 4 0 last.ar.length]) (by rw[Nat.zero_add,Int.toNat_natCast];simp[cc]) ?_;conv=>whnf
    rw[Aq];refine mb [128] (by
     show ck (List.flatten (bg (init.map au.cells) ++ [inj (pn last) ++ [V.sl 128 4 0 _]])) ++ []=_;rw[fS];rfl) ?_
    conv=>whnf
    have hE:se h (s :: [x])=some (⟨t,1,x,0⟩:aZ):=(by unfold se;simp only[ht,if_pos h3]);generalize hee:(⟨t,1,x,0⟩:aZ)=ee at hE;have hlen:(last.ar ++ [ee]).length=(last.ar.map aZ.cells).length+1:=by simp
    refine aK [128] [] (uJ 1000000 1000001 2000000 near init { last with ar:=last.ar ++ [ee] }) rfl ⟨rfl,?_,?_,trivial⟩ rfl ⟨⟨rfl,_,_,rfl,.inr ⟨h1,ee,hE,rfl⟩⟩,rfl⟩
    ·show some (Obj.arr 6 (.vv (bg (init.map au.cells) ++ [inj (pn last) ++ [V.sl 128 4 0 ((last.ar.map aZ.cells).length+1)]])))=some (kO (gm [128]) (.arr 6 (.vv (bg (init.map au.cells) ++ [inj (pn last) ++ [.sl 2000000 4 0 (last.ar ++ [ee]).length]]))))
     rw[dw,hlen];rfl
    ·show _=some (Obj.arr 4 (.dd ((last.ar ++ [ee]).map aZ.cells)))
     rw[<- hee,List.map_append];rfl
   ·have h3:¬ h=pY:=of_decide_eq_false h3
    conv=>whnf
    refine ag (fun h4=>?_) (fun h4=>?_)
    ·have h4:h=xN:=of_decide_eq_true h4
     conv=>whnf
     refine eg.OF ?_;refine fE rfl (fun hq=>?_) (fun hq=>?_);case refine_2=>
      have hq:¬ q.length=0:=by
       have:=of_decide_eq_false hq;simp at this;omega
      conv=>whnf
      refine aK [] [] (uJ 1000000 1000001 1000002 near init last) rfl ⟨rfl,(by first|exact(congrArg some (dw (gm []) (init.map au.cells) last 1000002 last.ar.length)).symm|(show some (Obj.arr 6 (.vv (aX _ (bg _++_))))=_;rw[aE];exact(congrArg some (dw (gm []) (init.map au.cells) last 1000002 last.ar.length)).symm)),rfl,trivial⟩ rfl ⟨⟨?_,rfl,rfl⟩,rfl⟩;rw[hT];unfold se;simp only[ht,if_neg h3,if_pos h4];(match q,hq with | [],h=>exact absurd rfl h|x::r,_=>rfl)
     refine⟨⟨[(0,.ptr 1000000 0),(1,.d (kA (h::s::q))),(7,.ptr 7 0)],(7,.box (.dd [i64 t,i64 0,.str ⟨#[]⟩,i64 0]))::uJ 1000000 1000001 1000002 near init last,st⟩,Wk.sub ⟨rfl,rfl,rfl,trivial⟩ ⟨rfl,rfl,(by show some (Obj.arr 6 (.vv (aX _ (bg _++_))))=_;rw[aE];rfl),rfl,trivial⟩,?_⟩;have hq:q.length=0:=by
      have:=of_decide_eq_true hq;simp at this;omega
     match q,hq with
     | [],_=>
     conv=>whnf
     refine ao ((init.length:Nat):Int) (by simp) (wrap_i64 (by omega)) ?_;conv=>whnf
     refine ag (fun _=>?_) (fun h=>absurd h (by simp;omega));conv=>whnf
     rw[show aX (bp 128) (aX (bp 127) (bg (init.map au.cells) ++ [inj (pn last) ++ [V.sl 1000002 4 0 last.ar.length]]))=bg (init.map au.cells) ++ [inj (pn last) ++ [V.sl 1000002 4 0 last.ar.length]] from by rw[aE,aE];rfl];refine cJ (inj (pn last) ++ [V.sl 1000002 4 0 last.ar.length]) (by rw[Nat.zero_add,Int.toNat_natCast];simp[cc]) ?_;conv=>whnf
     refine ak rfl ?_;conv=>whnf
     refine ak (by simp[bx.len]) ?_;conv=>whnf
     refine aM (decide_eq_true (by
      show((last.ar.map aZ.cells).length+1)*40<=140737488355328;rw[List.length_map];omega)) ?_
     conv=>whnf
     refine cJ (inj (pn last) ++ [V.sl 1000002 4 0 last.ar.length]) (by rw[Nat.zero_add,Int.toNat_natCast];simp[cc]) ?_;conv=>whnf
     rw[Aq];refine mb [128] (by
      show ck (List.flatten (bg (init.map au.cells) ++ [inj (pn last) ++ [V.sl 128 4 0 _]])) ++ []=_;rw[fS];rfl) ?_
     conv=>whnf
     have hE:se h (s :: [])=some (⟨t,2,.empty,0⟩:aZ):=(by unfold se;simp only[ht,if_neg h3,if_pos h4]);generalize hee:(⟨t,2,.empty,0⟩:aZ)=ee at hE;have hlen:(last.ar ++ [ee]).length=(last.ar.map aZ.cells).length+1:=by simp
     refine aK [128] [] (uJ 1000000 1000001 2000000 near init { last with ar:=last.ar ++ [ee] }) rfl ⟨rfl,?_,?_,trivial⟩ rfl ⟨⟨rfl,_,_,rfl,.inr ⟨h1,ee,hE,rfl⟩⟩,rfl⟩
     ·show some (Obj.arr 6 (.vv (bg (init.map au.cells) ++ [inj (pn last) ++ [V.sl 128 4 0 ((last.ar.map aZ.cells).length+1)]])))=some (kO (gm [128]) (.arr 6 (.vv (bg (init.map au.cells) ++ [inj (pn last) ++ [.sl 2000000 4 0 (last.ar ++ [ee]).length]]))))
      rw[dw,hlen];rfl
     ·show _=some (Obj.arr 4 (.dd ((last.ar ++ [ee]).map aZ.cells)))
      rw[<- hee,List.map_append];rfl
    ·have h4:¬ h=xN:=of_decide_eq_false h4
     conv=>whnf
     refine ag (fun h5=>?_) (fun h5=>?_)
     ·have h5:h=ff:=of_decide_eq_true h5
      conv=>whnf
      refine eg.OF ?_;refine fE rfl (fun hq=>?_) (fun hq=>?_);case refine_2=>
       have hq:¬ q.length=2:=by
        have:=of_decide_eq_false hq;simp at this;omega
       conv=>whnf
       refine aK [] [] (uJ 1000000 1000001 1000002 near init last) rfl ⟨rfl,(by first|exact(congrArg some (dw (gm []) (init.map au.cells) last 1000002 last.ar.length)).symm|(show some (Obj.arr 6 (.vv (aX _ (bg _++_))))=_;rw[aE];exact(congrArg some (dw (gm []) (init.map au.cells) last 1000002 last.ar.length)).symm)),rfl,trivial⟩ rfl ⟨⟨?_,rfl,rfl⟩,rfl⟩;rw[hT];unfold se;simp only[ht,if_neg h3,if_neg h4,if_pos h5];(match q,hq with | [],_=>rfl | [x],_=>rfl | [x,y],h=>exact absurd rfl h|x::y::z::r,_=>rfl)
      refine⟨⟨[(0,.ptr 1000000 0),(1,.d (kA (h::s::q))),(7,.ptr 7 0)],(7,.box (.dd [i64 t,i64 0,.str ⟨#[]⟩,i64 0]))::uJ 1000000 1000001 1000002 near init last,st⟩,Wk.sub ⟨rfl,rfl,rfl,trivial⟩ ⟨rfl,rfl,(by show some (Obj.arr 6 (.vv (aX _ (bg _++_))))=_;rw[aE];rfl),rfl,trivial⟩,?_⟩;have hq:q.length=2:=by
       have:=of_decide_eq_true hq;simp at this;omega
      match q,hq with
      | [x,n],_=>
      obtain⟨k,hk⟩:∃ k,eE n=some k:=by
       cases hk:eE n with
       | some k=>exact⟨k,rfl⟩
       | none=>exact absurd hk (O4 s x n (by rw[h5]) (by rw[ht];simp))
      conv=>whnf
      refine ax (Yg n k (by have:=hs n (by simp);omega) hk) rfl rfl ?_;conv=>whnf
      refine ao ((init.length:Nat):Int) (by simp) (wrap_i64 (by omega)) ?_;conv=>whnf
      refine ag (fun _=>?_) (fun h=>absurd h (by simp;omega));conv=>whnf
      rw[show aX (bp 128) (aX (bp 127) (bg (init.map au.cells) ++ [inj (pn last) ++ [V.sl 1000002 4 0 last.ar.length]]))=bg (init.map au.cells) ++ [inj (pn last) ++ [V.sl 1000002 4 0 last.ar.length]] from by rw[aE,aE];rfl];refine cJ (inj (pn last) ++ [V.sl 1000002 4 0 last.ar.length]) (by rw[Nat.zero_add,Int.toNat_natCast];simp[cc]) ?_;conv=>whnf
      refine ak rfl ?_;conv=>whnf
      refine ak (by simp[bx.len]) ?_;conv=>whnf
      refine aM (decide_eq_true (by
       show((last.ar.map aZ.cells).length+1)*40<=140737488355328;rw[List.length_map];omega)) ?_
      conv=>whnf
      refine cJ (inj (pn last) ++ [V.sl 1000002 4 0 last.ar.length]) (by rw[Nat.zero_add,Int.toNat_natCast];simp[cc]) ?_;conv=>whnf
      rw[Aq];refine mb [128] (by
       show ck (List.flatten (bg (init.map au.cells) ++ [inj (pn last) ++ [V.sl 128 4 0 _]])) ++ []=_;rw[fS];rfl) ?_
      conv=>whnf
      have hE:se h (s :: [x,n])=some (⟨t,3,x,k⟩:aZ):=(by unfold se;simp only[ht,if_neg h3,if_neg h4,if_pos h5,hk];rfl);generalize hee:(⟨t,3,x,k⟩:aZ)=ee at hE;have hlen:(last.ar ++ [ee]).length=(last.ar.map aZ.cells).length+1:=by simp
      refine aK [128] [] (uJ 1000000 1000001 2000000 near init { last with ar:=last.ar ++ [ee] }) rfl ⟨rfl,?_,?_,trivial⟩ rfl ⟨⟨rfl,_,_,rfl,.inr ⟨h1,ee,hE,rfl⟩⟩,rfl⟩
      ·show some (Obj.arr 6 (.vv (bg (init.map au.cells) ++ [inj (pn last) ++ [V.sl 128 4 0 ((last.ar.map aZ.cells).length+1)]])))=some (kO (gm [128]) (.arr 6 (.vv (bg (init.map au.cells) ++ [inj (pn last) ++ [.sl 2000000 4 0 (last.ar ++ [ee]).length]]))))
       rw[dw,hlen];rfl
      ·show _=some (Obj.arr 4 (.dd ((last.ar ++ [ee]).map aZ.cells)))
       rw[<- hee,List.map_append];rfl
     ·have h5:¬ h=ff:=of_decide_eq_false h5
      conv=>whnf
      refine fE rfl (fun h6=>by cases h6) (fun _=>?_);conv=>whnf
      refine aK [] [] (uJ 1000000 1000001 1000002 near init last) rfl ⟨rfl,(by first|exact(congrArg some (dw (gm []) (init.map au.cells) last 1000002 last.ar.length)).symm|(show some (Obj.arr 6 (.vv (aX _ (bg _++_))))=_;rw[aE];exact(congrArg some (dw (gm []) (init.map au.cells) last 1000002 last.ar.length)).symm)),rfl,trivial⟩ rfl ⟨⟨?_,rfl,rfl⟩,rfl⟩;rw[hT];unfold se;simp only[ht,if_neg h3,if_neg h4,if_neg h5];rfl
set_option maxHeartbeats 4000000 in
theorem Uc(near:Int)(init:List au)(last:au)(s x n:ByteArray)(t:Int)(gN:init.length<=100000)(Lm:s.size<=1000000)(hns:n.size<=1000000)(ht:eE s=some t)(hn:eE n=none) :
  Jw Tryz.prog 123 [.ptr 1000000 0,.d (kA [ff,s,x,n])] (uJ 1000000 1000001 1000002 near init last) (fun _ _=>False) (fun pv h'=>pv=pF/\h'=uJ 1000000 1000001 1000002 near init last):=by
 intro σ Y st;refine yV mixed av Tryz.func123 rfl (ft:=BH.less 21) (args:=[.ptr 1000000 0,.d (kA [ff,s,x,n])]) (show oQ (BH.less 21) Tryz.f123 2=true from by decide +kernel) ?_;conv=>whnf
 refine fE rfl (fun _=>?_) (fun h2=>absurd h2 (by first|(simp;done)|(simp;omega)));conv=>whnf
 refine pX (by omega) (fun t2 M4=>?_) (fun M4=>by rw[ht]at M4;cases M4) rfl (by intro k;rfl);conv=>whnf
 refine eg.OF ?_;refine fE rfl (fun _=>?_) (fun h2=>absurd h2 (by first|(simp;done)|(simp;omega)));refine⟨⟨[(0,.ptr 1000000 0),(1,.d (kA [ff,s,x,n])),(7,.ptr 7 0)],(7,.box (.dd [i64 t2,i64 0,.str ⟨#[]⟩,i64 0]))::uJ 1000000 1000001 1000002 near init last,st⟩,Wk.sub ⟨rfl,rfl,rfl,trivial⟩ ⟨rfl,rfl,(by show some (Obj.arr 6 (.vv (aX _ (bg _++_))))=_;rw[aE];rfl),rfl,trivial⟩,?_⟩;conv=>whnf
 refine Ee mixed av [[],[0],[1],[],[3],[4],[5],[],[7,6],[0,1,2,7,8],[9,2,8,0,1,7],[0,1,2,3,4,5,6,7,8,9,10],[11,6,10,0,1,2,3,4,5,7,8,9]] (by decide +kernel) ?_;have aa5:n.size<=1000000000:=by omega
 have ob:∀ k,eE n≠some k:=fun k hk=>by rw[hn]at hk;cases hk
 conv=>whnf
 repeat' (first
  | (refine And.intro ?_ ?_<;>conv=>whnf)
  | trivial
  | (refine pX aa5 (fun k hk=>absurd hk (ob k)) (fun _=>?_) rfl (by intro k;rfl);(conv=>whnf);exact aK [] [] (uJ 1000000 1000001 1000002 near init last) rfl ⟨rfl,(congrArg some (dw (gm []) (init.map au.cells) last 1000002 last.ar.length)).symm,rfl,trivial⟩ rfl ⟨⟨rfl,rfl⟩,rfl⟩))
end Go.PX
namespace Go.PX
open Go.RowKit
def Cw(P:Program)(g:FuncId)(u u':FrameMode)(h h':Heap):Prop:=
 ∀ {σ:Type} (cx:Cx σ),oT P cx -> ∀ (L:Loc) (F:Nat->Nat) (s:σ) (w:World),a7 cx L F h s w ->
  CallsDIn Fence.wide 0 P g #[.pointer (some ⟨L.ρ 1000000,0,none⟩),.pointer (some ⟨L.ρ 1000001,0,none⟩)] u w fun e u2 w'=>(∃ x,e = .returned x)/\u2=u' /\ ∃ L' F',a7 cx L' F' h' s w'/\Tr F w F' w'/\nz L L'
def Ju{σ:Type}(P:Program)(T:fA)(fn:Func)(g:FuncId)(c e:Nat)(r:D)(s0:σ)(u:FrameMode)(en:Env)(h:Heap)(s:σ):Prop:=
 get en c=some (.ptr 1000000 0)/\get en e=some (.ptr 1000001 0) /\ ∃ u' hR,settle u' = .returning/\Cw P g u u' h hR /\
  FP T [(c,.ptr 1000000 0),(e,.ptr 1000001 0)] hR fn.results.toList fun l=>p9 l hR s fun v h' s'=>v = .d r/\h' = []/\s'=s0
section
variable {P : Program} {T : fA} {σ : Type}
theorem qU{cx:Cx σ}{L:Loc}{F0:Nat->Nat}{w0:World}{h:Heap}{s:σ}{fn:Func}{tmps:Array Value}{R:Ending->World->Prop}{ds:List Deferred}{u:FrameMode}(hu:u ≠ .run):∀ (m:List Nat) {F:Nat->Nat} {w:World},a7 cx L F h s w->Tr F0 w0 F w ->
  (∀ b∈m,w.heap[b]?=some (.deferred (some []))/\¬ cx.C s b)->m.Nodup->(∀ w',a7 cx L F h s w'->Tr F w F w'->LeavesInM Fence.wide 0 P fn tmps R ds u w') ->
  LeavesInM Fence.wide 0 P fn tmps R (m.map mark++ds) u w
 | [],F,w,hh,tr,hm,hn,hR=>hR w hh (Tr.refl F w)
 | b::m,F,w,hh,tr,hm,hn,hR=>by
  obtain⟨hb,hC⟩:=hm b (List.mem_cons_self ..);obtain⟨nn,pN⟩:=hh.H4 hb hC;simp only[List.map_cons,List.cons_append,LeavesInM];refine⟨hu,.inl ⟨b,w.putObj b (.deferred none),rfl,?_,?_⟩⟩
  ·simp[Instr.takeDeferred,Sem.run_bind,getObj,setObj,Sem.run,hb,Result.andThen,World.putObj]
  ·have vj:=List.nodup_cons.1 hn
   refine qU hu m nn (Tr.trans tr pN) (fun x hx=>?_) vj.2 fun w' h1 h2=>hR w' h1 (Tr.trans pN h2);have Kf:x≠b:=by rintro rfl;exact vj.1 hx
   refine⟨?_,(hm x (List.mem_cons_of_mem _ hx)).2⟩;rw[<- (hm x (List.mem_cons_of_mem _ hx)).1];simp[World.putObj,Array.getElem?_setIfInBounds_ne (Ne.symm Kf)]
theorem a7.QN{cx GL:Cx σ}{L:Loc}{F:Nat->Nat}{h:Heap}{s:σ}{w:World}(hh:a7 cx L F h s w)(h1:GL.C=cx.C)(h2:GL.HG=cx.HG)(h3:GL.yv=cx.yv):a7 GL L F h s w:=by
 refine⟨by rw[h2];exact hh.hg,fun b hb=>hh.hP b (by rw[<- h1];exact hb),hh.fresh,fun id o ho=>by rw[h3];exact hh.obj id o ho,fun id o ho hb=>?_,hh.inj⟩;rw[h1];exact hh.own id o ho hb
theorem cC.same{Y:Hd σ}{cx GL:Cx σ}(hY:cC P Y cx)(h1:GL.C=cx.C)(h2:GL.HG=cx.HG)(h3:GL.yv=cx.yv)(p:Value->Env->Heap->σ->Prop):cC P { y:=Y.y,p:=p } GL:=by
 refine⟨?_,fun s w F h=>hY.laid s w F (by rw[<- h2];exact h)⟩;intro l hl args h s Q hy L' F' aT w nn hr;rw[h3]at hl hr;obtain⟨fn,tmps,xR,body,e1,e2⟩:=hY.yld l hl args h s Q hy L' F' aT w (nn.QN h1.symm h2.symm h3.symm) hr;refine⟨fn,tmps,xR,body,e1,e2.mono ?_⟩;rintro e w' ⟨x,he,v,h',s',Lx,Ij,hq,eX,hv,tr,jF,r1,r2,r3⟩;exact⟨x,he,v,h',s',Lx,Ij,hq,eX.QN h1 h2 h3,by rw[h3];exact hv,tr,jF,by rw[h1];exact r1,by rw[h1];exact r2,r3⟩
theorem Ah(hT:bA P T){ft:FT}{Y:Hd σ}{cx:Cx σ}{r:Option Nat}{m:List Nat}{L:Loc}{F:Nat->Nat}{a:Act}{w:World}(hY:cC P Y cx){id:Nat}{ops:Array Oper}{st:St σ}{K:fu->St σ->Prop}(h:Ct P T ft Y (.region id ops false) st K)(hg:Good cx r m L F st a w)(hc:codeOk a.tmps.size (.region id ops false)=true) :
  (Code.region id ops false).wpIn (fr r) 0 P (fun ex a' w'=>(∃ st' L' F',ex = .normal/\K .normal st'/\Good cx r m L' F' st' a' w'/\Tr F w F' w'/\a'.tmps.size=a.tmps.size)\/qj Y cx r F w a.tmps.size ex a' w') a w:=by
 obtain⟨e,hp,s⟩:=st;have h:wpOps P T Y ops.toList ops.toList e hp s (fun e h s=>fw (bh ft.ks e) fun e=>K .normal ⟨e,h,s⟩):=h;refine wpIn_mono (wpIn_region (id:=id) (Q:=mu Y cx r m F w a.tmps.size (fun e h s=>fw (bh ft.ks e) fun e=>K .normal ⟨e,h,s⟩)) ?_) fun ex a' w' hq=>?_
 ·have:=rH hT hY ops.toList 0 (fun j=>by simp) hg rfl (oH hc) (Tr.refl F w) h
  rwa [<- List.range_eq_range',Array.length_toList]at this
 ·rcases hq with⟨e',h',s',L',F',hex,hk,dN,tr,hs⟩|hp
  ·rw[gI]at hk
   exact .inl ⟨_,L',F',hex,hk,dN.sub (eC ft.ks e') (fun _ _ h=>h),tr,hs⟩
  ·exact .inr hp
theorem KV(hT:bA P T){ft:FT}{Y:Hd σ}{cx:Cx σ}{r:Option Nat}{m:List Nat}{L:Loc}{F:Nat->Nat}{a:Act}{w:World}(hY:cC P Y cx){id:Nat}{ops:Array Oper}{rt:RT}(Rk:get ft.tb id=some rt)(hD:dr P T ft (.region id ops true)){st:St σ}{K:fu->St σ->Prop}(h:Ct P T ft Y (.region id ops true) st K)(hg:Good cx r m L F st a w)(hc:codeOk a.tmps.size (.region id ops true)=true) :
  (Code.region id ops true).wpIn (fr r) 0 P (fun ex a' w'=>∃ st' L' F',ex = .normal/\K .normal st'/\Good cx r m L' F' st' a' w'/\Tr F w F' w'/\a'.tmps.size=a.tmps.size) a w:=by
 obtain⟨e,hp,s⟩:=st;obtain⟨made,jV⟩:=rt
 have h:(match get ft.tb id with
  | some ⟨made,jV⟩=>wK made e hp fun e h=>Jr P T made ops.toList (ops.toList.zip jV) [] e h fun e h=>fw (bh ft.ks e) fun e=>K .normal ⟨e,h,s⟩
  | none=>tP P ft Y id ops ⟨e,hp,s⟩ K):=h
 rw[Rk]at h;have Lf:=hD rfl ⟨made,jV⟩ Rk cx hY.laid r m L F e hp s a w _ hg (oH hc) h;refine wpIn_mono (Lf id) fun ex a' w' hq=>?_;obtain⟨e',h',s',L',F',hex,⟨hk,rfl⟩,dN,tr,hs⟩:=hq;rw[gI]at hk;exact⟨_,L',F',hex,hk,dN.sub (eC ft.ks e') (fun _ _ h=>h),tr,hs⟩
def Za{σ:Type}:Hd σ:={ y:=fun _ _ _ _=>False }
theorem GW{cx GL:Cx σ}(hl:oT P cx)(h:GL.HG=cx.HG):cC P (Za (σ:=σ)) GL:=⟨fun _ _ _ _ _ _ hy=>hy.elim,fun s w F hh=>hl s w F (by rw[<- h];exact hh)⟩
theorem yG(hT:bA P T){ft:FT}{cx:Cx σ}(hl:oT P cx){L:Loc}{F:Nat->Nat}{s:σ}{w:World}{h h':Heap}(hh:a7 cx L F h s w){n:Nat}(hn:Nat.ble n 1000000=true){v:Value}{d:D}(hd:bR F w d v)(WY:True){a:Act}(dD:a.tmps.size=n)(SO:a.defers = [])
  (t0:a.tmps[0]?=some (.pointer (some ⟨L.ρ 1000000,0,none⟩))) (t1:a.tmps[1]?=some (.pointer (some ⟨L.ρ 1000001,0,none⟩))) (t2:a.tmps[2]?=some v)
  {i1 i2:Nat} {TV P7:Array Oper} {cd:Operand} (hc:codeOk n (.seq (.region i1 TV false) (.cond cd (.region i2 P7 true) .skip))=true) (hD:dr P T ft (.region i2 P7 true)) {rt:RT} (Rk:get ft.tb i2=some rt)
  {Q:Exit->Act->World->Prop} (hQ:∀ a' w' L' F',a'.defers = []->a7 cx L' F' h' s w'->Tr F w F' w'->nz L L'->Q .normal a' w')
  (hw:Ct P T ft Za (.region i1 TV false) ⟨[(0,.ptr 1000000 0),(1,.ptr 1000001 0),(2,.d d)],h,s⟩ fun _ u6=>yH (aR u6.env cd) (Ct P T ft Za (.region i2 P7 true) u6 fun _ pZ=>dR h' pZ.heap/\pZ.s=s) (dR h' u6.heap/\u6.s=s)) :
  (Code.seq (.region i1 TV false) (.cond cd (.region i2 P7 true) .skip)).wpIn Fence.wide 0 P Q a w:=by
 obtain⟨AI,sj⟩:∃ AI:Cx σ,AI={ cx with pρ:=L.ρ,pκ:=L.κ,base:=[] }:=⟨_,rfl⟩;have f1:AI.C=cx.C:=by rw[sj]
 have f2:AI.HG=cx.HG:=by rw[sj]
 have f3:AI.yv=cx.yv:=by rw[sj]
 have hY:cC P Za AI:=GW hl f2;have hn:=Nat.le_of_ble_eq_true hn;simp only[codeOk,Bool.and_eq_true]at hc;obtain⟨wS,ou,_⟩:=hc;have hg:Good AI none [] L F ⟨[(0,.ptr 1000000 0),(1,.ptr 1000001 0),(2,.d d)],h,s⟩ a w:=by
  refine⟨hh.QN f1 f2 f3,fun k u hk=>?_,by rw[SO,sj];rfl,(fun b hb=>by cases hb),List.nodup_nil,(fun l hl=>by cases hl),fun i hi=>by rw[sj];exact⟨rfl,rfl⟩,by omega⟩;simp only[get]at hk;split at hk
  ·rename_i h0;have:=(Nat.eq_of_beq_eq_true h0).symm;subst this;cases hk
   exact⟨_,t0,rfl⟩
  ·split at hk
   ·rename_i h0;have:=(Nat.eq_of_beq_eq_true h0).symm;subst this;cases hk
    exact⟨_,t1,rfl⟩
   ·split at hk
    ·rename_i h0;have:=(Nat.eq_of_beq_eq_true h0).symm;subst this;cases hk
     exact⟨_,t2,hd⟩
    ·cases hk
 have fin:∀ {st':St σ} {L':Loc} {F':Nat->Nat} {a':Act} {w':World},dR h' st'.heap/\st'.s=s->Good AI none [] L' F' st' a' w'->Tr F w F' w'->Q .normal a' w':=by
  rintro ⟨e',J7,s'⟩ L' F' a' w' ⟨qc,mM⟩ dN tr;have mM:s'=s:=mM;subst mM;have iK:=dN.sub (e:=[]) (h:=h') (fun k u hk=>by cases hk) qc;refine hQ a' w' L' F' (by have:=dN.tZ;rw[sj]at this;exact this) (iK.heap.QN f1.symm f2.symm f3.symm) tr fun i hi=>?_;have:=dN.jF i hi;rw[sj]at this;exact this
 refine wpIn_seq (wpIn_mono (Ah hT hY hw hg (by rw[dD];simpa[codeOk]using wS)) fun ex a1 w1 hq=>?_);rcases hq with⟨u6,L1,F1,rfl,Dc,dX,qd,qc⟩|⟨v,e',h',s',m',L',F',_,hy,_⟩
 case inr=>exact hy.elim
 obtain⟨AR,xH,s1⟩:=u6;unfold yH at Dc;split at Dc;case h_2=>exact Dc.elim
 rename_i tb rT;have dV:a1.eval cd = .bool tb:=dX.aR rT;rcases tU Dc with⟨rfl,hw3⟩|⟨rfl,hw3⟩
 ·refine wpIn_cond dV (wpIn_mono (KV hT hY Rk hD hw3 dX (by rw[qc,dD];simpa[codeOk]using ou)) fun ex a2 w2 hq=>?_)
  obtain⟨pZ,L2,F2,rfl,hk,iK,AK,_⟩:=hq;exact fin hk iK (Tr.trans qd AK)
 ·exact wpIn_cond dV (wpIn_skip (fin hw3 dX qd))
theorem Cw.sub{g:FuncId}{u u':FrameMode}{h0 h h':Heap}(hc:Cw P g u u' h0 h')(hs:pM h h0):Cw P g u u' h h':=by
 intro σ cx hl L F s w hh;exact hc cx hl L F s w ⟨hh.hg,hh.hP,hh.fresh,fun i o hi=>hh.obj i o (jE hs i o hi),fun i o hi hb=>hh.own i o (jE hs i o hi) hb,fun i j o p hi hj mf jt=>hh.inj i j o p (jE hs i o hi) (jE hs j p hj) mf jt⟩
theorem um{α:Type}:∀ (A B:xA α) (k:Nat),get (A++B) k=match get A k with
  | some v=>some v
  | none=>get B k
 | [],B,k=>rfl
 | (j,v)::A,B,k=>by
  show(match Nat.beq j k with|true=>some v|false=>get (A++B) k)=_;rw[um A B k];simp only[get];cases Nat.beq j k<;>rfl
theorem GS{ds:List D}{i k:Nat}{v:V}(h:get (dS i (inj ds)) k=some v):∃ d,v = .d d:=by
 obtain⟨j,_,hj⟩:=mc h;have:∀ (l:List D) (j:Nat) (v:V),(inj l)[j]?=some v -> ∃ d,v = .d d:=by
  intro l
  induction l with
  | nil=>intro j v h;cases h
  | cons a r ih=>
   intro j v h
   cases j with
   | zero=>cases h;exact⟨a,rfl⟩
   | succ j=>exact ih j v h
 exact this ds j v hj
def Jv(P:Program)(cx:Cx σ)(L:Loc)(F:Nat->Nat)(w:World)(r:D)(s:σ):Ending->World->Prop:=fun e w'=>
 ∃ x,e = .returned x /\ ∃ v h' s' L' F',((v = .d r/\h' = [])/\s'=s)/\a7 cx L' F' h' s' w'/\br cx.yv L' F' w' v x/\Tr F w F' w'/\nz L L'
theorem Jv.of{cx:Cx σ}{L L0:Loc}{F F2:Nat->Nat}{w w2:World}{r:D}{s:σ}{x:Value}(hh:a7 cx L0 F2 [] s w2)(hv:bR F2 w2 r x)(tr:Tr F w F2 w2):Jv P cx L F w r s (.returned x) w2:=
 ⟨x,rfl,.d r,[],s,L,F2,⟨⟨rfl,rfl⟩,rfl⟩,⟨hh.hg,hh.hP,hh.fresh,(fun id o h=>by cases h),(fun id o h=>by cases h),(fun i j o p h=>by cases h)⟩,hv,tr,fun _ _=>⟨rfl,rfl⟩⟩
theorem JP(hm:P.follows .mixedOrders=true)(hT:bA P T){f g:FuncId}{fn:Func}{idA idB idD:Nat}{XP XQ XR:Array Oper}{cd:Operand}{B C:Code}{ft:FT}{ds:List D}{r:D}(c e t:Nat){lc le:List D}
  (hf:P.funcs[f]?=some fn)
  (hb:fn.body=some (.seq (.region idA XP false) (.seq (.seq (.region idB XQ false) (.cond cd B .skip)) (.seq (.region idD XR false) C))))
  (gL:oQ ft fn ds.length=true) (EV:c≠e) (SL:c≠t) (het:e≠t) (YL:get (dS 0 (inj ds)) t=none) (hAc:get (dS 0 (inj ds)) c=none) (hAe:get (dS 0 (inj ds)) e=none)
  (aaL:∀ (a:Act) (w:World) (p q:Value) (Q:Exit->Act->World->Prop),a.tmps[c]?=some p->a.tmps[e]?=some q->a.tmps.size=fn.ntmps->Q .normal { tmps:=a.tmps.setIfInBounds t (.func (.func g) #[] #[p,q]),defers:={ target:=.fn (.func g) #[p,q],args:=#[] }::a.defers } w->(Code.region idD XR false).wpIn Fence.wide 0 P Q a w)
  (hinv:∀ (p q:Value) (w:World),(invoke (.fn (.func g) #[p,q]) #[]).run P w = .ok (.enter g #[p,q]) w)
  (hA:∀ {σ:Type} (Y:Hd σ) (s:σ),Ct P T ft Y.np (.region idA XP false) ⟨dS 0 (inj ds),[],s⟩ fun _ u6=>Ct P T ft Y.np (.region idB XQ false) u6 fun _ pZ=>
   yH (aR pZ.env cd) (Ct P T ft Y.np B pZ fun ex Yq=>ex = .ret/\Sk T fn.results.toList (fun v h' s'=>(v = .d r/\h' = [])/\s'=s) .ret Yq)
    (Wk pZ ⟨dS 0 (inj ds) ++ [(c,.ptr c 0),(e,.ptr e 0)],[(c,.box (.dd lc)),(e,.box (.dd le))],s⟩ /\
     Ct P T ft { y:=Y.y,p:=fun pv en h s'=>Ju P T fn g c e r s (.panicking [{ v:=pv,recovered:=false }]) en h s' } C ⟨dS 0 (inj ds) ++ [(c,.ptr 1000000 0),(e,.ptr 1000001 0)],[(1000000,.box (.dd lc)),(1000001,.box (.dd le))],s⟩
      fun ex Yq=>(ex = .normal\/ex = .ret)/\Ju P T fn g c e r s .returning Yq.env Yq.heap Yq.s)):bq P f ds r:=by
 intro σ Y s;unfold oQ at gL;rw[hb]at gL;simp only[Bool.and_eq_true,bne_iff_ne,ne_eq]at gL;obtain⟨⟨⟨⟨BJ,y9⟩,MU⟩,qG⟩,hlen⟩:=gL;have MU:=Nat.le_of_ble_eq_true MU;have hlen:=Nat.le_of_ble_eq_true hlen;refine⟨fun vs w=>by simp[callFunc,hf,qG,hb,Go.mark],fun cx hY L F aT w hh hr=>?_⟩;have Hi:aT.size=ds.length:=by
  have:=hr.length;rw[eR]at this;simpa using this
 have dD:(aT++Array.replicate (fn.ntmps-aT.size) undef).size=fn.ntmps:=by simp;omega
 refine callsIn_of_wp_marks hf hb trivial ?_;have Lf:=aj (P:=P) hm hT y9;obtain⟨hdA,⟨hdB,aaK,_⟩,hdD,pn⟩:=Lf;simp only[codeOk,Bool.and_eq_true]at BJ;obtain⟨hcA,⟨hcB,aaF,_⟩,hcD,hcC⟩:=BJ;have hg:Good { cx with pρ:=L.ρ,pκ:=L.κ,base:=[] } none [] L F ⟨dS 0 (inj ds),[],s⟩ { tmps:=aT++Array.replicate (fn.ntmps-aT.size) undef,defers:=[] } w:=by
  refine⟨⟨hh.hg,hh.hP,hh.fresh,hh.obj,hh.own,hh.inj⟩,fun t v ht=>?_,rfl,(fun b hb=>by cases hb),List.nodup_nil,(fun l hl=>by cases hl),fun _ _=>⟨rfl,rfl⟩,by rw[dD];exact MU⟩;obtain⟨k,hk,hv⟩:=mc ht;rw[Nat.zero_add]at hk;subst hk;obtain⟨x,hx,tL⟩:=hr.get t hv;refine⟨x,?_,tL⟩;have dh:t<aT.size:=by
   have:=(List.getElem?_eq_some_iff.1 hx).1;simpa using this
  rw[Array.getElem?_append_left dh];simpa using hx
 generalize hcx0:({ cx with pρ:=L.ρ,pκ:=L.κ,base:=[] }:Cx σ)=OR at hg;have e1:OR.C=cx.C:=by rw[<- hcx0]
 have e2:OR.HG=cx.HG:=by rw[<- hcx0]
 have e3:OR.yv=cx.yv:=by rw[<- hcx0]
 have e4:OR.base = []:=by rw[<- hcx0]
 have hY0:cC P Y.np OR:=hY.same e1 e2 e3 _;have hwA:=hA Y s;show(Code.seq _ _).wpIn Fence.wide 0 P (bodyPostM Fence.wide 0 P fn (Jv P cx L F w r s)) _ w;generalize Up:({ tmps:=aT++Array.replicate (fn.ntmps-aT.size) undef,defers:=[] }:Act)=a0 at hg;have Tl:a0.tmps.size=fn.ntmps:=by rw[<- Up];exact dD
 refine wpIn_seq (wpIn_mono (Ah hT hY0 hwA hg (by rw[Tl];simpa[codeOk]using hcA)) fun ex a1 w1 hq=>?_);rcases hq with⟨u6,L1,F1,rfl,Dc,dX,qd,qc⟩|⟨v,e',h',s',m',L',F',_,hy,_⟩
 case inr=>exact hy.elim
 refine wpIn_seq (wpIn_seq (wpIn_mono (Ah hT hY0 Dc dX (by rw[qc,Tl];simpa[codeOk]using hcB)) fun ex a2 w2 hq=>?_));rcases hq with⟨pZ,L2,F2,rfl,E9,iK,AK,mM⟩|⟨v,e',h',s',m',L',F',_,hy,_⟩
 case inr=>exact hy.elim
 have Uf:=Tr.trans qd AK;have Tm:a2.tmps.size=fn.ntmps:=by rw[mM,qc,Tl]
 obtain⟨en2,OA,s2⟩:=pZ;unfold yH at E9;split at E9;case h_2=>exact E9.elim
 rename_i tb rT;have dV:a2.eval cd = .bool tb:=iK.aR rT;rcases tU E9 with⟨rfl,E9⟩|⟨rfl,E9⟩
 ·
  refine wpIn_cond dV ?_;refine wpIn_mono (eD hT B aaK _ _ E9 OR hY0 none [] L2 F2 a2 w2 iK (by rw[Tm];exact aaF)) fun ex a' w' hq=>?_;rcases hq with⟨e',st',m',L',F',rfl,⟨rfl,hk⟩,dN,tr,hs⟩|⟨v,e',h',s',m',L',F',_,hy,_⟩
  case inr=>exact hy.elim
  show LeavesInM Fence.wide 0 P fn a'.tmps _ a'.defers .returning w';rw[dN.tZ,e4,List.append_nil];refine lP m' dN.heap (Tr.trans Uf tr) dN.pB dN.xe fun xP eX xO=>?_;obtain⟨AR,h1,s1⟩:=st';have hk:FP T AR h1 fn.results.toList fun l=>p9 l h1 s1 _:=hk;obtain⟨l,⟨Hb⟩,bZ⟩:=v7 (P:=P) hT hk;have GZ:Good { OR with base:=[] } none [] L' F' ⟨AR,h1,s1⟩ { a' with defers:=[] } xP:=by
   refine⟨eX.QN rfl rfl rfl,fun t v ht=>?_,rfl,(fun b hb=>by cases hb),List.nodup_nil,(fun l hl=>by cases hl),dN.jF,dN.ve⟩;obtain⟨x,hx,tL⟩:=dN.env t v ht;exact⟨x,hx,br.mono xO v x (fun _ _=>⟨rfl,rfl⟩) tL⟩
  obtain⟨AD,Da,qL⟩:=bZ GZ;obtain⟨v,h',L3,F3,⟨⟨rfl,rfl⟩,rfl⟩,Pd,D7,Yv,KT⟩:=Hb cx L' F' AD xP (eX.QN e1.symm e2.symm e3.symm) (by rw[<- e3];exact qL);exact⟨_,kU Da,Jv.of Pd D7 (Tr.trans Uf (Tr.trans tr (Tr.trans xO Yv)))⟩
 ·
  obtain⟨Gz,hwC⟩:=E9;refine wpIn_cond dV (wpIn_skip ?_);obtain⟨L3,F3,EX,Yv⟩:=Gz OR none [] L2 F2 a2 w2 iK;have Yu:=Tr.trans Uf Yv;have gc:get (dS 0 (inj ds) ++ [(c,V.ptr c 0),(e,V.ptr e 0)]) c=some (.ptr c 0):=by rw[um,hAc];simp[get]
  have ge:get (dS 0 (inj ds) ++ [(c,V.ptr c 0),(e,V.ptr e 0)]) e=some (.ptr e 0):=by
   rw[um,hAe];have:Nat.beq c e=false:=by rw[Bool.eq_false_iff];intro h;exact EV (Nat.eq_of_beq_eq_true h)
   simp[get,this]
  obtain⟨p,hp,rp⟩:=EX.env c _ gc;obtain⟨q,hq,rq⟩:=EX.env e _ ge;have rp:p = .pointer (some ⟨L3.ρ c,0,none⟩):=rp;have rq:q = .pointer (some ⟨L3.ρ e,0,none⟩):=rq;refine wpIn_seq (aaL a2 w2 p q _ hp hq Tm ?_);have ib:a2.defers = []:=by have:=EX.tZ;rw[e4]at this;simpa using this
  rw[ib];obtain⟨L4,Um⟩:∃ L4:Loc,L4=⟨fun k=>if k=1000000 then L3.ρ c else if k=1000001 then L3.ρ e else L3.ρ k,fun k=>if k=1000000 then L3.κ c else if k=1000001 then L3.κ e else L3.κ k⟩:=⟨_,rfl⟩;have r0:L4.ρ 1000000=L3.ρ c:=by rw[Um];rfl
  have r1:L4.ρ 1000001=L3.ρ e:=by rw[Um];rfl
  obtain⟨d,hd⟩:∃ d:Deferred,d={ target:=.fn (.func g) #[p,q],args:=#[] }:=⟨_,rfl⟩;rw[<- hd];obtain⟨AI,sj⟩:∃ AI:Cx σ,AI={ OR with pρ:=L4.ρ,pκ:=L4.κ,base:=[d] }:=⟨_,rfl⟩;have f1:AI.C=cx.C:=by rw[sj];exact e1
  have f2:AI.HG=cx.HG:=by rw[sj];exact e2
  have f3:AI.yv=cx.yv:=by rw[sj];exact e3
  have IN:=EX.heap.obj c (.box (.dd lc)) (by simp[get]);have SG:=EX.heap.obj e (.box (.dd le)) (by
   have:Nat.beq c e=false:=by rw[Bool.eq_false_iff];intro h;exact EV (Nat.eq_of_beq_eq_true h)
   simp[get,this])
  have hoc:=EX.heap.own c (.box (.dd lc)) (by simp[get]) trivial;have hoe:=EX.heap.own e (.box (.dd le)) (by
   have:Nat.beq c e=false:=by rw[Bool.eq_false_iff];intro h;exact EV (Nat.eq_of_beq_eq_true h)
   simp[get,this]) trivial
  have er:L3.ρ c≠L3.ρ e:=fun h=>EV (EX.heap.inj c e (.box (.dd lc)) (.box (.dd le)) (by simp[get]) (by
   have:Nat.beq c e=false:=by rw[Bool.eq_false_iff];intro h;exact EV (Nat.eq_of_beq_eq_true h)
   simp[get,this]) trivial trivial h)
  have key:∀ i o,get [(1000000,Obj.box (.dd lc)),(1000001,Obj.box (.dd le))] i=some o->(i=1000000/\o = .box (.dd lc))\/(i=1000001/\o = .box (.dd le)):=by
   intro i o hi;simp only[get]at hi;split at hi
   ·rename_i h;cases hi;exact .inl ⟨(Nat.eq_of_beq_eq_true h).symm,rfl⟩
   ·split at hi
    ·rename_i h;cases hi;exact .inr ⟨(Nat.eq_of_beq_eq_true h).symm,rfl⟩
    ·cases hi
  have YU:Good AI none [] L4 F3 ⟨dS 0 (inj ds) ++ [(c,.ptr 1000000 0),(e,.ptr 1000001 0)],[(1000000,.box (.dd lc)),(1000001,.box (.dd le))],s⟩ { tmps:=a2.tmps.setIfInBounds t (.func (.func g) #[] #[p,q]),defers:=[d] } w2:=by
   refine⟨⟨by rw[f2,<- e2];exact EX.heap.hg,fun b hb=>EX.heap.hP b (by rw[e1,<- f1];exact hb),EX.heap.fresh,fun i o hi=>?_,fun i o hi iU=>?_,fun i j o o' hi hj mf jt he=>?_⟩,fun k v hk=>?_,by rw[sj];rfl,(fun b hb=>by cases hb),List.nodup_nil,(fun l hl=>by cases hl),fun i hi=>by rw[sj];exact⟨rfl,rfl⟩,by rw[Array.size_setIfInBounds];exact EX.ve⟩
   ·rcases key i o hi with⟨rfl,rfl⟩|⟨rfl,rfl⟩
    ·obtain⟨cs,TT,h1,h2⟩:=IN
     exact⟨cs,TT,by rw[r0];exact h1,aq.inj.2 (aq.inj.1 h2)⟩
    ·obtain⟨cs,TT,h1,h2⟩:=SG
     exact⟨cs,TT,by rw[r1];exact h1,aq.inj.2 (aq.inj.1 h2)⟩
   ·rw[f1,<- e1]
    rcases key i o hi with⟨rfl,rfl⟩|⟨rfl,rfl⟩
    ·rw[r0];exact hoc
    ·rw[r1];exact hoe
   ·rcases key i o hi with⟨rfl,rfl⟩|⟨rfl,rfl⟩<;>rcases key j o' hj with⟨rfl,rfl⟩|⟨rfl,rfl⟩
    ·rfl
    ·rw[r0,r1]at he;exact absurd he er
    ·rw[r0,r1]at he;exact absurd he.symm er
    ·rfl
   ·rw[um]at hk
    have jP:∀ k,k≠t->(a2.tmps.setIfInBounds t (.func (.func g) #[] #[p,q]))[k]?=a2.tmps[k]?:=fun k hkt=>Array.getElem?_setIfInBounds_ne (Ne.symm hkt);split at hk
    ·rename_i u hu
     cases hk;obtain⟨dd,rfl⟩:=GS hu;obtain⟨x,hx,tL⟩:=EX.env k (.d dd) (by rw[um,hu]);refine⟨x,?_,tL⟩;show(a2.tmps.setIfInBounds t _)[k]?=_;rw[jP k (by rintro rfl;rw[YL]at hu;cases hu)];exact hx
    ·simp only[get]at hk
     split at hk
     ·rename_i h
      have:=(Nat.eq_of_beq_eq_true h).symm;subst this;cases hk;refine⟨p,?_,?_⟩
      ·show(a2.tmps.setIfInBounds t _)[k]?=_
       rw[jP k SL];exact hp
      ·show p=_
       rw[rp,r0]
     ·split at hk
      ·rename_i h
       have:=(Nat.eq_of_beq_eq_true h).symm;subst this;cases hk;refine⟨q,?_,?_⟩
       ·show(a2.tmps.setIfInBounds t _)[k]?=_
        rw[jP k het];exact hq
       ·show q=_
        rw[rq,r1]
      ·cases hk
  have hY1:cC P { y:=Y.y,p:=fun pv en h s'=>Ju P T fn g c e r s (.panicking [{ v:=pv,recovered:=false }]) en h s' } AI:=hY.same f1 f2 f3 _;have fo:∀ {u:FrameMode} {st':St σ} {m':List Nat} {L':Loc} {F':Nat->Nat} {a':Act} {w':World},u ≠ .run->Ju P T fn g c e r s u st'.env st'.heap st'.s->Good AI none m' L' F' st' a' w'->Tr F3 w2 F' w'->LeavesInM Fence.wide 0 P fn a'.tmps (Jv P cx L F w r s) a'.defers u w':=by
   rintro u st' m' L' F' a' w' hu ⟨ec,ee,u',hR,jP,aaG,Da⟩ dN tr;have ME:AI.base = [d]:=by rw[sj]
   rw[dN.tZ,ME];refine qU hu m' dN.heap (Tr.trans Yu tr) dN.pB dN.xe fun xP eX xO=>?_;have p0:L'.ρ 1000000=L3.ρ c:=by
    have:=(dN.jF 1000000 (by unfold pinned;omega)).1;rw[sj]at this;exact this.trans r0
   have p1:L'.ρ 1000001=L3.ρ e:=by
    have:=(dN.jF 1000001 (by unfold pinned;omega)).1;rw[sj]at this;exact this.trans r1
   refine⟨hu,.inr ⟨by simp[Fence.wide],.func g,#[p,q],g,#[p,q],by rw[hd],?_,fun _ _=>trivial,?_⟩⟩
   ·rw[hd];exact hinv p q xP
   have MP:oT P AI:=hY1.laid;have eh:=aaG AI MP L' F' st'.s xP eX;rw[p0,p1,<- rp,<- rq]at eh;refine eh.mono ?_;rintro en u2 w3 ⟨⟨x,rfl⟩,rfl,L5,F5,hh5,tr5,Yj⟩;show LeavesInM Fence.wide 0 P fn a'.tmps _ [] (settle u2) w3;rw[jP];simp only[LeavesInM,LeavesIn];obtain⟨l,⟨Hb⟩,bZ⟩:=v7 (P:=P) hT Da;have hg5:Good { AI with pρ:=L5.ρ,pκ:=L5.κ,base:=[] } none [] L5 F5 ⟨[(c,.ptr 1000000 0),(e,.ptr 1000001 0)],hR,st'.s⟩ { a' with defers:=[] } w3:=by
    refine⟨hh5.QN rfl rfl rfl,fun k v hk=>?_,rfl,(fun b hb=>by cases hb),List.nodup_nil,(fun l hl=>by cases hl),fun _ _=>⟨rfl,rfl⟩,dN.ve⟩;simp only[get]at hk;split at hk
    ·rename_i h
     have:=(Nat.eq_of_beq_eq_true h).symm;subst this;cases hk;obtain⟨x,hx,tL⟩:=dN.env _ _ ec;refine⟨x,hx,?_⟩;have tL:x = .pointer (some ⟨L'.ρ 1000000,0,none⟩):=tL;show x=_;rw[tL,(Yj 1000000 (by unfold pinned;omega)).1]
    ·split at hk
     ·rename_i h
      have:=(Nat.eq_of_beq_eq_true h).symm;subst this;cases hk;obtain⟨x,hx,tL⟩:=dN.env _ _ ee;refine⟨x,hx,?_⟩;have tL:x = .pointer (some ⟨L'.ρ 1000001,0,none⟩):=tL;show x=_;rw[tL,(Yj 1000001 (by unfold pinned;omega)).1]
     ·cases hk
   obtain⟨AD,W8,qL⟩:=bZ hg5;obtain⟨v,h',L6,F6,⟨rfl,rfl,Lm⟩,hh6,hr6,tr6,_⟩:=Hb cx L5 F5 AD w3 (hh5.QN f1.symm f2.symm f3.symm) (by rw[<- f3];exact qL);refine⟨_,kU W8,?_⟩;rw[Lm]at hh6;exact Jv.of hh6 hr6 (Tr.trans Yu (Tr.trans tr (Tr.trans xO (Tr.trans tr5 tr6))))
  refine wpIn_mono (eD hT C pn _ _ hwC AI hY1 none [] L4 F3 _ w2 YU (by simp only[Array.size_setIfInBounds];rw[Tm];exact hcC)) fun ex a' w' hq=>?_;rcases hq with⟨e',st',m',L',F',rfl,⟨he,hk⟩,dN,tr,hs⟩|⟨pv,e',h',s',m',L',F',rfl,hy,dN,tr,hs⟩
  ·rcases he with rfl|rfl
   ·exact fo (by simp) hk dN tr
   ·exact fo (by simp) hk dN tr
  ·exact fo (st':=⟨e',h',s'⟩) (by simp) hy dN tr
end
end Go.PX
namespace Go.PX
open Go.Proofs
open Go.RowKit
theorem NZ(l:Array Value)(w:World):(results Tryz.f118 l).run Tryz.prog w = .ok (.tuple #[]) w:=by
 have h:(([]:List ResultVar).mapM (rm l)).run Tryz.prog w = .ok [] w:=by simp
 exact kU (fn:=Tryz.f118) h
theorem yF(h:Heap):Cw Tryz.prog 118 .returning .returning h h:=by
 intro σ cx hl L F s w hh;refine callsDIn_of_wpSIn Tryz.func118 rfl trivial fun c₀ cs hu=>?_;apply wpSIn_seq;apply wpSIn_region;simp[wpOpsSIn,go_sem,recoverD,hu,Exit.thenS];refine wpSIn_of_wpIn rfl ?_;refine yG av (ft:=Mr) hl hh (n:=9) rfl (v:=.nilIface) (d:=.nili) rfl trivial (by simp) rfl (by rfl) (by rfl) (by rfl) (by decide +kernel) (by exact(aj mixed av (by decide +kernel))) rfl (h':=h) ?_ ?_
 ·intro a' w' L' F' SO nn tr jF
  refine⟨SO,.returning,by cases c₀;simp_all,.tuple #[],NZ _ _,⟨⟨_,rfl⟩,rfl,L',F',nn,tr,jF⟩⟩
 ·conv=>whnf
  exact⟨fun _ _ h=>h,rfl⟩
theorem JE(near:Int)(i n:Nat):Cw Tryz.prog 118 (.panicking [{ v:=pF,recovered:=false }]) (.panicking [{ v:=pF,recovered:=true }]) [(1000000,.box (.vv [.d (i64 near),.sl i 6 0 n])),(1000001,.box (.dd [i64 0]))] [(1000000,.box (.vv [.d (i64 0),.d .nils])),(1000001,.box (.dd [i64 6]))]:=by
 intro σ cx hl L F s w hh;refine callsDIn_of_wpSIn Tryz.func118 rfl trivial fun c₀ cs hu=>?_;apply wpSIn_seq;apply wpSIn_region;simp[wpOpsSIn,go_sem,recoverD,hu,Exit.thenS];refine wpSIn_of_wpIn rfl ?_;refine yG av (ft:=Mr) hl hh (n:=9) rfl (v:=pF) (d:=.ifc 34 (i64 6)) ⟨_,rfl,rfl⟩ trivial (by simp) rfl (by rfl) (by rfl) (by rfl) (by decide +kernel) (by exact(aj mixed av (by decide +kernel))) rfl (h':=[(1000000,.box (.vv [.d (i64 0),.d .nils])),(1000001,.box (.dd [i64 6]))]) ?_ ?_
 ·intro a' w' L' F' SO nn tr jF
  refine⟨SO,.panicking [{ v:=pF,recovered:=true }],rfl,.tuple #[],NZ _ _,⟨⟨_,rfl⟩,rfl,L',F',nn,tr,jF⟩⟩
 ·conv=>whnf
  exact⟨jE ⟨rfl,rfl,trivial⟩,rfl⟩
end Go.PX
namespace Go.PX
open Go.Proofs
def B0:ByteArray:=⟨#[110,101,97,114,32]⟩
def MC(s p:ByteArray):Bool:=decide (p.size<=s.size)&&decide (s.extract 0 p.size=p)
theorem XY(s p:ByteArray):bq Tryz.prog 207 [.str s,.str p] (.bool (MC s p)):=by
 refine aY Tryz.func207 rfl (ft:=VW) 2 fun {σ} Y st=>?_;conv=>whnf
 unfold MC;have e:decide (((p.size:Nat):Int)<=((s.size:Nat):Int))=decide (p.size<=s.size):=by
  rw[Bool.eq_iff_iff,decide_eq_true_eq,decide_eq_true_eq];omega
 rw[e]
 cases hd:decide (p.size<=s.size) with
 | false=>
  conv=>whnf
  exact ai
 | true=>
  have hd:=of_decide_eq_true hd;conv=>whnf
  refine aM (by simp;omega) ?_;conv=>whnf
  exact aO 0 rfl ⟨⟨congrArg (fun z=>V.d (.bool z)) (by simp),rfl⟩,rfl⟩
def AQ(s p:ByteArray):ByteArray×Bool:=if MC s p then (s.extract p.size s.size,true) else (s,false)
theorem XW(s p:ByteArray):bq Tryz.prog 179 [.str s,.str p] (.tup [.str (AQ s p).1,.bool (AQ s p).2]):=by
 unfold AQ;refine aY Tryz.func179 rfl (ft:=VN) 2 fun {σ} Y st=>?_;conv=>whnf
 refine af (XY s p) rfl rfl ?_;conv=>whnf
 cases hh:MC s p with
 | false=>
  conv=>whnf
  exact ai
 | true=>
  have hle:p.size<=s.size:=by
   unfold MC at hh;rw[Bool.and_eq_true]at hh;exact of_decide_eq_true hh.1
  conv=>whnf
  refine aM (by simp;omega) ?_;conv=>whnf
  exact aO 0 rfl ⟨⟨congrArg (fun z=>V.d (.tup [.str z,.bool true])) (by simp),rfl⟩,rfl⟩
theorem abY(s p:ByteArray):bq Tryz.prog 120 [.str s,.str p] (.tup [.str (AQ s p).1,.bool (AQ s p).2]):=by
 refine aY Tryz.func120 rfl (ft:=Vh) 2 fun {σ} Y st=>?_;conv=>whnf
 refine af (XW s p) rfl rfl ?_;conv=>whnf
 exact ai
theorem Kj(A:List (List D))(a:List D):bg (A ++ [a ++ [.nils]])=bg A ++ [inj a ++ [.d .nils]]:=by
 rw[cc,cc,List.map_append];have:inj (a ++ [.nils])=inj a ++ [.d .nils]:=by rw[ji];rfl
 rw[List.map_cons,List.map_nil,this]
theorem Dm{sz:Nat}{X:List (List V)}{a:List V}{x y:V}(h:dE sz (X ++ [a ++ [x]])):dE sz (X ++ [a ++ [y]]):=by
 intro e he;rcases List.mem_append.1 he with he|he
 ·exact h e (List.mem_append_left _ he)
 ·rw[List.mem_singleton]at he
  have:=h (a ++ [x]) (by simp);rw[he,<- this];simp
theorem Wk.Iw{σ:Type}{e:Env}{h:Heap}{s:σ}(b k sz Lo:Nat)(A:List (List D))(a:List D)(hk:Nat.blt k 1000000=true)(hs:Nat.blt 0 Lo=true)(hb:get h b=some (.arr sz (.dd (A ++ [a ++ [.nils]]))))(iU:Nat.beq b k=false) :
  Wk (⟨e,h,s⟩:St σ) ⟨dv (aJ (bp k)) e,put (((k,.arr Lo (.dd []))::dv (Obj.aJ (bp k)) (cut h k))) b (.arr sz (.vv (bg A ++ [inj a ++ [.sl k Lo 0 0]]))),s⟩:=by
 have hk:=Nat.le_of_ble_eq_true hk;have hs:=Nat.le_of_ble_eq_true hs;have er:b≠k:=by rintro rfl;simp at iU
 have h1:Wk (⟨e,h,s⟩:St σ) ⟨dv (aJ (bp k)) e,((k,.arr Lo (.dd []))::dv (Obj.aJ (bp k)) (cut h k)),s⟩:=by
  intro cx r m L F a w hg;exact⟨_,F,hg.jU k Lo (by unfold pinned;omega) hs (.dd []) rfl,Tr.refl F w⟩
 refine h1.trans (Wk.B9 b (o:=.arr sz (.dd (A ++ [a ++ [.nils]]))) _ (by rw[fW,if_neg er,bY,e5,if_neg er,hb];rfl) (fun yv L F w h=>?_) fun L hb=>hb);obtain⟨h0,hl,hr⟩:=h;have hl:dE sz (bg (A ++ [a ++ [.nils]])):=hl;have hr:(bg (A ++ [a ++ [.nils]]) = []/\L.κ b=0) \/ ∃ (c:Array Value) (T:TypeId),w.heap[L.ρ b]?=some (.cells c T (0,0))/\c.size=L.κ b/\(bg (A ++ [a ++ [.nils]])).length*sz<=c.size/\aq yv L F w (bg (A ++ [a ++ [.nils]])).flatten (c.toList.take ((bg (A ++ [a ++ [.nils]])).length*sz)):=hr;rw[Kj]at hl hr;refine⟨h0,Dm hl,.inr ?_⟩;rcases hr with⟨hr,_⟩|⟨c,T,h2,h3,h4,h5⟩
 ·simp at hr
 ·have hlen:(bg A ++ [inj a ++ [V.sl k Lo 0 0]]).length=(bg A ++ [inj a ++ [V.d .nils]]).length:=by simp
  refine⟨c,T,h2,h3,by show(bg A ++ [inj a ++ [V.sl k Lo 0 0]]).length*sz<=c.size;rw[hlen];exact h4,?_⟩;show aq yv L F w (bg A ++ [inj a ++ [V.sl k Lo 0 0]]).flatten (c.toList.take ((bg A ++ [inj a ++ [V.sl k Lo 0 0]]).length*sz));rw[hlen];have e1:(bg A ++ [inj a ++ [V.d .nils]]).flatten=((bg A).flatten++inj a)++V.d .nils :: []:=by simp
  have e2:(bg A ++ [inj a ++ [V.sl k Lo 0 0]]).flatten=((bg A).flatten++inj a)++V.sl k Lo 0 0 :: []:=by simp
  rw[e1]at h5;rw[e2];exact aq.zP k Lo hs h5
end Go.PX
