import Derived.Test.YtmbefpmbnhdbpaaGreatDoorPxN
import Derived.Test.YtmbefpmbnhdbpaaGreatDoorPxK
import Derived.Test.YtmbefpmbnhdbpaaGreatDoorPxO
import Derived.RecoverIn
import Derived.Recover
import Derived.Tactics
import Derived.Tactics2
set_option linter.all false
set_option maxRecDepth 10000
namespace Go.PX
open Go.Proofs
def tE:ByteArray:=⟨#[110,101,97,114]⟩
def pC:ByteArray:=⟨#[98,111,111,107]⟩
def o4:ByteArray:=⟨#[112,97,115,115]⟩
def wq:ByteArray:=⟨#[115,101,116]⟩
def eR:ByteArray:=⟨#[114,101,112,111,114,116]⟩
def ob(b:au):List Wd:=[.s pC,.s b.name,.n b.off.lo,.n b.off.hi,.n b.set.lo,.n b.set.hi]
def pJ(x:aW):List Wd:=
 if x.kind=1 then [.s o4,.n x.shown,.s x.word] else if x.kind=2 then [.s wq,.n x.shown] else [.s eR,.n x.shown,.s x.word,.n x.number]
def xH:List aW->ByteArray
 | []=>.empty
 | y::r=>nJ (pJ y)++xH r
def Kt(b:au):ByteArray:=nJ (ob b)++xH b.ar
def oc:List au->ByteArray
 | []=>.empty
 | b::r=>Kt b++oc r
def wj(l:aM):ByteArray:=nJ [.s tE,.n l.near]++oc l.aj
theorem VI(w:ByteArray):o9 Tryz.prog 265 [.d (.agg [.str w])] [] fun v h'=>v = .sl 2000000 1 0 3/\h' = [(2000000,.arr 1 (.dd [[.ifc 9 (.str o4)],[.nili],[.ifc 9 (.str w)]]))]:=by
 intro σ Y st;refine dQ mixed ak Tryz.func265 rfl (ft:=PH) (args:=[.d (.agg [.str w])]) (show nS PH Tryz.f265 1=true from by decide +kernel) ?_;conv=>whnf
 exact aC [7] [.sl 2000000 1 0 3] [(2000000,.arr 1 (.dd [[.ifc 9 (.str o4)],[.nili],[.ifc 9 (.str w)]]))] rfl ⟨rfl,trivial⟩ rfl ⟨⟨rfl,rfl⟩,rfl⟩
theorem VK:o9 Tryz.prog 267 [.d (.agg [])] [] fun v h'=>v = .sl 2000000 1 0 2/\h' = [(2000000,.arr 1 (.dd [[.ifc 9 (.str wq)],[.nili]]))]:=by
 intro σ Y st;refine dQ mixed ak Tryz.func267 rfl (ft:=PJ) (args:=[.d (.agg [])]) (show nS PJ Tryz.f267 1=true from by decide +kernel) ?_;conv=>whnf
 exact aC [4] [.sl 2000000 1 0 2] [(2000000,.arr 1 (.dd [[.ifc 9 (.str wq)],[.nili]]))] rfl ⟨rfl,trivial⟩ rfl ⟨⟨rfl,rfl⟩,rfl⟩
theorem VJ(w:ByteArray)(n:Int):o9 Tryz.prog 266 [.d (.agg [.str w,i64 n])] [] fun v h'=>v = .sl 2000000 1 0 4/\h' = [(2000000,.arr 1 (.dd [[.ifc 9 (.str eR)],[.nili],[.ifc 9 (.str w)],[.ifc 3 (i64 n)]]))]:=by
 intro σ Y st;refine dQ mixed ak Tryz.func266 rfl (ft:=PI) (args:=[.d (.agg [.str w,i64 n])]) (show nS PI Tryz.f266 1=true from by decide +kernel) ?_;conv=>whnf
 exact aC [10] [.sl 2000000 1 0 4] [(2000000,.arr 1 (.dd [[.ifc 9 (.str eR)],[.nili],[.ifc 9 (.str w)],[.ifc 3 (i64 n)]]))] rfl ⟨rfl,trivial⟩ rfl ⟨⟨rfl,rfl⟩,rfl⟩
structure XG(l:aM):Prop where
 name:∀ b∈l.aj,b.name.size<=1000
 word:∀ b∈l.aj,∀ x∈b.ar,x.word.size<=1000
theorem za{l:List Wd}(h:∀ w∈l,py w)(hl:l.length<=10):(nJ l).size<=11011:=by
 rw[nJ,cm];have h1:R2.size=1:=rfl
 cases l with
 | nil=>show(0:Nat)+1<=_;omega
 | cons w r=>
  have h2:=oR (h w (List.mem_cons_self ..));have h3:=qK fun x hx=>h x (List.mem_cons_of_mem w hx);rw[oS,cm];rw[List.length_cons]at hl;omega
theorem Ad{b:au}(h:GU b)(hn:b.name.size<=1000):∀ w∈ob b,py w:=by
 intro w hw;have ho:=h.off;have hs:=h.set;simp only[ob,List.mem_cons,List.not_mem_nil,or_false]at hw;rcases hw with rfl|rfl|rfl|rfl|rfl|rfl
 ·show pC.size<=1000;decide
 ·exact hn
 ·unfold py;omega
 ·unfold py;omega
 ·unfold py;omega
 ·unfold py;omega
theorem C7{x:aW}(h:(0<=x.shown/\x.shown<=20000)/\(1<=x.kind/\x.kind<=3)/\(0<=x.number/\x.number<=99))(hn:x.word.size<=1000):∀ w∈pJ x,py w:=by
 intro w hw;unfold pJ at hw;split at hw
 ·simp only[List.mem_cons,List.not_mem_nil,or_false]at hw
  rcases hw with rfl|rfl|rfl
  ·show o4.size<=1000;decide
  ·unfold py;omega
  ·exact hn
 ·split at hw
  ·simp only[List.mem_cons,List.not_mem_nil,or_false]at hw
   rcases hw with rfl|rfl
   ·show wq.size<=1000;decide
   ·unfold py;omega
  ·simp only[List.mem_cons,List.not_mem_nil,or_false]at hw
   rcases hw with rfl|rfl|rfl|rfl
   ·show eR.size<=1000;decide
   ·unfold py;omega
   ·exact hn
   ·unfold py;omega
theorem Iy(y:aW):(pJ y).length<=10:=by
 unfold pJ;split
 ·simp
 ·split<;>simp
theorem xI:∀ {r:List aW},(∀ x∈r,((0<=x.shown/\x.shown<=20000)/\(1<=x.kind/\x.kind<=3)/\(0<=x.number/\x.number<=99))/\x.word.size<=1000)->(xH r).size<=11011*r.length
 | [],_=>Nat.zero_le _
 | y::r,h=>by
  have h1:=xI (r:=r) fun x hx=>h x (List.mem_cons_of_mem _ hx);obtain⟨h2,h3⟩:=h y (List.mem_cons_self ..);have h4:=za (C7 h2 h3) (Iy y);rw[xH,cm,List.length_cons];omega
theorem ve:∀ {r:List au},(∀ b∈r,GU b/\b.name.size<=1000 /\ ∀ x∈b.ar,x.word.size<=1000)->(oc r).size<=100000*r.length
 | [],_=>Nat.zero_le _
 | b::r,h=>by
  have h1:=ve (r:=r) fun x hx=>h x (List.mem_cons_of_mem _ hx);obtain⟨h2,h3,h4⟩:=h b (List.mem_cons_self ..);have h5:=za (Ad h2 h3) (by simp[ob]);have h6:=xI (r:=b.ar) fun x hx=>⟨h2.fG x hx,h4 x hx⟩;have h7:=h2.ar;rw[oc,Kt,cm,cm,List.length_cons];omega
theorem I8{l:aM}(hR:pn l)(hN:XG l):(wj l).size<=400000:=by
 have h1:=ve (r:=l.aj) fun b hb=>⟨hR.book b hb,hN.name b hb,hN.word b hb⟩;have h2:=hR.near;have h3:=hR.aj;have h4:=za (l:=[.s tE,.n l.near]) (by
  intro w hw;simp only[List.mem_cons,List.not_mem_nil,or_false]at hw;rcases hw with rfl|rfl
  ·show tE.size<=1000;decide
  ·unfold py;omega) (by simp)
 rw[wj,cm];omega
set_option maxHeartbeats 4000000 in
theorem Sb(l:aM)(hR:pn l)(hN:XG l):bq Tryz.prog 117 [l.d] (.str (wj l)):=by
 refine aI mixed ak Tryz.func117 rfl (ft:=TD) 1 (by decide +kernel) (by rfl) fun {σ} Y st=>?_;conv=>whnf
 have B0:=hR.near;refine lq 1 [16] (args':=[.d (u1 [.s tE,.n l.near]),.ptr 3 0]) (by
  show [_,_]=_;rfl) rfl ?_
 refine aY (Jt tE (by decide) [.n l.near] (by simp) (by
  intro w hw;simp only[List.mem_cons,List.not_mem_nil,or_false]at hw;rcases hw with rfl|rfl
  ·show tE.size<=1000;decide
  ·unfold py;omega)) [3] rfl ⟨_,_,rfl,rfl,rfl⟩ rfl ?_
 conv=>whnf
 have hTS:=I8 hR hN;have wF:=hR.aj;generalize hT:wj l=T at hTS;have hT0:nJ [.s tE,.n l.near]++oc l.aj=T:=hT;have DI:0<(nJ [.s tE,.n l.near]).size:=by rw[nJ,cm];have:R2.size=1:=rfl;omega
 refine bx (T:=tys) ak (by exact an mixed ak (by decide +kernel)) l.aj (fun i (acc:ByteArray)=>⟨[(3,.ptr 3 0),(4,.clo 173 [.ptr 3 0]),(19,.d (bF l.aj)),(20,.d (i64 l.aj.length)),(21,.d (i64 i))],ky 3 900000 acc,st⟩) (fun i r acc=>acc++oc r=T/\0<acc.size) (nJ [.s tE,.n l.near]) ?_ ⟨hT0,DI⟩ ?_ ?_
 ·exact(Wk.move 101088 900000 rfl rfl).trans (Wk.sub (by repeat' first|constructor|simp[PX.get]) (by repeat' first|constructor|simp[PX.get]))
 ·rintro i b r acc hb hi hr ⟨dn,ha⟩
  have hB:=hR.book b (List.mem_of_getElem? hb);have QX:=hB.ar;have qR:=hN.name b (List.mem_of_getElem? hb);have SS:=hN.word b (List.mem_of_getElem? hb);have Y3:acc.size<=T.size:=by rw[<- dn,cm];omega
  rw[oc,Kt,fJ]at dn;conv=>whnf
  refine af (fun _=>?_) (fun h=>absurd hi (by simpa using h));conv=>whnf
  refine aw hb ?_;conv=>whnf
  refine lq 1 [46] (args':=[.d (u1 (ob b)),.ptr 3 0]) (by
   show [_,_]=_;rfl) rfl ?_
  refine aY (HX acc ha (ob b) (by simp[ob]) (Ad hB qR) (by omega) (by simp[ob])) [3,900000] rfl ⟨_,_,rfl,rfl,_,_,rfl,rfl,rfl⟩ rfl ?_;conv=>whnf
  refine bx (T:=tys) ak (by exact an mixed ak (by decide +kernel)) b.ar (fun k (acc:ByteArray)=>⟨[(3,.ptr 3 0),(4,.clo 173 [.ptr 3 0]),(19,.d (bF l.aj)),(20,.d (i64 l.aj.length)),(21,.d (i64 i)),(49,.d (kJ b.ar)),(50,.d (i64 b.ar.length)),(51,.d (i64 k))],ky 3 900000 acc,st⟩) (fun k q acc=>acc++(xH q++oc r)=T/\0<acc.size) (acc++nJ (ob b)) ?_ ⟨by rw[fJ];exact dn,by rw[cm];omega⟩ ?_ ?_
  ·exact(Wk.move 103008 900000 rfl rfl).trans (Wk.sub (by repeat' first|constructor|simp[PX.get]) (by repeat' first|constructor|simp[PX.get]))
  ·rintro k y q acc hy hk hq ⟨dn,ha⟩
   have hyR:=hB.fG y (List.mem_of_getElem? hy);have hyw:=SS y (List.mem_of_getElem? hy);have IZ:=C7 hyR hyw;have Y3:acc.size<=T.size:=by rw[<- dn,cm];omega
   rw[xH,fJ]at dn;conv=>whnf
   refine af (fun _=>?_) (fun h=>absurd hk (by simpa using h));conv=>whnf
   refine aw hy ?_;conv=>whnf
   refine ai (zS y) rfl rfl ?_;by_cases h1:y.kind=1
   ·have ht:bL y = .ifc 214 (.agg [.str y.word]):=by unfold bL;rw[if_pos h1]
    have he:pJ y = [.s o4,.n y.shown,.s y.word]:=by unfold pJ;rw[if_pos h1]
    rw[ht];rw[he]at dn IZ;conv=>whnf
    refine E3 265 (by decide +kernel) ?_;refine aY (VI y.word) [] rfl rfl rfl ?_;conv=>whnf
    refine lq 1 [103648] (args':=[.d (u1 [.s o4,.n y.shown,.s y.word]),.ptr 3 0]) (by
     show [_,_]=_;rfl) rfl ?_
    refine aY (HX acc ha [.s o4,.n y.shown,.s y.word] (by simp) IZ (by omega) (by simp)) [3,900000] rfl ⟨_,_,rfl,rfl,_,_,rfl,rfl,rfl⟩ rfl ?_;conv=>whnf
    refine ae (wrap_i64 (by(try dsimp only);omega)) ?_;conv=>whnf
    exact⟨acc++nJ [.s o4,.n y.shown,.s y.word],⟨by rw[fJ];exact dn,by rw[cm];omega⟩,(Wk.move 104160 900000 rfl rfl).trans (Wk.sub (by repeat' first|constructor|simp[PX.get]) (by repeat' first|constructor|simp[PX.get]))⟩
   ·by_cases h2:y.kind=2
    ·have ht:bL y = .ifc 288 (.agg []):=by unfold bL;rw[if_neg h1,if_pos h2]
     have he:pJ y = [.s wq,.n y.shown]:=by unfold pJ;rw[if_neg h1,if_pos h2]
     rw[ht];rw[he]at dn IZ;conv=>whnf
     refine E3 267 (by decide +kernel) ?_;refine aY (VK) [] rfl rfl rfl ?_;conv=>whnf
     refine lq 1 [103648] (args':=[.d (u1 [.s wq,.n y.shown]),.ptr 3 0]) (by
      show [_,_]=_;rfl) rfl ?_
     refine aY (HX acc ha [.s wq,.n y.shown] (by simp) IZ (by omega) (by simp)) [3,900000] rfl ⟨_,_,rfl,rfl,_,_,rfl,rfl,rfl⟩ rfl ?_;conv=>whnf
     refine ae (wrap_i64 (by(try dsimp only);omega)) ?_;conv=>whnf
     exact⟨acc++nJ [.s wq,.n y.shown],⟨by rw[fJ];exact dn,by rw[cm];omega⟩,(Wk.move 104160 900000 rfl rfl).trans (Wk.sub (by repeat' first|constructor|simp[PX.get]) (by repeat' first|constructor|simp[PX.get]))⟩
    ·have ht:bL y = .ifc 228 (.agg [.str y.word,i64 y.number]):=by unfold bL;rw[if_neg h1,if_neg h2,if_pos (by omega)]
     have he:pJ y = [.s eR,.n y.shown,.s y.word,.n y.number]:=by unfold pJ;rw[if_neg h1,if_neg h2]
     rw[ht];rw[he]at dn IZ;conv=>whnf
     refine E3 266 (by decide +kernel) ?_;refine aY (VJ y.word y.number) [] rfl rfl rfl ?_;conv=>whnf
     refine lq 1 [103648] (args':=[.d (u1 [.s eR,.n y.shown,.s y.word,.n y.number]),.ptr 3 0]) (by
      show [_,_]=_;rfl) rfl ?_
     refine aY (HX acc ha [.s eR,.n y.shown,.s y.word,.n y.number] (by simp) IZ (by omega) (by simp)) [3,900000] rfl ⟨_,_,rfl,rfl,_,_,rfl,rfl,rfl⟩ rfl ?_;conv=>whnf
     refine ae (wrap_i64 (by(try dsimp only);omega)) ?_;conv=>whnf
     exact⟨acc++nJ [.s eR,.n y.shown,.s y.word,.n y.number],⟨by rw[fJ];exact dn,by rw[cm];omega⟩,(Wk.move 104160 900000 rfl rfl).trans (Wk.sub (by repeat' first|constructor|simp[PX.get]) (by repeat' first|constructor|simp[PX.get]))⟩
  ·rintro acc ⟨dn,ha⟩
   rw[xH]at dn;conv=>whnf
   refine af (fun h=>absurd h (by simp)) (fun _=>?_);conv=>whnf
   refine ae (wrap_i64 (by(try dsimp only);omega)) ?_;conv=>whnf
   exact⟨acc,⟨by rw[<- dn];simp,ha⟩,(Wk.sub (by repeat' first|constructor|simp[PX.get]) (by repeat' first|constructor|simp[PX.get]))⟩
 ·rintro acc ⟨dn,ha⟩
  rw[oc,Qz]at dn;subst dn;conv=>whnf
  refine af (fun h=>absurd h (by simp)) (fun _=>?_);conv=>whnf
  refine aY (VE acc ha (by omega)) [3,900000] rfl ⟨_,_,rfl,rfl,_,_,rfl,rfl,rfl⟩ rfl ?_;conv=>whnf
  exact ab 0 rfl ⟨⟨rfl,rfl⟩,rfl⟩
theorem qa{s:ByteArray}(h:eH s=true):s.size<=1000:=by
 unfold eH at h;rw[Bool.and_eq_true,HI]at h;omega
theorem xw{l:aM}(h:bB l=0):XG l:=by
 obtain⟨_,_,h3⟩:=la.1 h;refine⟨fun b hb=>?_,fun b hb x hx=>?_⟩
 ·obtain⟨k,hk⟩:=List.getElem?_of_mem hb
  exact qa (ns.1 (h3 k b hk).1).name
 ·have hE:=(jK h hb).2.2.2 x hx
  by_cases h1:x.kind=1
  ·exact qa (hE.pass h1).1
  ·by_cases h2:x.kind=2
   ·rw[(hE.set h2).1];decide
   ·exact qa (hE.rep (by have:=hE.kind;omega)).1
def CA(l:aM):ByteArray×Int:=if bB l=0 then (wj l,0) else (.empty,bB l)
theorem aal(l:aM):bq Tryz.prog 50 [l.d] (.tup [.str (CA l).1,i64 (CA l).2]):=by
 unfold CA;refine aI mixed ak Tryz.func50 rfl (ft:=Yn) 1 (by decide +kernel) (by rfl) fun {σ} Y st=>?_;conv=>whnf
 by_cases hc:bB l=0
 ·rw[if_pos hc]
  have hR:=fk hc;refine ai (kN l 0 0 0 (jJ hc)) rfl rfl ?_;conv=>whnf
  refine ai (Sb l hR (xw hc)) rfl rfl ?_;conv=>whnf
  exact ab 0 rfl ⟨⟨rfl,rfl⟩,rfl⟩
 ·rw[if_neg hc]
  refine ai (kN l _ _ _ (jI l)) rfl rfl ?_;conv=>whnf
  generalize bB l=E at hc;refine af (fun _=>?_) (fun h=>absurd hc (by simpa using h));conv=>whnf
  exact ab 0 rfl ⟨⟨rfl,rfl⟩,rfl⟩
end Go.PX
namespace Go.PX
open Go.Proofs
open Go.RowKit
theorem oZ{σ:Type}{Y:Hd σ}{e:Env}{h:Heap}{s:σ}{d:Option Nat}{x:ByteArray}{K:St σ->Prop}(hx:x.size<=1000000000)
  (ht:∀ n,dY x=some n->bw (cL [] d (.d (i64 n)) []) e h fun e h=>K ⟨e,h,s⟩) (hf:dY x=none->bw (cL [] d (.d (.tup [])) []) e h fun e h=>Y.p oI (KD d e) h s) (hd:gG [] d (.d (.tup [])) []=true) (SF:∀ n,gG [] d (.d (i64 n)) []=true):dO Tryz.prog Y ⟨e,h,s⟩ d 122 [.d (.str x)] K:=by
 refine sB (VY x hx Y s) [] rfl rfl rfl rfl ?_ ?_
 ·rintro v h1 s' ⟨⟨n,hn,rfl,rfl⟩,rfl⟩
  exact⟨SF n,ht n hn⟩
 ·rintro pv h1 s' ⟨⟨hn,rfl,rfl⟩,rfl⟩
  exact⟨hd,hf hn⟩
def E5(e:aW):List au->List au
 | []=>[]
 | [b]=>[{ b with ar:=b.ar ++ [e] }]
 | b::c::r=>b::E5 e (c::r)
theorem z7(e:aW):∀ (init:List au) (last:au),E5 e (init ++ [last])=init ++ [{ last with ar:=last.ar ++ [e] }]
 | [],last=>rfl
 | [a],last=>rfl
 | a::b::r,last=>by
  show a::E5 e (b::r ++ [last])=_;rw[z7 e (b::r) last];rfl
def four(a b c d:ByteArray):Option (Int×Int×Int×Int):=match dY a with
 | none=>none
 | some a=>match dY b with
  | none=>none
  | some b=>match dY c with
   | none=>none
   | some c=>match dY d with
    | none=>none
    | some d=>some (a,b,c,d)
def iZ(r:List ByteArray):Option au:=match r with
 | [n,a,b,c,d]=>(four a b c d).map fun x=>⟨n,⟨x.1,x.2.1⟩,⟨x.2.2.1,x.2.2.2⟩,[]⟩
 | _=>none
theorem xp{r:List ByteArray}(h:¬ r.length=5):iZ r=none:=by
 unfold iZ;split
 ·exact absurd rfl h
 ·rfl
def qP(h:ByteArray)(r:List ByteArray):Option aW:=match r with
 | []=>none
 | s::q=>match dY s with
  | none=>none
  | some t=>
   if h=o4 then (match q with
    | [x]=>some ⟨t,1,x,0⟩
    | _=>none)
   else if h=wq then (match q with
    | []=>some ⟨t,2,.empty,0⟩
    | _=>none)
   else if h=eR then (match q with
    | [x,n]=>(dY n).map fun k=>⟨t,3,x,k⟩
    | _=>none)
   else none
def kO(l:aM)(w:List ByteArray):Option aM:=match w with
 | []=>none
 | h::r=>
  if h=pC then (iZ r).map fun b=>{ l with aj:=l.aj ++ [b] }
  else if l.aj = [] then none else (qP h r).map fun e=>{ l with aj:=E5 e l.aj }
theorem df(l:aM)(h:ByteArray)(r:List ByteArray):kO l (h::r)=if h=pC then (iZ r).map fun b=>{ l with aj:=l.aj ++ [b] }
  else if l.aj = [] then none else (qP h r).map fun e=>{ l with aj:=E5 e l.aj }:=rfl
def ow(b:au):List D:=[.str b.name,i64 b.off.lo,i64 b.off.hi,i64 b.set.lo,i64 b.set.hi]
def Jd(b:au):List D:=ow b ++ [.nils]
def Nv(near:Int):Heap:=[(1000000,.box (.vv [.d (i64 near),.sl 1000001 6 0 0])),(1000001,.arr 6 (.dd []))]
def tw(b i j:Nat)(near:Int)(init:List au)(last:au):Heap:=
 [(b,.box (.vv [.d (i64 near),.sl i 6 0 (init.length+1)])),(i,.arr 6 (.vv (aG (init.map au.cells) ++ [inj (ow last) ++ [.sl j 4 0 last.ar.length]]))),(j,.arr 4 (.dd (last.ar.map aW.cells)))]
def Xr(near:Int)(bs:List au)(new:au):Heap:=
 [(1000000,.box (.vv [.d (i64 near),.sl 2000000 6 0 (bs.length+1)])),(2000000,.arr 6 (.dd (bs.map au.cells ++ [Jd new])))]
theorem da(R:Nat->Nat)(A:List (List D))(last:au)(j n:Nat):kf R (.arr 6 (.vv (aG A ++ [inj (ow last) ++ [.sl j 4 0 n]]))) = .arr 6 (.vv (aG A ++ [inj (ow last) ++ [.sl (R j) 4 0 n]])):=by
 show Obj.arr 6 (.vv (aU (qh R) _))=_;rw[aE];rfl
theorem GI{g:Nat->Option DO}{v u:List V}{d c:List D}(h:cI g v=some d)(h2:cI g u=some c):gn g [v,u]=some [d,c]:=by
 rw[gn,h,dL h2]
theorem Wg(near:Int)(w:List ByteArray)(hw:w ≠ [])(hs:∀ x∈w,x.size<=1000000)(hl:w.length<=1000000) :
  Ij Tryz.prog 123 [.ptr 1000000 0,.d (jQ w)] (Nv near) (fun v h'=>∃ h r b,w=h::r/\h=pC/\iZ r=some b/\v = .d (.tup [])/\h'=Xr near [] b) (fun pv h'=>kO ⟨near,[]⟩ w=none/\pv=oI/\h'=Nv near):=by
 intro σ Y st;refine xR mixed ak Tryz.func123 rfl (ft:=AD) (args:=[.ptr 1000000 0,.d (jQ w)]) (show nS AD Tryz.f123 2=true from by decide +kernel) ?_
 match w,hw with
 | h::r,_=>
 conv=>whnf
 refine af (fun h1=>?_) (fun h1=>?_)
 ·have h1:h=pC:=of_decide_eq_true h1
  conv=>whnf
  refine e9 rfl (fun h2=>?_) (fun h2=>?_)
  ·have h2:r.length=5:=by
    have:=of_decide_eq_true h2;simp at this;omega
   match r,h2 with
   | [n,a,b,c,d],_=>
   conv=>whnf
   refine dh (T:=tys) ak (by exact an mixed ak (by decide +kernel)) (α:=Nat×(Int×Int×Int×Int)) (fun z=>⟨[(0,.ptr 1000000 0),(1,.d (jQ [h,n,a,b,c,d])),(4,.ptr 4 0),(29,.sl 29 1 0 4),(30,.d (i64 4)),(31,.d (i64 z.1))],(29,.arr 1 (.vv [[.ptr 4 1],[.ptr 4 2],[.ptr 4 3],[.ptr 4 4]]))::(4,.box (.dd [.str n,i64 z.2.1,i64 z.2.2.1,i64 z.2.2.2.1,i64 z.2.2.2.2,.nils]))::Nv near,st⟩) (fun z=>z.1<=4/\(1<=z.1->dY a=some z.2.1)/\(2<=z.1->dY b=some z.2.2.1)/\(3<=z.1->dY c=some z.2.2.2.1)/\(4<=z.1->dY d=some z.2.2.2.2)) (fun z=>4-z.1) (0,(0,0,0,0)) (Wk.sub (by repeat' first|constructor|simp[PX.get]) (by repeat' first|constructor|simp[PX.get])) ⟨by simp,by simp,by simp,by simp,by simp⟩ ?_;rintro ⟨i,x0,x1,x2,x3⟩ ⟨hi,ha,hb,hc,hd⟩;simp only at hi ha hb hc hd;obtain rfl|rfl|rfl|rfl|rfl:i=0\/i=1\/i=2\/i=3\/i=4:=by omega
   ·have dc:ByteArray.size a<=1000000000:=by have:=hs a (by simp);omega
    conv=>whnf
    refine ao (2) (by simp) (wrap_i64 (by omega)) ?_;conv=>whnf
    refine oZ dc (fun k hk=>?_) (fun hk=>?_) rfl (by intro k;rfl)
    ·conv=>whnf
     exact⟨(1,(k,x1,x2,x3)),by simp only;omega,⟨by simp only;omega,by simp_all⟩,(Wk.sub (by repeat' first|constructor|simp[PX.get]) (by repeat' first|constructor|simp[PX.get]))⟩
    ·conv=>whnf
     refine aC [] [] (Nv near) rfl ⟨rfl,rfl,trivial⟩ rfl ⟨⟨?_,rfl,rfl⟩,rfl⟩;rw[df,if_pos h1];unfold iZ four;simp_all
   ·have dc:ByteArray.size b<=1000000000:=by have:=hs b (by simp);omega
    conv=>whnf
    refine ao (3) (by simp) (wrap_i64 (by omega)) ?_;conv=>whnf
    refine oZ dc (fun k hk=>?_) (fun hk=>?_) rfl (by intro k;rfl)
    ·conv=>whnf
     exact⟨(2,(x0,k,x2,x3)),by simp only;omega,⟨by simp only;omega,by simp_all⟩,(Wk.sub (by repeat' first|constructor|simp[PX.get]) (by repeat' first|constructor|simp[PX.get]))⟩
    ·conv=>whnf
     refine aC [] [] (Nv near) rfl ⟨rfl,rfl,trivial⟩ rfl ⟨⟨?_,rfl,rfl⟩,rfl⟩;rw[df,if_pos h1];unfold iZ four;simp_all
   ·have dc:ByteArray.size c<=1000000000:=by have:=hs c (by simp);omega
    conv=>whnf
    refine ao (4) (by simp) (wrap_i64 (by omega)) ?_;conv=>whnf
    refine oZ dc (fun k hk=>?_) (fun hk=>?_) rfl (by intro k;rfl)
    ·conv=>whnf
     exact⟨(3,(x0,x1,k,x3)),by simp only;omega,⟨by simp only;omega,by simp_all⟩,(Wk.sub (by repeat' first|constructor|simp[PX.get]) (by repeat' first|constructor|simp[PX.get]))⟩
    ·conv=>whnf
     refine aC [] [] (Nv near) rfl ⟨rfl,rfl,trivial⟩ rfl ⟨⟨?_,rfl,rfl⟩,rfl⟩;rw[df,if_pos h1];unfold iZ four;simp_all
   ·have dc:ByteArray.size d<=1000000000:=by have:=hs d (by simp);omega
    conv=>whnf
    refine ao (5) (by simp) (wrap_i64 (by omega)) ?_;conv=>whnf
    refine oZ dc (fun k hk=>?_) (fun hk=>?_) rfl (by intro k;rfl)
    ·conv=>whnf
     exact⟨(4,(x0,x1,x2,k)),by simp only;omega,⟨by simp only;omega,by simp_all⟩,(Wk.sub (by repeat' first|constructor|simp[PX.get]) (by repeat' first|constructor|simp[PX.get]))⟩
    ·conv=>whnf
     refine aC [] [] (Nv near) rfl ⟨rfl,rfl,trivial⟩ rfl ⟨⟨?_,rfl,rfl⟩,rfl⟩;rw[df,if_pos h1];unfold iZ four;simp_all
   have ha:=ha (by omega);have hb:=hb (by omega);have hc:=hc (by omega);have hd:=hd (by omega);conv=>whnf
   refine ag rfl ?_;conv=>whnf
   refine ag rfl ?_;conv=>whnf
   have Nh:iZ [n,a,b,c,d]=some ⟨n,⟨x0,x1⟩,⟨x2,x3⟩,[]⟩:=by simp[iZ,four,ha,hb,hc,hd]
   exact aC [52] [] (Xr near [] ⟨n,⟨x0,x1⟩,⟨x2,x3⟩,[]⟩) rfl ⟨rfl,rfl,trivial⟩ rfl ⟨⟨_,_,_,rfl,h1,Nh,rfl,rfl⟩,rfl⟩
  ·have h2:¬ r.length=5:=by
    have:=of_decide_eq_false h2;simp at this;omega
   conv=>whnf
   refine aC [] [] (Nv near) rfl ⟨rfl,rfl,trivial⟩ rfl ⟨⟨?_,rfl,rfl⟩,rfl⟩;rw[df,if_pos h1,xp h2];rfl
 ·have h1:¬ h=pC:=of_decide_eq_false h1
  have hT:kO ⟨near,[]⟩ (h::r)=none:=by rw[df,if_neg h1,if_pos rfl]
  conv=>whnf
  refine af (fun h3=>?_) (fun h3=>?_)
  ·conv=>whnf
   refine e9 rfl (fun h4=>?_) (fun h4=>?_)
   ·cases h4
   ·conv=>whnf
    exact aC [] [] (Nv near) rfl ⟨rfl,rfl,trivial⟩ rfl ⟨⟨hT,rfl,rfl⟩,rfl⟩
  ·conv=>whnf
   refine e9 rfl (fun h4=>?_) (fun h4=>?_)
   ·cases h4
   ·conv=>whnf
    exact aC [] [] (Nv near) rfl ⟨rfl,rfl,trivial⟩ rfl ⟨⟨hT,rfl,rfl⟩,rfl⟩
theorem ze(init:List au)(X:List V)(Y:Cells):(aK.vv (aG (init.map au.cells) ++ [X])).set (0+(↑init.length:Int).toNat) Y=aK.vv (aG (init.map au.cells) ++ [Y.bm]):=by
 show aK.vv (List.set _ _ Y.bm)=_;rw[Nat.zero_add,Int.toNat_natCast];simp[bV,List.set_append]
theorem Su.mono{σ:Type}{P:Program}{Y:Hd σ}{f:FuncId}{args:List V}{h:Heap}{s:σ}{Q Q':V->Heap->σ->Prop}{X X':Value->Heap->σ->Prop}(hf:Su P Y f args h s Q X)(hq:∀ v h' s',Q v h' s'->Q' v h' s')(hx:∀ pv h' s',X pv h' s'->X' pv h' s'):Su P Y f args h s Q' X':=by
 refine⟨hf.enter,fun cx hY L F aT w hh hr=>(hf.run cx hY L F aT w hh hr).mono ?_⟩;rintro e w' (⟨x,he,v,h',s',L',F',h1,h2⟩|⟨pv,h',s',L',F',he,h1,h2⟩)
 ·exact .inl ⟨x,he,v,h',s',L',F',hq _ _ _ h1,h2⟩
 ·exact .inr ⟨pv,h',s',L',F',he,hx _ _ _ h1,h2⟩
theorem VZ(s:ByteArray)(n:Int)(hs:s.size<=1000000000)(h:dY s=some n):bq Tryz.prog 122 [.str s] (i64 n):=by
 refine o9.ofX (Q:=fun v h'=>v = .d (i64 n)/\h' = []) (X:=fun _ _=>False) ?_ (fun _ _ h=>h);intro σ Y st;refine(VY s hs Y st).mono (fun v h' s' hh=>?_) (fun pv h' s' hh=>?_)
 ·obtain⟨⟨m,hm,hv,hh⟩,hs⟩:=hh
  rw[h]at hm;cases hm;exact⟨⟨hv,hh⟩,hs⟩
 ·obtain⟨⟨hm,_⟩,_⟩:=hh
  rw[h]at hm;cases hm
set_option maxHeartbeats 4000000 in
theorem Wh(near:Int)(init:List au)(last:au)(w:List ByteArray)(hw:w ≠ [])(hs:∀ x∈w,x.size<=1000000)(hl:w.length<=1000000)(fF:init.length<=100000)(Ht:last.ar.length<=100000)
  (NW:∀ s x n,w = [eR,s,x,n]->dY s≠none->dY n≠none) :
  Ij Tryz.prog 123 [.ptr 1000000 0,.d (jQ w)] (tw 1000000 1000001 1000002 near init last)
   (fun v h'=>v = .d (.tup []) /\ ∃ h r,w=h::r/\((h=pC /\ ∃ b,iZ r=some b/\h'=Xr near (init ++ [last]) b)\/(¬ h=pC /\ ∃ e,qP h r=some e/\h'=tw 1000000 1000001 2000000 near init { last with ar:=last.ar ++ [e] })))
   (fun pv h'=>kO ⟨near,init ++ [last]⟩ w=none/\pv=oI/\h'=tw 1000000 1000001 1000002 near init last):=by
 intro σ Y st;refine xR mixed ak Tryz.func123 rfl (ft:=AD) (args:=[.ptr 1000000 0,.d (jQ w)]) (show nS AD Tryz.f123 2=true from by decide +kernel) ?_
 match w,hw with
 | h::r,_=>
 conv=>whnf
 refine af (fun h1=>?_) (fun h1=>?_)
 ·have h1:h=pC:=of_decide_eq_true h1
  conv=>whnf
  refine e9 rfl (fun h2=>?_) (fun h2=>?_)
  ·have h2:r.length=5:=by
    have:=of_decide_eq_true h2;simp at this;omega
   match r,h2 with
   | [n,a,b,c,d],_=>
   conv=>whnf
   refine dh (T:=tys) ak (by exact an mixed ak (by decide +kernel)) (α:=Nat×(Int×Int×Int×Int)) (fun z=>⟨[(0,.ptr 1000000 0),(1,.d (jQ [h,n,a,b,c,d])),(4,.ptr 4 0),(29,.sl 29 1 0 4),(30,.d (i64 4)),(31,.d (i64 z.1))],(29,.arr 1 (.vv [[.ptr 4 1],[.ptr 4 2],[.ptr 4 3],[.ptr 4 4]]))::(4,.box (.dd [.str n,i64 z.2.1,i64 z.2.2.1,i64 z.2.2.2.1,i64 z.2.2.2.2,.nils]))::tw 1000000 1000001 1000002 near init last,st⟩) (fun z=>z.1<=4/\(1<=z.1->dY a=some z.2.1)/\(2<=z.1->dY b=some z.2.2.1)/\(3<=z.1->dY c=some z.2.2.2.1)/\(4<=z.1->dY d=some z.2.2.2.2)) (fun z=>4-z.1) (0,(0,0,0,0)) (Wk.sub ⟨(by first|rfl|(simp only[List.length_map];rfl)),(by first|rfl|(simp only[List.length_map];rfl)),(by first|rfl|(simp only[List.length_map];rfl)),(by first|rfl|(simp only[List.length_map];rfl)),(by first|rfl|(simp only[List.length_map];rfl)),(by first|rfl|(simp only[List.length_map];rfl)),trivial⟩ ⟨(by first|rfl|(simp only[List.length_map];rfl)),(by first|rfl|(simp only[List.length_map];rfl)),(by first|rfl|(simp only[List.length_map];rfl)),(by first|rfl|(show some (Obj.arr 6 (.vv (aU _ (aU _ (aG _++_)))))=_;rw[aE,aE];rfl)),(by first|rfl|(simp only[List.length_map];rfl)),trivial⟩) ⟨by simp,by simp,by simp,by simp,by simp⟩ ?_;rintro ⟨i,x0,x1,x2,x3⟩ ⟨hi,ha,hb,hc,hd⟩;simp only at hi ha hb hc hd;obtain rfl|rfl|rfl|rfl|rfl:i=0\/i=1\/i=2\/i=3\/i=4:=by omega
   ·have dc:ByteArray.size a<=1000000000:=by have:=hs a (by simp);omega
    conv=>whnf
    refine ao (2) (by simp) (wrap_i64 (by omega)) ?_;conv=>whnf
    refine oZ dc (fun k hk=>?_) (fun hk=>?_) rfl (by intro k;rfl)
    ·conv=>whnf
     exact⟨(1,(k,x1,x2,x3)),by simp only;omega,⟨by simp only;omega,by simp_all⟩,(Wk.sub ⟨(by first|rfl|(simp only[List.length_map];rfl)),(by first|rfl|(simp only[List.length_map];rfl)),(by first|rfl|(simp only[List.length_map];rfl)),(by first|rfl|(simp only[List.length_map];rfl)),(by first|rfl|(simp only[List.length_map];rfl)),(by first|rfl|(simp only[List.length_map];rfl)),trivial⟩ ⟨(by first|rfl|(simp only[List.length_map];rfl)),(by first|rfl|(simp only[List.length_map];rfl)),(by first|rfl|(simp only[List.length_map];rfl)),(by first|rfl|(show some (Obj.arr 6 (.vv (aU _ (aU _ (aG _++_)))))=_;rw[aE,aE];rfl)),(by first|rfl|(simp only[List.length_map];rfl)),trivial⟩)⟩
    ·conv=>whnf
     refine aC [] [] (tw 1000000 1000001 1000002 near init last) rfl ⟨rfl,(congrArg some (da (fW []) (init.map au.cells) last 1000002 last.ar.length)).symm,rfl,trivial⟩ rfl ⟨⟨?_,rfl,rfl⟩,rfl⟩;rw[df,if_pos h1];unfold iZ four;simp_all
   ·have dc:ByteArray.size b<=1000000000:=by have:=hs b (by simp);omega
    conv=>whnf
    refine ao (3) (by simp) (wrap_i64 (by omega)) ?_;conv=>whnf
    refine oZ dc (fun k hk=>?_) (fun hk=>?_) rfl (by intro k;rfl)
    ·conv=>whnf
     exact⟨(2,(x0,k,x2,x3)),by simp only;omega,⟨by simp only;omega,by simp_all⟩,(Wk.sub ⟨(by first|rfl|(simp only[List.length_map];rfl)),(by first|rfl|(simp only[List.length_map];rfl)),(by first|rfl|(simp only[List.length_map];rfl)),(by first|rfl|(simp only[List.length_map];rfl)),(by first|rfl|(simp only[List.length_map];rfl)),(by first|rfl|(simp only[List.length_map];rfl)),trivial⟩ ⟨(by first|rfl|(simp only[List.length_map];rfl)),(by first|rfl|(simp only[List.length_map];rfl)),(by first|rfl|(simp only[List.length_map];rfl)),(by first|rfl|(show some (Obj.arr 6 (.vv (aU _ (aU _ (aG _++_)))))=_;rw[aE,aE];rfl)),(by first|rfl|(simp only[List.length_map];rfl)),trivial⟩)⟩
    ·conv=>whnf
     refine aC [] [] (tw 1000000 1000001 1000002 near init last) rfl ⟨rfl,(congrArg some (da (fW []) (init.map au.cells) last 1000002 last.ar.length)).symm,rfl,trivial⟩ rfl ⟨⟨?_,rfl,rfl⟩,rfl⟩;rw[df,if_pos h1];unfold iZ four;simp_all
   ·have dc:ByteArray.size c<=1000000000:=by have:=hs c (by simp);omega
    conv=>whnf
    refine ao (4) (by simp) (wrap_i64 (by omega)) ?_;conv=>whnf
    refine oZ dc (fun k hk=>?_) (fun hk=>?_) rfl (by intro k;rfl)
    ·conv=>whnf
     exact⟨(3,(x0,x1,k,x3)),by simp only;omega,⟨by simp only;omega,by simp_all⟩,(Wk.sub ⟨(by first|rfl|(simp only[List.length_map];rfl)),(by first|rfl|(simp only[List.length_map];rfl)),(by first|rfl|(simp only[List.length_map];rfl)),(by first|rfl|(simp only[List.length_map];rfl)),(by first|rfl|(simp only[List.length_map];rfl)),(by first|rfl|(simp only[List.length_map];rfl)),trivial⟩ ⟨(by first|rfl|(simp only[List.length_map];rfl)),(by first|rfl|(simp only[List.length_map];rfl)),(by first|rfl|(simp only[List.length_map];rfl)),(by first|rfl|(show some (Obj.arr 6 (.vv (aU _ (aU _ (aG _++_)))))=_;rw[aE,aE];rfl)),(by first|rfl|(simp only[List.length_map];rfl)),trivial⟩)⟩
    ·conv=>whnf
     refine aC [] [] (tw 1000000 1000001 1000002 near init last) rfl ⟨rfl,(congrArg some (da (fW []) (init.map au.cells) last 1000002 last.ar.length)).symm,rfl,trivial⟩ rfl ⟨⟨?_,rfl,rfl⟩,rfl⟩;rw[df,if_pos h1];unfold iZ four;simp_all
   ·have dc:ByteArray.size d<=1000000000:=by have:=hs d (by simp);omega
    conv=>whnf
    refine ao (5) (by simp) (wrap_i64 (by omega)) ?_;conv=>whnf
    refine oZ dc (fun k hk=>?_) (fun hk=>?_) rfl (by intro k;rfl)
    ·conv=>whnf
     exact⟨(4,(x0,x1,x2,k)),by simp only;omega,⟨by simp only;omega,by simp_all⟩,(Wk.sub ⟨(by first|rfl|(simp only[List.length_map];rfl)),(by first|rfl|(simp only[List.length_map];rfl)),(by first|rfl|(simp only[List.length_map];rfl)),(by first|rfl|(simp only[List.length_map];rfl)),(by first|rfl|(simp only[List.length_map];rfl)),(by first|rfl|(simp only[List.length_map];rfl)),trivial⟩ ⟨(by first|rfl|(simp only[List.length_map];rfl)),(by first|rfl|(simp only[List.length_map];rfl)),(by first|rfl|(simp only[List.length_map];rfl)),(by first|rfl|(show some (Obj.arr 6 (.vv (aU _ (aU _ (aG _++_)))))=_;rw[aE,aE];rfl)),(by first|rfl|(simp only[List.length_map];rfl)),trivial⟩)⟩
    ·conv=>whnf
     refine aC [] [] (tw 1000000 1000001 1000002 near init last) rfl ⟨rfl,(congrArg some (da (fW []) (init.map au.cells) last 1000002 last.ar.length)).symm,rfl,trivial⟩ rfl ⟨⟨?_,rfl,rfl⟩,rfl⟩;rw[df,if_pos h1];unfold iZ four;simp_all
   have ha:=ha (by omega);have hb:=hb (by omega);have hc:=hc (by omega);have hd:=hd (by omega);conv=>whnf
   refine ag rfl ?_;conv=>whnf
   rw[show aU (bf 52) (aU (bf 51) (aG (init.map au.cells) ++ [inj (ow last) ++ [V.sl 1000002 4 0 last.ar.length]]))=aG (init.map au.cells) ++ [inj (ow last) ++ [V.sl 1000002 4 0 last.ar.length]] from by rw[aE,aE];rfl];refine ag (by simp[aK.len,bV]) ?_;refine aQ (by
    show(true && !dF 52 (List.flatten (aG (init.map au.cells) ++ [_]++_)))=true;rw[List.append_assoc,eh];rfl) ?_
   refine aQ (decide_eq_true (by
    show((aG (init.map au.cells) ++ [_]).length+1)*72<=140737488355328;simp[bV];omega)) ?_
   conv=>whnf
   refine fN [1000002,52] (by
    show bJ (List.flatten (aG (init.map au.cells) ++ [inj (ow last) ++ [V.sl 1000002 4 0 last.ar.length]]++aG [[D.str n,i64 x0,i64 x1,i64 x2,i64 x3,.nils]]))++([52] ++ [])=_;rw[List.append_assoc,dq];rfl) ?_
   conv=>whnf
   have Nh:iZ [n,a,b,c,d]=some ⟨n,⟨x0,x1⟩,⟨x2,x3⟩,[]⟩:=by simp[iZ,four,ha,hb,hc,hd]
   generalize tf:(⟨n,⟨x0,x1⟩,⟨x2,x3⟩,[]⟩:au)=new at Nh;have Rm : [D.str n,i64 x0,i64 x1,i64 x2,i64 x3,.nils]=Jd new:=by rw[<- tf];rfl
   refine nY (l':=[]) (h':=[(1000000,.box (.vv [.d (i64 near),.sl 52 6 0 (init.length+2)])),(52,.arr 6 (.dd (init.map au.cells ++ [last.cells,Jd new])))]) ((Wk.iB 1 [1000002] 52 (sz:=6) (vs:=aG (init.map au.cells)++([inj (ow last) ++ [V.sl 1000002 4 0 last.ar.length]]++aG [[D.str n,i64 x0,i64 x1,i64 x2,i64 x3,.nils]])) (ds:=init.map au.cells ++ [last.cells,Jd new]) ?_ (dK (GI (ln (a:=ow last) (az (dW (es':=last.ar.map aW.cells) rfl rfl (by simp)) rfl)) (by rw[<- Rm];rfl)) _)).trans (Wk.sub trivial ⟨?_,rfl,trivial⟩)) rfl rfl ?_
   ·exact congrArg (fun z=>some (Obj.arr 6 (.vv z))) (List.append_assoc _ _ _)
   ·show some (Obj.box (.vv [.d (i64 near),.sl 52 6 0 ((aG (init.map au.cells) ++ [inj (ow last) ++ [V.sl 1000002 4 0 last.ar.length]]).length+1)]))=_
    simp[bV]
   ·refine aC [52] [] (Xr near (init ++ [last]) new) rfl ⟨?_,?_,trivial⟩ rfl ⟨⟨rfl,_,_,rfl,.inl ⟨h1,new,Nh,rfl⟩⟩,rfl⟩
    ·show some (Obj.box (.vv [.d (i64 near),.sl 52 6 0 (init.length+2)]))=some (Obj.box (.vv [.d (i64 near),.sl 52 6 0 ((init ++ [last]).length+1)]))
     simp
    ·show some (Obj.arr 6 (.dd (init.map au.cells ++ [last.cells,Jd new])))=some (Obj.arr 6 (.dd ((init ++ [last]).map au.cells ++ [Jd new])))
     simp
  ·have h2:¬ r.length=5:=by
    have:=of_decide_eq_false h2;simp at this;omega
   conv=>whnf
   refine aC [] [] (tw 1000000 1000001 1000002 near init last) rfl ⟨rfl,(congrArg some (da (fW []) (init.map au.cells) last 1000002 last.ar.length)).symm,rfl,trivial⟩ rfl ⟨⟨?_,rfl,rfl⟩,rfl⟩;rw[df,if_pos h1,xp h2];rfl
 ·have h1:¬ h=pC:=of_decide_eq_false h1
  have hT:kO ⟨near,init ++ [last]⟩ (h::r)=(qP h r).map fun e=>(⟨near,E5 e (init ++ [last])⟩:aM):=by rw[df,if_neg h1,if_neg (by simp)]
  cases r with
  | nil=>
   conv=>whnf
   refine e9 rfl (fun h4=>by cases h4) (fun _=>?_);conv=>whnf
   exact aC [] [] (tw 1000000 1000001 1000002 near init last) rfl ⟨rfl,(congrArg some (da (fW []) (init.map au.cells) last 1000002 last.ar.length)).symm,rfl,trivial⟩ rfl ⟨⟨hT,rfl,rfl⟩,rfl⟩
  | cons s q=>
   have J0:s.size<=1000000000:=by have:=hs s (by simp);omega
   conv=>whnf
   refine af (fun _=>?_) (fun h2=>absurd h2 (by simp;omega));conv=>whnf
   refine e9 rfl (fun _=>?_) (fun h2=>absurd h2 (by first|(simp;done)|(simp;omega)));conv=>whnf
   refine oZ J0 (fun t ht=>?_) (fun ht=>?_) rfl (by intro k;rfl);case refine_2=>
    conv=>whnf
    refine aC [] [] (tw 1000000 1000001 1000002 near init last) rfl ⟨rfl,(by first|exact(congrArg some (da (fW []) (init.map au.cells) last 1000002 last.ar.length)).symm|(show some (Obj.arr 6 (.vv (aU _ (aG _++_))))=_;rw[aE];exact(congrArg some (da (fW []) (init.map au.cells) last 1000002 last.ar.length)).symm)),rfl,trivial⟩ rfl ⟨⟨?_,rfl,rfl⟩,rfl⟩;rw[hT];unfold qP;simp only[ht];rfl
   conv=>whnf
   refine af (fun h3=>?_) (fun h3=>?_)
   ·have h3:h=o4:=of_decide_eq_true h3
    conv=>whnf
    refine dO.Nw ?_;refine e9 rfl (fun hq=>?_) (fun hq=>?_);case refine_2=>
     have hq:¬ q.length=1:=by
      have:=of_decide_eq_false hq;simp at this;omega
     conv=>whnf
     refine aC [] [] (tw 1000000 1000001 1000002 near init last) rfl ⟨rfl,(by first|exact(congrArg some (da (fW []) (init.map au.cells) last 1000002 last.ar.length)).symm|(show some (Obj.arr 6 (.vv (aU _ (aG _++_))))=_;rw[aE];exact(congrArg some (da (fW []) (init.map au.cells) last 1000002 last.ar.length)).symm)),rfl,trivial⟩ rfl ⟨⟨?_,rfl,rfl⟩,rfl⟩;rw[hT];unfold qP;simp only[ht,if_pos h3];(match q,hq with | [],_=>rfl | [x],h=>exact absurd rfl h|x::y::r,_=>rfl)
    refine⟨⟨[(0,.ptr 1000000 0),(1,.d (jQ (h::s::q))),(7,.ptr 7 0)],(7,.box (.dd [i64 t,i64 0,.str ⟨#[]⟩,i64 0]))::tw 1000000 1000001 1000002 near init last,st⟩,Wk.sub ⟨rfl,rfl,rfl,trivial⟩ ⟨rfl,rfl,(by show some (Obj.arr 6 (.vv (aU _ (aG _++_))))=_;rw[aE];rfl),rfl,trivial⟩,?_⟩;have hq:q.length=1:=by
     have:=of_decide_eq_true hq;simp at this;omega
    match q,hq with
    | [x],_=>
    conv=>whnf
    refine ao ((init.length:Nat):Int) (by simp) (wrap_i64 (by omega)) ?_;conv=>whnf
    refine af (fun _=>?_) (fun h=>absurd h (by simp;omega));conv=>whnf
    rw[show aU (bf 128) (aU (bf 127) (aG (init.map au.cells) ++ [inj (ow last) ++ [V.sl 1000002 4 0 last.ar.length]]))=aG (init.map au.cells) ++ [inj (ow last) ++ [V.sl 1000002 4 0 last.ar.length]] from by rw[aE,aE];rfl];refine cD (inj (ow last) ++ [V.sl 1000002 4 0 last.ar.length]) (by rw[Nat.zero_add,Int.toNat_natCast];simp[bV]) ?_;conv=>whnf
    refine ag rfl ?_;conv=>whnf
    refine ag (by simp[aK.len]) ?_;conv=>whnf
    refine aQ (decide_eq_true (by
     show((last.ar.map aW.cells).length+1)*40<=140737488355328;rw[List.length_map];omega)) ?_
    conv=>whnf
    refine cD (inj (ow last) ++ [V.sl 1000002 4 0 last.ar.length]) (by rw[Nat.zero_add,Int.toNat_natCast];simp[bV]) ?_;conv=>whnf
    rw[ze];refine fN [128] (by
     show bJ (List.flatten (aG (init.map au.cells) ++ [inj (ow last) ++ [V.sl 128 4 0 _]])) ++ []=_;rw[dq];rfl) ?_
    conv=>whnf
    have hE:qP h (s :: [x])=some (⟨t,1,x,0⟩:aW):=(by unfold qP;simp only[ht,if_pos h3]);generalize hee:(⟨t,1,x,0⟩:aW)=ee at hE;have hlen:(last.ar ++ [ee]).length=(last.ar.map aW.cells).length+1:=by simp
    refine aC [128] [] (tw 1000000 1000001 2000000 near init { last with ar:=last.ar ++ [ee] }) rfl ⟨rfl,?_,?_,trivial⟩ rfl ⟨⟨rfl,_,_,rfl,.inr ⟨h1,ee,hE,rfl⟩⟩,rfl⟩
    ·show some (Obj.arr 6 (.vv (aG (init.map au.cells) ++ [inj (ow last) ++ [V.sl 128 4 0 ((last.ar.map aW.cells).length+1)]])))=some (kf (fW [128]) (.arr 6 (.vv (aG (init.map au.cells) ++ [inj (ow last) ++ [.sl 2000000 4 0 (last.ar ++ [ee]).length]]))))
     rw[da,hlen];rfl
    ·show _=some (Obj.arr 4 (.dd ((last.ar ++ [ee]).map aW.cells)))
     rw[<- hee,List.map_append];rfl
   ·have h3:¬ h=o4:=of_decide_eq_false h3
    conv=>whnf
    refine af (fun h4=>?_) (fun h4=>?_)
    ·have h4:h=wq:=of_decide_eq_true h4
     conv=>whnf
     refine dO.Nw ?_;refine e9 rfl (fun hq=>?_) (fun hq=>?_);case refine_2=>
      have hq:¬ q.length=0:=by
       have:=of_decide_eq_false hq;simp at this;omega
      conv=>whnf
      refine aC [] [] (tw 1000000 1000001 1000002 near init last) rfl ⟨rfl,(by first|exact(congrArg some (da (fW []) (init.map au.cells) last 1000002 last.ar.length)).symm|(show some (Obj.arr 6 (.vv (aU _ (aG _++_))))=_;rw[aE];exact(congrArg some (da (fW []) (init.map au.cells) last 1000002 last.ar.length)).symm)),rfl,trivial⟩ rfl ⟨⟨?_,rfl,rfl⟩,rfl⟩;rw[hT];unfold qP;simp only[ht,if_neg h3,if_pos h4];(match q,hq with | [],h=>exact absurd rfl h|x::r,_=>rfl)
     refine⟨⟨[(0,.ptr 1000000 0),(1,.d (jQ (h::s::q))),(7,.ptr 7 0)],(7,.box (.dd [i64 t,i64 0,.str ⟨#[]⟩,i64 0]))::tw 1000000 1000001 1000002 near init last,st⟩,Wk.sub ⟨rfl,rfl,rfl,trivial⟩ ⟨rfl,rfl,(by show some (Obj.arr 6 (.vv (aU _ (aG _++_))))=_;rw[aE];rfl),rfl,trivial⟩,?_⟩;have hq:q.length=0:=by
      have:=of_decide_eq_true hq;simp at this;omega
     match q,hq with
     | [],_=>
     conv=>whnf
     refine ao ((init.length:Nat):Int) (by simp) (wrap_i64 (by omega)) ?_;conv=>whnf
     refine af (fun _=>?_) (fun h=>absurd h (by simp;omega));conv=>whnf
     rw[show aU (bf 128) (aU (bf 127) (aG (init.map au.cells) ++ [inj (ow last) ++ [V.sl 1000002 4 0 last.ar.length]]))=aG (init.map au.cells) ++ [inj (ow last) ++ [V.sl 1000002 4 0 last.ar.length]] from by rw[aE,aE];rfl];refine cD (inj (ow last) ++ [V.sl 1000002 4 0 last.ar.length]) (by rw[Nat.zero_add,Int.toNat_natCast];simp[bV]) ?_;conv=>whnf
     refine ag rfl ?_;conv=>whnf
     refine ag (by simp[aK.len]) ?_;conv=>whnf
     refine aQ (decide_eq_true (by
      show((last.ar.map aW.cells).length+1)*40<=140737488355328;rw[List.length_map];omega)) ?_
     conv=>whnf
     refine cD (inj (ow last) ++ [V.sl 1000002 4 0 last.ar.length]) (by rw[Nat.zero_add,Int.toNat_natCast];simp[bV]) ?_;conv=>whnf
     rw[ze];refine fN [128] (by
      show bJ (List.flatten (aG (init.map au.cells) ++ [inj (ow last) ++ [V.sl 128 4 0 _]])) ++ []=_;rw[dq];rfl) ?_
     conv=>whnf
     have hE:qP h (s :: [])=some (⟨t,2,.empty,0⟩:aW):=(by unfold qP;simp only[ht,if_neg h3,if_pos h4]);generalize hee:(⟨t,2,.empty,0⟩:aW)=ee at hE;have hlen:(last.ar ++ [ee]).length=(last.ar.map aW.cells).length+1:=by simp
     refine aC [128] [] (tw 1000000 1000001 2000000 near init { last with ar:=last.ar ++ [ee] }) rfl ⟨rfl,?_,?_,trivial⟩ rfl ⟨⟨rfl,_,_,rfl,.inr ⟨h1,ee,hE,rfl⟩⟩,rfl⟩
     ·show some (Obj.arr 6 (.vv (aG (init.map au.cells) ++ [inj (ow last) ++ [V.sl 128 4 0 ((last.ar.map aW.cells).length+1)]])))=some (kf (fW [128]) (.arr 6 (.vv (aG (init.map au.cells) ++ [inj (ow last) ++ [.sl 2000000 4 0 (last.ar ++ [ee]).length]]))))
      rw[da,hlen];rfl
     ·show _=some (Obj.arr 4 (.dd ((last.ar ++ [ee]).map aW.cells)))
      rw[<- hee,List.map_append];rfl
    ·have h4:¬ h=wq:=of_decide_eq_false h4
     conv=>whnf
     refine af (fun h5=>?_) (fun h5=>?_)
     ·have h5:h=eR:=of_decide_eq_true h5
      conv=>whnf
      refine dO.Nw ?_;refine e9 rfl (fun hq=>?_) (fun hq=>?_);case refine_2=>
       have hq:¬ q.length=2:=by
        have:=of_decide_eq_false hq;simp at this;omega
       conv=>whnf
       refine aC [] [] (tw 1000000 1000001 1000002 near init last) rfl ⟨rfl,(by first|exact(congrArg some (da (fW []) (init.map au.cells) last 1000002 last.ar.length)).symm|(show some (Obj.arr 6 (.vv (aU _ (aG _++_))))=_;rw[aE];exact(congrArg some (da (fW []) (init.map au.cells) last 1000002 last.ar.length)).symm)),rfl,trivial⟩ rfl ⟨⟨?_,rfl,rfl⟩,rfl⟩;rw[hT];unfold qP;simp only[ht,if_neg h3,if_neg h4,if_pos h5];(match q,hq with | [],_=>rfl | [x],_=>rfl | [x,y],h=>exact absurd rfl h|x::y::z::r,_=>rfl)
      refine⟨⟨[(0,.ptr 1000000 0),(1,.d (jQ (h::s::q))),(7,.ptr 7 0)],(7,.box (.dd [i64 t,i64 0,.str ⟨#[]⟩,i64 0]))::tw 1000000 1000001 1000002 near init last,st⟩,Wk.sub ⟨rfl,rfl,rfl,trivial⟩ ⟨rfl,rfl,(by show some (Obj.arr 6 (.vv (aU _ (aG _++_))))=_;rw[aE];rfl),rfl,trivial⟩,?_⟩;have hq:q.length=2:=by
       have:=of_decide_eq_true hq;simp at this;omega
      match q,hq with
      | [x,n],_=>
      obtain⟨k,hk⟩:∃ k,dY n=some k:=by
       cases hk:dY n with
       | some k=>exact⟨k,rfl⟩
       | none=>exact absurd hk (NW s x n (by rw[h5]) (by rw[ht];simp))
      conv=>whnf
      refine aH (VZ n k (by have:=hs n (by simp);omega) hk) rfl rfl ?_;conv=>whnf
      refine ao ((init.length:Nat):Int) (by simp) (wrap_i64 (by omega)) ?_;conv=>whnf
      refine af (fun _=>?_) (fun h=>absurd h (by simp;omega));conv=>whnf
      rw[show aU (bf 128) (aU (bf 127) (aG (init.map au.cells) ++ [inj (ow last) ++ [V.sl 1000002 4 0 last.ar.length]]))=aG (init.map au.cells) ++ [inj (ow last) ++ [V.sl 1000002 4 0 last.ar.length]] from by rw[aE,aE];rfl];refine cD (inj (ow last) ++ [V.sl 1000002 4 0 last.ar.length]) (by rw[Nat.zero_add,Int.toNat_natCast];simp[bV]) ?_;conv=>whnf
      refine ag rfl ?_;conv=>whnf
      refine ag (by simp[aK.len]) ?_;conv=>whnf
      refine aQ (decide_eq_true (by
       show((last.ar.map aW.cells).length+1)*40<=140737488355328;rw[List.length_map];omega)) ?_
      conv=>whnf
      refine cD (inj (ow last) ++ [V.sl 1000002 4 0 last.ar.length]) (by rw[Nat.zero_add,Int.toNat_natCast];simp[bV]) ?_;conv=>whnf
      rw[ze];refine fN [128] (by
       show bJ (List.flatten (aG (init.map au.cells) ++ [inj (ow last) ++ [V.sl 128 4 0 _]])) ++ []=_;rw[dq];rfl) ?_
      conv=>whnf
      have hE:qP h (s :: [x,n])=some (⟨t,3,x,k⟩:aW):=(by unfold qP;simp only[ht,if_neg h3,if_neg h4,if_pos h5,hk];rfl);generalize hee:(⟨t,3,x,k⟩:aW)=ee at hE;have hlen:(last.ar ++ [ee]).length=(last.ar.map aW.cells).length+1:=by simp
      refine aC [128] [] (tw 1000000 1000001 2000000 near init { last with ar:=last.ar ++ [ee] }) rfl ⟨rfl,?_,?_,trivial⟩ rfl ⟨⟨rfl,_,_,rfl,.inr ⟨h1,ee,hE,rfl⟩⟩,rfl⟩
      ·show some (Obj.arr 6 (.vv (aG (init.map au.cells) ++ [inj (ow last) ++ [V.sl 128 4 0 ((last.ar.map aW.cells).length+1)]])))=some (kf (fW [128]) (.arr 6 (.vv (aG (init.map au.cells) ++ [inj (ow last) ++ [.sl 2000000 4 0 (last.ar ++ [ee]).length]]))))
       rw[da,hlen];rfl
      ·show _=some (Obj.arr 4 (.dd ((last.ar ++ [ee]).map aW.cells)))
       rw[<- hee,List.map_append];rfl
     ·have h5:¬ h=eR:=of_decide_eq_false h5
      conv=>whnf
      refine e9 rfl (fun h6=>by cases h6) (fun _=>?_);conv=>whnf
      refine aC [] [] (tw 1000000 1000001 1000002 near init last) rfl ⟨rfl,(by first|exact(congrArg some (da (fW []) (init.map au.cells) last 1000002 last.ar.length)).symm|(show some (Obj.arr 6 (.vv (aU _ (aG _++_))))=_;rw[aE];exact(congrArg some (da (fW []) (init.map au.cells) last 1000002 last.ar.length)).symm)),rfl,trivial⟩ rfl ⟨⟨?_,rfl,rfl⟩,rfl⟩;rw[hT];unfold qP;simp only[ht,if_neg h3,if_neg h4,if_neg h5];rfl
set_option maxHeartbeats 4000000 in
theorem Sl(near:Int)(init:List au)(last:au)(s x n:ByteArray)(t:Int)(fF:init.length<=100000)(J0:s.size<=1000000)(SI:n.size<=1000000)(ht:dY s=some t)(hn:dY n=none) :
  Ij Tryz.prog 123 [.ptr 1000000 0,.d (jQ [eR,s,x,n])] (tw 1000000 1000001 1000002 near init last) (fun _ _=>False) (fun pv h'=>pv=oI/\h'=tw 1000000 1000001 1000002 near init last):=by
 intro σ Y st;refine xR mixed ak Tryz.func123 rfl (ft:=AD.less 21) (args:=[.ptr 1000000 0,.d (jQ [eR,s,x,n])]) (show nS (AD.less 21) Tryz.f123 2=true from by decide +kernel) ?_;conv=>whnf
 refine e9 rfl (fun _=>?_) (fun h2=>absurd h2 (by first|(simp;done)|(simp;omega)));conv=>whnf
 refine oZ (by omega) (fun t2 IX=>?_) (fun IX=>by rw[ht]at IX;cases IX) rfl (by intro k;rfl);conv=>whnf
 refine dO.Nw ?_;refine e9 rfl (fun _=>?_) (fun h2=>absurd h2 (by first|(simp;done)|(simp;omega)));refine⟨⟨[(0,.ptr 1000000 0),(1,.d (jQ [eR,s,x,n])),(7,.ptr 7 0)],(7,.box (.dd [i64 t2,i64 0,.str ⟨#[]⟩,i64 0]))::tw 1000000 1000001 1000002 near init last,st⟩,Wk.sub ⟨rfl,rfl,rfl,trivial⟩ ⟨rfl,rfl,(by show some (Obj.arr 6 (.vv (aU _ (aG _++_))))=_;rw[aE];rfl),rfl,trivial⟩,?_⟩;conv=>whnf
 refine u5 mixed ak [[],[0],[1],[],[3],[4],[5],[],[7,6],[0,1,2,7,8],[9,2,8,0,1,7],[0,1,2,3,4,5,6,7,8,9,10],[11,6,10,0,1,2,3,4,5,7,8,9]] (by decide +kernel) ?_;have ZO:n.size<=1000000000:=by omega
 have mX:∀ k,dY n≠some k:=fun k hk=>by rw[hn]at hk;cases hk
 conv=>whnf
 repeat' (first
  | (refine And.intro ?_ ?_<;>conv=>whnf)
  | trivial
  | (refine oZ ZO (fun k hk=>absurd hk (mX k)) (fun _=>?_) rfl (by intro k;rfl);(conv=>whnf);exact aC [] [] (tw 1000000 1000001 1000002 near init last) rfl ⟨rfl,(congrArg some (da (fW []) (init.map au.cells) last 1000002 last.ar.length)).symm,rfl,trivial⟩ rfl ⟨⟨rfl,rfl⟩,rfl⟩))
end Go.PX
namespace Go.PX
open Go.RowKit
def Bn(P:Program)(g:FuncId)(u u':FrameMode)(h h':Heap):Prop:=
 ∀ {σ:Type} (cx:Cx σ),mE P cx -> ∀ (L:Loc) (F:Nat->Nat) (s:σ) (w:World),aZ cx L F h s w ->
  CallsDIn Fence.wide 0 P g #[.pointer (some ⟨L.ρ 1000000,0,none⟩),.pointer (some ⟨L.ρ 1000001,0,none⟩)] u w fun e u2 w'=>(∃ x,e = .returned x)/\u2=u' /\ ∃ L' F',aZ cx L' F' h' s w'/\Tr F w F' w'/\mh L L'
def Ih{σ:Type}(P:Program)(T:e7)(fn:Func)(g:FuncId)(c e:Nat)(r:D)(s0:σ)(u:FrameMode)(en:Env)(h:Heap)(s:σ):Prop:=
 get en c=some (.ptr 1000000 0)/\get en e=some (.ptr 1000001 0) /\ ∃ u' hR,settle u' = .returning/\Bn P g u u' h hR /\
  Ew T [(c,.ptr 1000000 0),(e,.ptr 1000001 0)] hR fn.results.toList fun l=>rD l hR s fun v h' s'=>v = .d r/\h' = []/\s'=s0
section
variable {P : Program} {T : e7} {σ : Type}
theorem p7{cx:Cx σ}{L:Loc}{F0:Nat->Nat}{w0:World}{h:Heap}{s:σ}{fn:Func}{tmps:Array Value}{R:Ending->World->Prop}{ds:List Deferred}{u:FrameMode}(hu:u ≠ .run):∀ (m:List Nat) {F:Nat->Nat} {w:World},aZ cx L F h s w->Tr F0 w0 F w ->
  (∀ b∈m,w.heap[b]?=some (.deferred (some []))/\¬ cx.C s b)->m.Nodup->(∀ w',aZ cx L F h s w'->Tr F w F w'->LeavesInM Fence.wide 0 P fn tmps R ds u w') ->
  LeavesInM Fence.wide 0 P fn tmps R (m.map mark++ds) u w
 | [],F,w,hh,tr,hm,hn,hR=>hR w hh (Tr.refl F w)
 | b::m,F,w,hh,tr,hm,hn,hR=>by
  obtain⟨hb,hC⟩:=hm b (List.mem_cons_self ..);obtain⟨mc,mV⟩:=hh.GG hb hC;simp only[List.map_cons,List.cons_append,LeavesInM];refine⟨hu,.inl ⟨b,w.putObj b (.deferred none),rfl,?_,?_⟩⟩
  ·simp[Instr.takeDeferred,Sem.run_bind,getObj,setObj,Sem.run,hb,Result.andThen,World.putObj]
  ·have tZ:=List.nodup_cons.1 hn
   refine p7 hu m mc (Tr.trans tr mV) (fun x hx=>?_) tZ.2 fun w' h1 h2=>hR w' h1 (Tr.trans mV h2);have I0:x≠b:=by rintro rfl;exact tZ.1 hx
   refine⟨?_,(hm x (List.mem_cons_of_mem _ hx)).2⟩;rw[<- (hm x (List.mem_cons_of_mem _ hx)).1];simp[World.putObj,Array.getElem?_setIfInBounds_ne (Ne.symm I0)]
theorem aZ.Pq{cx Fg:Cx σ}{L:Loc}{F:Nat->Nat}{h:Heap}{s:σ}{w:World}(hh:aZ cx L F h s w)(h1:Fg.C=cx.C)(h2:Fg.HG=cx.HG)(h3:Fg.yv=cx.yv):aZ Fg L F h s w:=by
 refine⟨by rw[h2];exact hh.hg,fun b hb=>hh.iw b (by rw[<- h1];exact hb),hh.fresh,fun id o ho=>by rw[h3];exact hh.obj id o ho,fun id o ho hb=>?_,hh.inj⟩;rw[h1];exact hh.own id o ho hb
theorem ct.same{Y:Hd σ}{cx Fg:Cx σ}(hY:ct P Y cx)(h1:Fg.C=cx.C)(h2:Fg.HG=cx.HG)(h3:Fg.yv=cx.yv)(p:Value->Env->Heap->σ->Prop):ct P { y:=Y.y,p:=p } Fg:=by
 refine⟨?_,fun s w F h=>hY.laid s w F (by rw[<- h2];exact h)⟩;intro l hl args h s Q hy L' F' aT w mc hr;rw[h3]at hl hr;obtain⟨fn,tmps,zq,body,e1,e2⟩:=hY.yld l hl args h s Q hy L' F' aT w (mc.Pq h1.symm h2.symm h3.symm) hr;refine⟨fn,tmps,zq,body,e1,e2.mono ?_⟩;rintro e w' ⟨x,he,v,h',s',Ka,GV,hq,eG,hv,tr,jy,r1,r2,r3⟩;exact⟨x,he,v,h',s',Ka,GV,hq,eG.Pq h1 h2 h3,by rw[h3];exact hv,tr,jy,by rw[h1];exact r1,by rw[h1];exact r2,r3⟩
theorem yZ(hT:bA P T){ft:FT}{Y:Hd σ}{cx:Cx σ}{r:Option Nat}{m:List Nat}{L:Loc}{F:Nat->Nat}{a:Act}{w:World}(hY:ct P Y cx){id:Nat}{ops:Array Oper}{st:St σ}{K:fg->St σ->Prop}(h:Cy P T ft Y (.region id ops false) st K)(hg:Good cx r m L F st a w)(hc:codeOk a.tmps.size (.region id ops false)=true) :
  (Code.region id ops false).wpIn (fr r) 0 P (fun ex a' w'=>(∃ st' L' F',ex = .normal/\K .normal st'/\Good cx r m L' F' st' a' w'/\Tr F w F' w'/\a'.tmps.size=a.tmps.size)\/pr Y cx r F w a.tmps.size ex a' w') a w:=by
 obtain⟨e,hp,s⟩:=st;have h:wpOps P T Y ops.toList ops.toList e hp s (fun e h s=>eB (aX ft.ks e) fun e=>K .normal ⟨e,h,s⟩):=h;refine wpIn_mono (wpIn_region (id:=id) (Q:=na Y cx r m F w a.tmps.size (fun e h s=>eB (aX ft.ks e) fun e=>K .normal ⟨e,h,s⟩)) ?_) fun ex a' w' hq=>?_
 ·have:=mD hT hY ops.toList 0 (fun j=>by simp) hg rfl (nH hc) (Tr.refl F w) h
  rwa [<- List.range_eq_range',Array.length_toList]at this
 ·rcases hq with⟨e',h',s',L',F',hex,hk,dp,tr,hs⟩|hp
  ·rw[fM]at hk
   exact .inl ⟨_,L',F',hex,hk,dp.sub (ez ft.ks e') (fun _ _ h=>h),tr,hs⟩
  ·exact .inr hp
theorem JB(hT:bA P T){ft:FT}{Y:Hd σ}{cx:Cx σ}{r:Option Nat}{m:List Nat}{L:Loc}{F:Nat->Nat}{a:Act}{w:World}(hY:ct P Y cx){id:Nat}{ops:Array Oper}{rt:RT}(P2:get ft.tb id=some rt)(hD:dD P T ft (.region id ops true)){st:St σ}{K:fg->St σ->Prop}(h:Cy P T ft Y (.region id ops true) st K)(hg:Good cx r m L F st a w)(hc:codeOk a.tmps.size (.region id ops true)=true) :
  (Code.region id ops true).wpIn (fr r) 0 P (fun ex a' w'=>∃ st' L' F',ex = .normal/\K .normal st'/\Good cx r m L' F' st' a' w'/\Tr F w F' w'/\a'.tmps.size=a.tmps.size) a w:=by
 obtain⟨e,hp,s⟩:=st;obtain⟨made,gj⟩:=rt
 have h:(match get ft.tb id with
  | some ⟨made,gj⟩=>sK made e hp fun e h=>GQ P T made ops.toList (ops.toList.zip gj) [] e h fun e h=>eB (aX ft.ks e) fun e=>K .normal ⟨e,h,s⟩
  | none=>sF P ft Y id ops ⟨e,hp,s⟩ K):=h
 rw[P2]at h;have Q5:=hD rfl ⟨made,gj⟩ P2 cx hY.laid r m L F e hp s a w _ hg (nH hc) h;refine wpIn_mono (Q5 id) fun ex a' w' hq=>?_;obtain⟨e',h',s',L',F',hex,⟨hk,rfl⟩,dp,tr,hs⟩:=hq;rw[fM]at hk;exact⟨_,L',F',hex,hk,dp.sub (ez ft.ks e') (fun _ _ h=>h),tr,hs⟩
def Xt{σ:Type}:Hd σ:={ y:=fun _ _ _ _=>False }
theorem Fv{cx Fg:Cx σ}(hl:mE P cx)(h:Fg.HG=cx.HG):ct P (Xt (σ:=σ)) Fg:=⟨fun _ _ _ _ _ _ hy=>hy.elim,fun s w F hh=>hl s w F (by rw[<- h];exact hh)⟩
theorem xz(hT:bA P T){ft:FT}{cx:Cx σ}(hl:mE P cx){L:Loc}{F:Nat->Nat}{s:σ}{w:World}{h h':Heap}(hh:aZ cx L F h s w){n:Nat}(hn:Nat.ble n 1000000=true){v:Value}{d:D}(hd:bM F w d v)(U2:True){a:Act}(dc:a.tmps.size=n)(Q4:a.defers = [])
  (t0:a.tmps[0]?=some (.pointer (some ⟨L.ρ 1000000,0,none⟩))) (t1:a.tmps[1]?=some (.pointer (some ⟨L.ρ 1000001,0,none⟩))) (t2:a.tmps[2]?=some v)
  {i1 i2:Nat} {R8 OI:Array Oper} {cd:Operand} (hc:codeOk n (.seq (.region i1 R8 false) (.cond cd (.region i2 OI true) .skip))=true) (hD:dD P T ft (.region i2 OI true)) {rt:RT} (P2:get ft.tb i2=some rt)
  {Q:Exit->Act->World->Prop} (hQ:∀ a' w' L' F',a'.defers = []->aZ cx L' F' h' s w'->Tr F w F' w'->mh L L'->Q .normal a' w')
  (hw:Cy P T ft Xt (.region i1 R8 false) ⟨[(0,.ptr 1000000 0),(1,.ptr 1000001 0),(2,.d d)],h,s⟩ fun _ tR=>xB (aS tR.env cd) (Cy P T ft Xt (.region i2 OI true) tR fun _ o7=>dB h' o7.heap/\o7.s=s) (dB h' tR.heap/\tR.s=s)) :
  (Code.seq (.region i1 R8 false) (.cond cd (.region i2 OI true) .skip)).wpIn Fence.wide 0 P Q a w:=by
 obtain⟨zr,qS⟩:∃ zr:Cx σ,zr={ cx with pρ:=L.ρ,pκ:=L.κ,base:=[] }:=⟨_,rfl⟩;have f1:zr.C=cx.C:=by rw[qS]
 have f2:zr.HG=cx.HG:=by rw[qS]
 have f3:zr.yv=cx.yv:=by rw[qS]
 have hY:ct P Xt zr:=Fv hl f2;have hn:=Nat.le_of_ble_eq_true hn;simp only[codeOk,Bool.and_eq_true]at hc;obtain⟨vq,nr,_⟩:=hc;have hg:Good zr none [] L F ⟨[(0,.ptr 1000000 0),(1,.ptr 1000001 0),(2,.d d)],h,s⟩ a w:=by
  refine⟨hh.Pq f1 f2 f3,fun k u hk=>?_,by rw[Q4,qS];rfl,(fun b hb=>by cases hb),List.nodup_nil,(fun l hl=>by cases hl),fun i hi=>by rw[qS];exact⟨rfl,rfl⟩,by omega⟩;simp only[get]at hk;split at hk
  ·rename_i h0;have:=(Nat.eq_of_beq_eq_true h0).symm;subst this;cases hk
   exact⟨_,t0,rfl⟩
  ·split at hk
   ·rename_i h0;have:=(Nat.eq_of_beq_eq_true h0).symm;subst this;cases hk
    exact⟨_,t1,rfl⟩
   ·split at hk
    ·rename_i h0;have:=(Nat.eq_of_beq_eq_true h0).symm;subst this;cases hk
     exact⟨_,t2,hd⟩
    ·cases hk
 have fin:∀ {st':St σ} {L':Loc} {F':Nat->Nat} {a':Act} {w':World},dB h' st'.heap/\st'.s=s->Good zr none [] L' F' st' a' w'->Tr F w F' w'->Q .normal a' w':=by
  rintro ⟨e',IV,s'⟩ L' F' a' w' ⟨rV,mY⟩ dp tr;have mY:s'=s:=mY;subst mY;have gC:=dp.sub (e:=[]) (h:=h') (fun k u hk=>by cases hk) rV;refine hQ a' w' L' F' (by have:=dp.sR;rw[qS]at this;exact this) (gC.heap.Pq f1.symm f2.symm f3.symm) tr fun i hi=>?_;have:=dp.jy i hi;rw[qS]at this;exact this
 refine wpIn_seq (wpIn_mono (yZ hT hY hw hg (by rw[dc];simpa[codeOk]using vq)) fun ex a1 w1 hq=>?_);rcases hq with⟨tR,L1,F1,rfl,B2,eo,sy,rV⟩|⟨v,e',h',s',m',L',F',_,hy,_⟩
 case inr=>exact hy.elim
 obtain⟨zE,DG,s1⟩:=tR;unfold xB at B2;split at B2;case h_2=>exact B2.elim
 rename_i tb sx;have dC:a1.eval cd = .bool tb:=eo.aS sx;rcases sM B2 with⟨rfl,hw3⟩|⟨rfl,hw3⟩
 ·refine wpIn_cond dC (wpIn_mono (JB hT hY P2 hD hw3 eo (by rw[rV,dc];simpa[codeOk]using nr)) fun ex a2 w2 hq=>?_)
  obtain⟨o7,L2,F2,rfl,hk,gC,Bf,_⟩:=hq;exact fin hk gC (Tr.trans sy Bf)
 ·exact wpIn_cond dC (wpIn_skip (fin hw3 eo sy))
theorem Bn.sub{g:FuncId}{u u':FrameMode}{h0 h h':Heap}(hc:Bn P g u u' h0 h')(hs:qJ h h0):Bn P g u u' h h':=by
 intro σ cx hl L F s w hh;exact hc cx hl L F s w ⟨hh.hg,hh.iw,hh.fresh,fun i o hi=>hh.obj i o (jh hs i o hi),fun i o hi hb=>hh.own i o (jh hs i o hi) hb,fun i j o p hi hj mq jx=>hh.inj i j o p (jh hs i o hi) (jh hs j p hj) mq jx⟩
theorem s8{α:Type}:∀ (A B:wy α) (k:Nat),get (A++B) k=match get A k with
  | some v=>some v
  | none=>get B k
 | [],B,k=>rfl
 | (j,v)::A,B,k=>by
  show(match Nat.beq j k with|true=>some v|false=>get (A++B) k)=_;rw[s8 A B k];simp only[get];cases Nat.beq j k<;>rfl
theorem Fm{ds:List D}{i k:Nat}{v:V}(h:get (dy i (inj ds)) k=some v):∃ d,v = .d d:=by
 obtain⟨j,_,hj⟩:=lg h;have:∀ (l:List D) (j:Nat) (v:V),(inj l)[j]?=some v -> ∃ d,v = .d d:=by
  intro l
  induction l with
  | nil=>intro j v h;cases h
  | cons a r ih=>
   intro j v h
   cases j with
   | zero=>cases h;exact⟨a,rfl⟩
   | succ j=>exact ih j v h
 exact this ds j v hj
def Ii(P:Program)(cx:Cx σ)(L:Loc)(F:Nat->Nat)(w:World)(r:D)(s:σ):Ending->World->Prop:=fun e w'=>
 ∃ x,e = .returned x /\ ∃ v h' s' L' F',((v = .d r/\h' = [])/\s'=s)/\aZ cx L' F' h' s' w'/\bg cx.yv L' F' w' v x/\Tr F w F' w'/\mh L L'
theorem Ii.of{cx:Cx σ}{L L0:Loc}{F F2:Nat->Nat}{w w2:World}{r:D}{s:σ}{x:Value}(hh:aZ cx L0 F2 [] s w2)(hv:bM F2 w2 r x)(tr:Tr F w F2 w2):Ii P cx L F w r s (.returned x) w2:=
 ⟨x,rfl,.d r,[],s,L,F2,⟨⟨rfl,rfl⟩,rfl⟩,⟨hh.hg,hh.iw,hh.fresh,(fun id o h=>by cases h),(fun id o h=>by cases h),(fun i j o p h=>by cases h)⟩,hv,tr,fun _ _=>⟨rfl,rfl⟩⟩
theorem IF(hm:P.follows .mixedOrders=true)(hT:bA P T){f g:FuncId}{fn:Func}{idA idB idD:Nat}{Vx Vy Vz:Array Oper}{cd:Operand}{B C:Code}{ft:FT}{ds:List D}{r:D}(c e t:Nat){lc le:List D}
  (hf:P.funcs[f]?=some fn)
  (hb:fn.body=some (.seq (.region idA Vx false) (.seq (.seq (.region idB Vy false) (.cond cd B .skip)) (.seq (.region idD Vz false) C))))
  (gh:nS ft fn ds.length=true) (Dy:c≠e) (W3:c≠t) (het:e≠t) (hAt:get (dy 0 (inj ds)) t=none) (hAc:get (dy 0 (inj ds)) c=none) (hAe:get (dy 0 (inj ds)) e=none)
  (Zi:∀ (a:Act) (w:World) (p q:Value) (Q:Exit->Act->World->Prop),a.tmps[c]?=some p->a.tmps[e]?=some q->a.tmps.size=fn.ntmps->Q .normal { tmps:=a.tmps.setIfInBounds t (.func (.func g) #[] #[p,q]),defers:={ target:=.fn (.func g) #[p,q],args:=#[] }::a.defers } w->(Code.region idD Vz false).wpIn Fence.wide 0 P Q a w)
  (hinv:∀ (p q:Value) (w:World),(invoke (.fn (.func g) #[p,q]) #[]).run P w = .ok (.enter g #[p,q]) w)
  (hA:∀ {σ:Type} (Y:Hd σ) (s:σ),Cy P T ft Y.np (.region idA Vx false) ⟨dy 0 (inj ds),[],s⟩ fun _ tR=>Cy P T ft Y.np (.region idB Vy false) tR fun _ o7=>
   xB (aS o7.env cd) (Cy P T ft Y.np B o7 fun ex Wf=>ex = .ret/\Sz T fn.results.toList (fun v h' s'=>(v = .d r/\h' = [])/\s'=s) .ret Wf)
    (Wk o7 ⟨dy 0 (inj ds) ++ [(c,.ptr c 0),(e,.ptr e 0)],[(c,.box (.dd lc)),(e,.box (.dd le))],s⟩ /\
     Cy P T ft { y:=Y.y,p:=fun pv en h s'=>Ih P T fn g c e r s (.panicking [{ v:=pv,recovered:=false }]) en h s' } C ⟨dy 0 (inj ds) ++ [(c,.ptr 1000000 0),(e,.ptr 1000001 0)],[(1000000,.box (.dd lc)),(1000001,.box (.dd le))],s⟩
      fun ex Wf=>(ex = .normal\/ex = .ret)/\Ih P T fn g c e r s .returning Wf.env Wf.heap Wf.s)):bq P f ds r:=by
 intro σ Y s;unfold nS at gh;rw[hb]at gh;simp only[Bool.and_eq_true,bne_iff_ne,ne_eq]at gh;obtain⟨⟨⟨⟨AE,yf⟩,Lx⟩,pR⟩,hlen⟩:=gh;have Lx:=Nat.le_of_ble_eq_true Lx;have hlen:=Nat.le_of_ble_eq_true hlen;refine⟨fun vs w=>by simp[callFunc,hf,pR,hb,Go.mark],fun cx hY L F aT w hh hr=>?_⟩;have FM:aT.size=ds.length:=by
  have:=hr.length;rw[eC]at this;simpa using this
 have dc:(aT++Array.replicate (fn.ntmps-aT.size) undef).size=fn.ntmps:=by simp;omega
 refine callsIn_of_wp_marks hf hb trivial ?_;have Q5:=an (P:=P) hm hT yf;obtain⟨hdA,⟨hdB,Zg,_⟩,hdD,ow⟩:=Q5;simp only[codeOk,Bool.and_eq_true]at AE;obtain⟨hcA,⟨hcB,Zb,_⟩,hcD,hcC⟩:=AE;have hg:Good { cx with pρ:=L.ρ,pκ:=L.κ,base:=[] } none [] L F ⟨dy 0 (inj ds),[],s⟩ { tmps:=aT++Array.replicate (fn.ntmps-aT.size) undef,defers:=[] } w:=by
  refine⟨⟨hh.hg,hh.iw,hh.fresh,hh.obj,hh.own,hh.inj⟩,fun t v ht=>?_,rfl,(fun b hb=>by cases hb),List.nodup_nil,(fun l hl=>by cases hl),fun _ _=>⟨rfl,rfl⟩,by rw[dc];exact Lx⟩;obtain⟨k,hk,hv⟩:=lg ht;rw[Nat.zero_add]at hk;subst hk;obtain⟨x,hx,sw⟩:=hr.get t hv;refine⟨x,?_,sw⟩;have dN:t<aT.size:=by
   have:=(List.getElem?_eq_some_iff.1 hx).1;simpa using this
  rw[Array.getElem?_append_left dN];simpa using hx
 generalize hcx0:({ cx with pρ:=L.ρ,pκ:=L.κ,base:=[] }:Cx σ)=NH at hg;have e1:NH.C=cx.C:=by rw[<- hcx0]
 have e2:NH.HG=cx.HG:=by rw[<- hcx0]
 have e3:NH.yv=cx.yv:=by rw[<- hcx0]
 have e4:NH.base = []:=by rw[<- hcx0]
 have YZ:ct P Y.np NH:=hY.same e1 e2 e3 _;have hwA:=hA Y s;show(Code.seq _ _).wpIn Fence.wide 0 P (bodyPostM Fence.wide 0 P fn (Ii P cx L F w r s)) _ w;generalize Ng:({ tmps:=aT++Array.replicate (fn.ntmps-aT.size) undef,defers:=[] }:Act)=a0 at hg;have SL:a0.tmps.size=fn.ntmps:=by rw[<- Ng];exact dc
 refine wpIn_seq (wpIn_mono (yZ hT YZ hwA hg (by rw[SL];simpa[codeOk]using hcA)) fun ex a1 w1 hq=>?_);rcases hq with⟨tR,L1,F1,rfl,B2,eo,sy,rV⟩|⟨v,e',h',s',m',L',F',_,hy,_⟩
 case inr=>exact hy.elim
 refine wpIn_seq (wpIn_seq (wpIn_mono (yZ hT YZ B2 eo (by rw[rV,SL];simpa[codeOk]using hcB)) fun ex a2 w2 hq=>?_));rcases hq with⟨o7,L2,F2,rfl,HE,gC,Bf,mY⟩|⟨v,e',h',s',m',L',F',_,hy,_⟩
 case inr=>exact hy.elim
 have So:=Tr.trans sy Bf;have RC:a2.tmps.size=fn.ntmps:=by rw[mY,rV,SL]
 obtain⟨en2,SK,s2⟩:=o7;unfold xB at HE;split at HE;case h_2=>exact HE.elim
 rename_i tb sx;have dC:a2.eval cd = .bool tb:=gC.aS sx;rcases sM HE with⟨rfl,HE⟩|⟨rfl,HE⟩
 ·
  refine wpIn_cond dC ?_;refine wpIn_mono (dX hT B Zg _ _ HE NH YZ none [] L2 F2 a2 w2 gC (by rw[RC];exact Zb)) fun ex a' w' hq=>?_;rcases hq with⟨e',st',m',L',F',rfl,⟨rfl,hk⟩,dp,tr,hs⟩|⟨v,e',h',s',m',L',F',_,hy,_⟩
  case inr=>exact hy.elim
  show LeavesInM Fence.wide 0 P fn a'.tmps _ a'.defers .returning w';rw[dp.sR,e4,List.append_nil];refine kT m' dp.heap (Tr.trans So tr) dp.pg dp.vD fun wv eG wu=>?_;obtain⟨zE,h1,s1⟩:=st';have hk:Ew T zE h1 fn.results.toList fun l=>rD l h1 s1 _:=hk;obtain⟨l,⟨FI⟩,bN⟩:=uQ (P:=P) hT hk;have Fz:Good { NH with base:=[] } none [] L' F' ⟨zE,h1,s1⟩ { a' with defers:=[] } wv:=by
   refine⟨eG.Pq rfl rfl rfl,fun t v ht=>?_,rfl,(fun b hb=>by cases hb),List.nodup_nil,(fun l hl=>by cases hl),dp.jy,dp.ud⟩;obtain⟨x,hx,sw⟩:=dp.env t v ht;exact⟨x,hx,bg.mono wu v x (fun _ _=>⟨rfl,rfl⟩) sw⟩
  obtain⟨zk,tg,rU⟩:=bN Fz;obtain⟨v,h',L3,F3,⟨⟨rfl,rfl⟩,rfl⟩,N4,wK,Wm,Jz⟩:=FI cx L' F' zk wv (eG.Pq e1.symm e2.symm e3.symm) (by rw[<- e3];exact rU);exact⟨_,kl tg,Ii.of N4 wK (Tr.trans So (Tr.trans tr (Tr.trans wu Wm)))⟩
 ·
  obtain⟨E2,hwC⟩:=HE;refine wpIn_cond dC (wpIn_skip ?_);obtain⟨L3,F3,Dz,Wm⟩:=E2 NH none [] L2 F2 a2 w2 gC;have Wl:=Tr.trans So Wm;have gc:get (dy 0 (inj ds) ++ [(c,V.ptr c 0),(e,V.ptr e 0)]) c=some (.ptr c 0):=by rw[s8,hAc];simp[get]
  have ge:get (dy 0 (inj ds) ++ [(c,V.ptr c 0),(e,V.ptr e 0)]) e=some (.ptr e 0):=by
   rw[s8,hAe];have:Nat.beq c e=false:=by rw[Bool.eq_false_iff];intro h;exact Dy (Nat.eq_of_beq_eq_true h)
   simp[get,this]
  obtain⟨p,hp,rp⟩:=Dz.env c _ gc;obtain⟨q,hq,rq⟩:=Dz.env e _ ge;have rp:p = .pointer (some ⟨L3.ρ c,0,none⟩):=rp;have rq:q = .pointer (some ⟨L3.ρ e,0,none⟩):=rq;refine wpIn_seq (Zi a2 w2 p q _ hp hq RC ?_);have gP:a2.defers = []:=by have:=Dz.sR;rw[e4]at this;simpa using this
  rw[gP];obtain⟨L4,SC⟩:∃ L4:Loc,L4=⟨fun k=>if k=1000000 then L3.ρ c else if k=1000001 then L3.ρ e else L3.ρ k,fun k=>if k=1000000 then L3.κ c else if k=1000001 then L3.κ e else L3.κ k⟩:=⟨_,rfl⟩;have r0:L4.ρ 1000000=L3.ρ c:=by rw[SC];rfl
  have r1:L4.ρ 1000001=L3.ρ e:=by rw[SC];rfl
  obtain⟨d,hd⟩:∃ d:Deferred,d={ target:=.fn (.func g) #[p,q],args:=#[] }:=⟨_,rfl⟩;rw[<- hd];obtain⟨zr,qS⟩:∃ zr:Cx σ,zr={ NH with pρ:=L4.ρ,pκ:=L4.κ,base:=[d] }:=⟨_,rfl⟩;have f1:zr.C=cx.C:=by rw[qS];exact e1
  have f2:zr.HG=cx.HG:=by rw[qS];exact e2
  have f3:zr.yv=cx.yv:=by rw[qS];exact e3
  have Hq:=Dz.heap.obj c (.box (.dd lc)) (by simp[get]);have QX:=Dz.heap.obj e (.box (.dd le)) (by
   have:Nat.beq c e=false:=by rw[Bool.eq_false_iff];intro h;exact Dy (Nat.eq_of_beq_eq_true h)
   simp[get,this])
  have hoc:=Dz.heap.own c (.box (.dd lc)) (by simp[get]) trivial;have hoe:=Dz.heap.own e (.box (.dd le)) (by
   have:Nat.beq c e=false:=by rw[Bool.eq_false_iff];intro h;exact Dy (Nat.eq_of_beq_eq_true h)
   simp[get,this]) trivial
  have eW:L3.ρ c≠L3.ρ e:=fun h=>Dy (Dz.heap.inj c e (.box (.dd lc)) (.box (.dd le)) (by simp[get]) (by
   have:Nat.beq c e=false:=by rw[Bool.eq_false_iff];intro h;exact Dy (Nat.eq_of_beq_eq_true h)
   simp[get,this]) trivial trivial h)
  have key:∀ i o,get [(1000000,Obj.box (.dd lc)),(1000001,Obj.box (.dd le))] i=some o->(i=1000000/\o = .box (.dd lc))\/(i=1000001/\o = .box (.dd le)):=by
   intro i o hi;simp only[get]at hi;split at hi
   ·rename_i h;cases hi;exact .inl ⟨(Nat.eq_of_beq_eq_true h).symm,rfl⟩
   ·split at hi
    ·rename_i h;cases hi;exact .inr ⟨(Nat.eq_of_beq_eq_true h).symm,rfl⟩
    ·cases hi
  have W6:Good zr none [] L4 F3 ⟨dy 0 (inj ds) ++ [(c,.ptr 1000000 0),(e,.ptr 1000001 0)],[(1000000,.box (.dd lc)),(1000001,.box (.dd le))],s⟩ { tmps:=a2.tmps.setIfInBounds t (.func (.func g) #[] #[p,q]),defers:=[d] } w2:=by
   refine⟨⟨by rw[f2,<- e2];exact Dz.heap.hg,fun b hb=>Dz.heap.iw b (by rw[e1,<- f1];exact hb),Dz.heap.fresh,fun i o hi=>?_,fun i o hi jn=>?_,fun i j o o' hi hj mq jx he=>?_⟩,fun k v hk=>?_,by rw[qS];rfl,(fun b hb=>by cases hb),List.nodup_nil,(fun l hl=>by cases hl),fun i hi=>by rw[qS];exact⟨rfl,rfl⟩,by rw[Array.size_setIfInBounds];exact Dz.ud⟩
   ·rcases key i o hi with⟨rfl,rfl⟩|⟨rfl,rfl⟩
    ·obtain⟨cs,TT,h1,h2⟩:=Hq
     exact⟨cs,TT,by rw[r0];exact h1,aq.inj.2 (aq.inj.1 h2)⟩
    ·obtain⟨cs,TT,h1,h2⟩:=QX
     exact⟨cs,TT,by rw[r1];exact h1,aq.inj.2 (aq.inj.1 h2)⟩
   ·rw[f1,<- e1]
    rcases key i o hi with⟨rfl,rfl⟩|⟨rfl,rfl⟩
    ·rw[r0];exact hoc
    ·rw[r1];exact hoe
   ·rcases key i o hi with⟨rfl,rfl⟩|⟨rfl,rfl⟩<;>rcases key j o' hj with⟨rfl,rfl⟩|⟨rfl,rfl⟩
    ·rfl
    ·rw[r0,r1]at he;exact absurd he eW
    ·rw[r0,r1]at he;exact absurd he.symm eW
    ·rfl
   ·rw[s8]at hk
    have iQ:∀ k,k≠t->(a2.tmps.setIfInBounds t (.func (.func g) #[] #[p,q]))[k]?=a2.tmps[k]?:=fun k hkt=>Array.getElem?_setIfInBounds_ne (Ne.symm hkt);split at hk
    ·rename_i u hu
     cases hk;obtain⟨dd,rfl⟩:=Fm hu;obtain⟨x,hx,sw⟩:=Dz.env k (.d dd) (by rw[s8,hu]);refine⟨x,?_,sw⟩;show(a2.tmps.setIfInBounds t _)[k]?=_;rw[iQ k (by rintro rfl;rw[hAt]at hu;cases hu)];exact hx
    ·simp only[get]at hk
     split at hk
     ·rename_i h
      have:=(Nat.eq_of_beq_eq_true h).symm;subst this;cases hk;refine⟨p,?_,?_⟩
      ·show(a2.tmps.setIfInBounds t _)[k]?=_
       rw[iQ k W3];exact hp
      ·show p=_
       rw[rp,r0]
     ·split at hk
      ·rename_i h
       have:=(Nat.eq_of_beq_eq_true h).symm;subst this;cases hk;refine⟨q,?_,?_⟩
       ·show(a2.tmps.setIfInBounds t _)[k]?=_
        rw[iQ k het];exact hq
       ·show q=_
        rw[rq,r1]
      ·cases hk
  have hY1:ct P { y:=Y.y,p:=fun pv en h s'=>Ih P T fn g c e r s (.panicking [{ v:=pv,recovered:=false }]) en h s' } zr:=hY.same f1 f2 f3 _;have uB:∀ {u:FrameMode} {st':St σ} {m':List Nat} {L':Loc} {F':Nat->Nat} {a':Act} {w':World},u ≠ .run->Ih P T fn g c e r s u st'.env st'.heap st'.s->Good zr none m' L' F' st' a' w'->Tr F3 w2 F' w'->LeavesInM Fence.wide 0 P fn a'.tmps (Ii P cx L F w r s) a'.defers u w':=by
   rintro u st' m' L' F' a' w' hu ⟨ec,ee,u',hR,iQ,Zd,tg⟩ dp tr;have Ni:zr.base = [d]:=by rw[qS]
   rw[dp.sR,Ni];refine p7 hu m' dp.heap (Tr.trans Wl tr) dp.pg dp.vD fun wv eG wu=>?_;have p0:L'.ρ 1000000=L3.ρ c:=by
    have:=(dp.jy 1000000 (by unfold pinned;omega)).1;rw[qS]at this;exact this.trans r0
   have p1:L'.ρ 1000001=L3.ρ e:=by
    have:=(dp.jy 1000001 (by unfold pinned;omega)).1;rw[qS]at this;exact this.trans r1
   refine⟨hu,.inr ⟨by simp[Fence.wide],.func g,#[p,q],g,#[p,q],by rw[hd],?_,fun _ _=>trivial,?_⟩⟩
   ·rw[hd];exact hinv p q wv
   have Lr:mE P zr:=hY1.laid;have ea:=Zd zr Lr L' F' st'.s wv eG;rw[p0,p1,<- rp,<- rq]at ea;refine ea.mono ?_;rintro en u2 w3 ⟨⟨x,rfl⟩,rfl,L5,F5,hh5,tr5,V2⟩;show LeavesInM Fence.wide 0 P fn a'.tmps _ [] (settle u2) w3;rw[iQ];simp only[LeavesInM,LeavesIn];obtain⟨l,⟨FI⟩,bN⟩:=uQ (P:=P) hT tg;have hg5:Good { zr with pρ:=L5.ρ,pκ:=L5.κ,base:=[] } none [] L5 F5 ⟨[(c,.ptr 1000000 0),(e,.ptr 1000001 0)],hR,st'.s⟩ { a' with defers:=[] } w3:=by
    refine⟨hh5.Pq rfl rfl rfl,fun k v hk=>?_,rfl,(fun b hb=>by cases hb),List.nodup_nil,(fun l hl=>by cases hl),fun _ _=>⟨rfl,rfl⟩,dp.ud⟩;simp only[get]at hk;split at hk
    ·rename_i h
     have:=(Nat.eq_of_beq_eq_true h).symm;subst this;cases hk;obtain⟨x,hx,sw⟩:=dp.env _ _ ec;refine⟨x,hx,?_⟩;have sw:x = .pointer (some ⟨L'.ρ 1000000,0,none⟩):=sw;show x=_;rw[sw,(V2 1000000 (by unfold pinned;omega)).1]
    ·split at hk
     ·rename_i h
      have:=(Nat.eq_of_beq_eq_true h).symm;subst this;cases hk;obtain⟨x,hx,sw⟩:=dp.env _ _ ee;refine⟨x,hx,?_⟩;have sw:x = .pointer (some ⟨L'.ρ 1000001,0,none⟩):=sw;show x=_;rw[sw,(V2 1000001 (by unfold pinned;omega)).1]
     ·cases hk
   obtain⟨zk,U9,rU⟩:=bN hg5;obtain⟨v,h',L6,F6,⟨rfl,rfl,J0⟩,hh6,hr6,tr6,_⟩:=FI cx L5 F5 zk w3 (hh5.Pq f1.symm f2.symm f3.symm) (by rw[<- f3];exact rU);refine⟨_,kl U9,?_⟩;rw[J0]at hh6;exact Ii.of hh6 hr6 (Tr.trans Wl (Tr.trans tr (Tr.trans wu (Tr.trans tr5 tr6))))
  refine wpIn_mono (dX hT C ow _ _ hwC zr hY1 none [] L4 F3 _ w2 W6 (by simp only[Array.size_setIfInBounds];rw[RC];exact hcC)) fun ex a' w' hq=>?_;rcases hq with⟨e',st',m',L',F',rfl,⟨he,hk⟩,dp,tr,hs⟩|⟨pv,e',h',s',m',L',F',rfl,hy,dp,tr,hs⟩
  ·rcases he with rfl|rfl
   ·exact uB (by simp) hk dp tr
   ·exact uB (by simp) hk dp tr
  ·exact uB (st':=⟨e',h',s'⟩) (by simp) hy dp tr
end
end Go.PX
namespace Go.PX
open Go.Proofs
open Go.RowKit
theorem MI(l:Array Value)(w:World):(results Tryz.f118 l).run Tryz.prog w = .ok (.tuple #[]) w:=by
 have h:(([]:List ResultVar).mapM (qi l)).run Tryz.prog w = .ok [] w:=by simp
 exact kl (fn:=Tryz.f118) h
theorem xx(h:Heap):Bn Tryz.prog 118 .returning .returning h h:=by
 intro σ cx hl L F s w hh;refine callsDIn_of_wpSIn Tryz.func118 rfl trivial fun c₀ cs hu=>?_;apply wpSIn_seq;apply wpSIn_region;simp[wpOpsSIn,go_sem,recoverD,hu,Exit.thenS];refine wpSIn_of_wpIn rfl ?_;refine xz ak (ft:=K0) hl hh (n:=9) rfl (v:=.nilIface) (d:=.nili) rfl trivial (by simp) rfl (by rfl) (by rfl) (by rfl) (by decide +kernel) (by exact(an mixed ak (by decide +kernel))) rfl (h':=h) ?_ ?_
 ·intro a' w' L' F' Q4 mc tr jy
  refine⟨Q4,.returning,by cases c₀;simp_all,.tuple #[],MI _ _,⟨⟨_,rfl⟩,rfl,L',F',mc,tr,jy⟩⟩
 ·conv=>whnf
  exact⟨fun _ _ h=>h,rfl⟩
theorem It(near:Int)(i n:Nat):Bn Tryz.prog 118 (.panicking [{ v:=oI,recovered:=false }]) (.panicking [{ v:=oI,recovered:=true }]) [(1000000,.box (.vv [.d (i64 near),.sl i 6 0 n])),(1000001,.box (.dd [i64 0]))] [(1000000,.box (.vv [.d (i64 0),.d .nils])),(1000001,.box (.dd [i64 6]))]:=by
 intro σ cx hl L F s w hh;refine callsDIn_of_wpSIn Tryz.func118 rfl trivial fun c₀ cs hu=>?_;apply wpSIn_seq;apply wpSIn_region;simp[wpOpsSIn,go_sem,recoverD,hu,Exit.thenS];refine wpSIn_of_wpIn rfl ?_;refine xz ak (ft:=K0) hl hh (n:=9) rfl (v:=oI) (d:=.ifc 34 (i64 6)) ⟨_,rfl,rfl⟩ trivial (by simp) rfl (by rfl) (by rfl) (by rfl) (by decide +kernel) (by exact(an mixed ak (by decide +kernel))) rfl (h':=[(1000000,.box (.vv [.d (i64 0),.d .nils])),(1000001,.box (.dd [i64 6]))]) ?_ ?_
 ·intro a' w' L' F' Q4 mc tr jy
  refine⟨Q4,.panicking [{ v:=oI,recovered:=true }],rfl,.tuple #[],MI _ _,⟨⟨_,rfl⟩,rfl,L',F',mc,tr,jy⟩⟩
 ·conv=>whnf
  exact⟨jh ⟨rfl,rfl,trivial⟩,rfl⟩
end Go.PX
namespace Go.PX
open Go.Proofs
def AV:ByteArray:=⟨#[110,101,97,114,32]⟩
def La(s p:ByteArray):Bool:=decide (p.size<=s.size)&&decide (s.extract 0 p.size=p)
theorem VH(s p:ByteArray):bq Tryz.prog 207 [.str s,.str p] (.bool (La s p)):=by
 refine aI mixed ak Tryz.func207 rfl (ft:=Ub) 2 (by decide +kernel) (by rfl) fun {σ} Y st=>?_;conv=>whnf
 unfold La;have e:decide (((p.size:Nat):Int)<=((s.size:Nat):Int))=decide (p.size<=s.size):=by
  rw[Bool.eq_iff_iff,decide_eq_true_eq,decide_eq_true_eq];omega
 rw[e]
 cases hd:decide (p.size<=s.size) with
 | false=>
  conv=>whnf
  exact ab 0 rfl ⟨⟨rfl,rfl⟩,rfl⟩
 | true=>
  have hd:=of_decide_eq_true hd;conv=>whnf
  refine aQ (by simp;omega) ?_;conv=>whnf
  exact ab 0 rfl ⟨⟨congrArg (fun z=>V.d (.bool z)) (by simp),rfl⟩,rfl⟩
def zD(s p:ByteArray):ByteArray×Bool:=if La s p then (s.extract p.size s.size,true) else (s,false)
theorem VF(s p:ByteArray):bq Tryz.prog 179 [.str s,.str p] (.tup [.str (zD s p).1,.bool (zD s p).2]):=by
 unfold zD;refine aI mixed ak Tryz.func179 rfl (ft:=TW) 2 (by decide +kernel) (by rfl) fun {σ} Y st=>?_;conv=>whnf
 refine ai (VH s p) rfl rfl ?_;conv=>whnf
 cases hh:La s p with
 | false=>
  conv=>whnf
  exact ab 0 rfl ⟨⟨rfl,rfl⟩,rfl⟩
 | true=>
  have hle:p.size<=s.size:=by
   unfold La at hh;rw[Bool.and_eq_true]at hh;exact of_decide_eq_true hh.1
  conv=>whnf
  refine aQ (by simp;omega) ?_;conv=>whnf
  exact ab 0 rfl ⟨⟨congrArg (fun z=>V.d (.tup [.str z,.bool true])) (by simp),rfl⟩,rfl⟩
theorem aaz(s p:ByteArray):bq Tryz.prog 120 [.str s,.str p] (.tup [.str (zD s p).1,.bool (zD s p).2]):=by
 refine aI mixed ak Tryz.func120 rfl (ft:=TF) 2 (by decide +kernel) (by rfl) fun {σ} Y st=>?_;conv=>whnf
 refine ai (VF s p) rfl rfl ?_;conv=>whnf
 exact ab 0 rfl ⟨⟨rfl,rfl⟩,rfl⟩
theorem I3(A:List (List D))(a:List D):aG (A ++ [a ++ [.nils]])=aG A ++ [inj a ++ [.d .nils]]:=by
 rw[bV,bV,List.map_append];have:inj (a ++ [.nils])=inj a ++ [.d .nils]:=by rw[jL];rfl
 rw[List.map_cons,List.map_nil,this]
theorem Ca{sz:Nat}{X:List (List V)}{a:List V}{x y:V}(h:dj sz (X ++ [a ++ [x]])):dj sz (X ++ [a ++ [y]]):=by
 intro e he;rcases List.mem_append.1 he with he|he
 ·exact h e (List.mem_append_left _ he)
 ·rw[List.mem_singleton]at he
  have:=h (a ++ [x]) (by simp);rw[he,<- this];simp
theorem Wk.G6{σ:Type}{e:Env}{h:Heap}{s:σ}(b k sz J1:Nat)(A:List (List D))(a:List D)(hk:Nat.blt k 1000000=true)(hs:Nat.blt 0 J1=true)(hb:get h b=some (.arr sz (.dd (A ++ [a ++ [.nils]]))))(jn:Nat.beq b k=false) :
  Wk (⟨e,h,s⟩:St σ) ⟨cZ (aL (bf k)) e,put (((k,.arr J1 (.dd []))::cZ (Obj.aL (bf k)) (cut h k))) b (.arr sz (.vv (aG A ++ [inj a ++ [.sl k J1 0 0]]))),s⟩:=by
 have hk:=Nat.le_of_ble_eq_true hk;have hs:=Nat.le_of_ble_eq_true hs;have eW:b≠k:=by rintro rfl;simp at jn
 have h1:Wk (⟨e,h,s⟩:St σ) ⟨cZ (aL (bf k)) e,((k,.arr J1 (.dd []))::cZ (Obj.aL (bf k)) (cut h k)),s⟩:=by
  intro cx r m L F a w hg;exact⟨_,F,hg.kb k J1 (by unfold pinned;omega) hs (.dd []) rfl,Tr.refl F w⟩
 refine h1.trans (Wk.Et b (o:=.arr sz (.dd (A ++ [a ++ [.nils]]))) _ (by rw[gd,if_neg eW,bY,e6,if_neg eW,hb];rfl) (fun yv L F w h=>?_) fun L hb=>hb);obtain⟨h0,hl,hr⟩:=h;have hl:dj sz (aG (A ++ [a ++ [.nils]])):=hl;have hr:(aG (A ++ [a ++ [.nils]]) = []/\L.κ b=0) \/ ∃ (c:Array Value) (T:TypeId),w.heap[L.ρ b]?=some (.cells c T (0,0))/\c.size=L.κ b/\(aG (A ++ [a ++ [.nils]])).length*sz<=c.size/\aq yv L F w (aG (A ++ [a ++ [.nils]])).flatten (c.toList.take ((aG (A ++ [a ++ [.nils]])).length*sz)):=hr;rw[I3]at hl hr;refine⟨h0,Ca hl,.inr ?_⟩;rcases hr with⟨hr,_⟩|⟨c,T,h2,h3,h4,h5⟩
 ·simp at hr
 ·have hlen:(aG A ++ [inj a ++ [V.sl k J1 0 0]]).length=(aG A ++ [inj a ++ [V.d .nils]]).length:=by simp
  refine⟨c,T,h2,h3,by show(aG A ++ [inj a ++ [V.sl k J1 0 0]]).length*sz<=c.size;rw[hlen];exact h4,?_⟩;show aq yv L F w (aG A ++ [inj a ++ [V.sl k J1 0 0]]).flatten (c.toList.take ((aG A ++ [inj a ++ [V.sl k J1 0 0]]).length*sz));rw[hlen];have e1:(aG A ++ [inj a ++ [V.d .nils]]).flatten=((aG A).flatten++inj a)++V.d .nils :: []:=by simp
  have e2:(aG A ++ [inj a ++ [V.sl k J1 0 0]]).flatten=((aG A).flatten++inj a)++V.sl k J1 0 0 :: []:=by simp
  rw[e1]at h5;rw[e2];exact aq.Cd k J1 hs h5
end Go.PX
