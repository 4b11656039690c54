import Derived.Test.YtpocldjdlookjaaPxN
import Derived.Test.YtpocldjdlookjaaPxL
import Derived.RecoverIn
import Derived.Recover
set_option linter.all false
set_option maxRecDepth 10000
namespace Go.PX.KN
variable {S : Type}
end Go.PX.KN
namespace Go.PX
open Go.Proofs
def JF(c:ao)(t:ag):Prop:=∀ j:Nat,c.aL.length<=j->j<5->t.get j=0
structure mF(c:ao)(t:ag):Prop where
 u:fJ c t
 z:JF c t
theorem mF.zero{c:ao}(hR:WR c):mF c .zero:=⟨fJ.zero hR,fun j _ hj=>by
 have h2:j=0\/j=1\/j=2\/j=3\/j=4:=by omega
 rcases h2 with rfl|rfl|rfl|rfl|rfl<;>rfl⟩
theorem ag.ext_get{t u:ag}(hs:t.slot=u.slot)(h:∀ j,j<5->t.get j=u.get j):t=u:=by
 have h0:=h 0 (by decide);have h1:=h 1 (by decide);have h2:=h 2 (by decide);have h3:=h 3 (by decide);have h4:=h 4 (by decide);cases t;cases u
 simp only[ag.get]at h0 h1 h2 h3 h4;simp only at hs;subst hs h0 h1 h2 h3 h4;rfl
def zX(c:ao)(t:ag)(g:List Int)(n:Nat):ag:=
 let f:=fun(j:Nat)=>if j<n then bn c.rest (decide ((j:Int)∈g)) (t.get j) else 0
 ⟨(t.slot+1).tmod c.aS.length,f 0,f 1,f 2,f 3,f 4⟩
theorem tq{c:ao}{t:ag}{g:List Int}{n j:Nat}(hj:j<5):(zX c t g n).get j=if j<n then bn c.rest (decide ((j:Int)∈g)) (t.get j) else 0:=by
 have h2:j=0\/j=1\/j=2\/j=3\/j=4:=by omega
 rcases h2 with rfl|rfl|rfl|rfl|rfl<;>rfl
theorem Ck{c:ao}{t:ag}{g:List Int}{n:Nat}(hn:n<5):zX c t g (n+1)=(zX c t g n).set n (bn c.rest (decide ((n:Int)∈g)) (t.get n)):=by
 refine ag.ext_get ?_ fun j hj=>?_
 ·rw[zu];rfl
 ·rw[B3 _ _ hn hj,tq hj,tq hj]
  by_cases h:j=n
  ·subst h
   rw[if_pos (by omega),if_pos rfl]
  ·rw[if_neg h]
   by_cases h2:j<n
   ·rw[if_pos h2,if_pos (by omega)]
   ·rw[if_neg h2,if_neg (by omega)]
theorem Gd{c:ao}(hR:WR c){t:ag}(hz:JF c t){g:List Int}:zX c t g c.aL.length=aZ c t g:=by
 refine ag.ext_get ?_ fun j hj=>?_
 ·unfold aZ
  rw[kF];rfl
 ·rw[tq hj,lU hR hj]
  by_cases h:j<c.aL.length
  ·rw[if_pos h,if_pos h]
  ·rw[if_neg h,if_neg h,hz j (by omega) hj]
theorem JF.behind{c:ao}(hR:WR c){t:ag}(hz:JF c t)(g:List Int):JF c (aZ c t g):=fun j h1 h2=>by
 rw[lU hR h2,if_neg (by omega)];exact hz j h1 h2
def xv(c:ao)(aL:List Int)(t:ag)(m:Int):Bool:=decide (m∈aL) && !decide (t.slot∈(ec c m).no)&&decide (t.get m.toNat≥0)&&decide (t.get m.toNat<c.run)
def uo(c:ao)(t:ag)(m:Int):Bool:=decide ((ec c m).kind≥(bf c t).least)
def pP(c:ao)(aL:List Int)(t:ag):List (List Int):=(cA c.aL.length (bf c t).aL.toNat []).filter fun g=>g.any (uo c t)&&g.all (xv c aL t)
def gL(c:ao)(aL:List Int)(set:Int):Prop:=∀ m:Int,0<=m->m<c.aL.length->(m∈aL↔eJ set m=true)
theorem uV{c:ao}(hR:WR c){t:ag}(ht:fJ c t):c.aS[t.slot.toNat]?=some (bf c t)/\1<=(bf c t).aL/\(bf c t).aL<=2:=by
 have h0:=ht.slot;have h1:c.aS[t.slot.toNat]?=some (c.aS[t.slot.toNat]'(by omega)):=List.getElem?_eq_getElem _;have h2:bf c t=c.aS[t.slot.toNat]'(by omega):=by unfold bf;rw[h1];rfl
 rw[h2];have:=(hR.slot _ (List.mem_of_getElem? h1)).1;exact⟨h1,this.1,this.2⟩
theorem sG{c:ao}(hR:WR c){aL:List Int}{set:Int}(hs:gL c aL set){t:ag}(ht:fJ c t):pP c aL t=(bQ c set t).map (·.1):=by
 unfold pP bQ;rw[l9 (p:=[]) (start:=0) rfl,List.map_map];rw[show(List.map ((fun(x:List Int×ag)=>x.1)∘fun g=>(g,aZ c t g)))=List.map id from rfl,List.map_id];refine List.filter_congr fun g hg=>?_;obtain⟨h1,h2⟩:=uw (p:=[]) (fun x hx=>by cases hx) g hg;obtain⟨_,CV,_⟩:=uV hR ht;have hlen:(g.length:Int)=(bf c t).aL:=by
  rw[h1];simp;omega
 rw[Bool.eq_iff_iff,decide_eq_true_iff];constructor
 ·intro h
  rw[Bool.and_eq_true,List.any_eq_true,List.all_eq_true]at h;obtain⟨⟨x,hx,hk⟩,ha⟩:=h;have xn:∀ m∈g,m∈aL/\t.slot∉(ec c m).no/\0<=t.get m.toNat/\t.get m.toNat<c.run:=fun m hm=>by
   have:=ha m hm;unfold xv at this;simp only[Bool.and_eq_true,decide_eq_true_eq,Bool.not_eq_true',decide_eq_false_iff_not]at this;exact⟨this.1.1.1,this.1.1.2,this.1.2,this.2⟩
  exact JE hlen ⟨x,hx,of_decide_eq_true hk⟩ (fun m hm=>⟨(hs m (h2 m hm).1 (h2 m hm).2).1 (xn m hm).1,(xn m hm).2.1⟩) (fun m hm=>(xn m hm).2.2.2) (fun m hm=>(xn m hm).2.2.1)
 ·intro h
  obtain⟨_,⟨x,hx,hk⟩,h3,h4,h5⟩:=vd h;rw[Bool.and_eq_true,List.any_eq_true,List.all_eq_true];refine⟨⟨x,hx,decide_eq_true hk⟩,fun m hm=>?_⟩;unfold xv;simp only[Bool.and_eq_true,decide_eq_true_eq,Bool.not_eq_true',decide_eq_false_iff_not];exact⟨⟨⟨(hs m (h2 m hm).1 (h2 m hm).2).2 (h3 m hm).1,(h3 m hm).2⟩,h5 m hm⟩,h4 m hm⟩
def vD(c:ao)(aL:List Int)(t:ag):List ag:=(pP c aL t).map (aZ c t)
theorem Ho{c:ao}(hR:WR c){aL:List Int}{set:Int}(hs:gL c aL set){t:ag}(ht:fJ c t):vD c aL t=gH c set t:=by
 unfold vD gH;rw[sG hR hs ht,List.map_map];refine List.map_congr_left fun x hx=>?_;exact(ig hx).2.symm
def dm(t:ag):Int:=8*(8*(8*(8*(8*t.slot+t.m0+3)+t.m1+3)+t.m2+3)+t.m3+3)+t.m4+3
def Gj(t:ag):Nat:=(dm t).toNat
theorem pR{c:ao}(hR:WR c){t:ag}(ht:fJ c t):0<=dm t/\dm t<196608:=by
 have hs:=hR.aS;have h0:=ht.m 0 (by decide);have h1:=ht.m 1 (by decide);have h2:=ht.m 2 (by decide);have h3:=ht.m 3 (by decide);have h4:=ht.m 4 (by decide);have h5:=ht.slot;simp only[ag.get]at h0 h1 h2 h3 h4;unfold dm;omega
theorem uW{x y a b:Int}(ha : -2<=a/\a<=3)(hb : -2<=b/\b<=3)(h:8*x+a+3=8*y+b+3):x=y/\a=b:=by omega
theorem D0{c:ao}(hR:WR c)(t u:ag)(ht:mF c t)(hu:mF c u)(h:Gj t=Gj u):t=u:=by
 have e:dm t=dm u:=by
  have h1:=pR hR ht.u;have h2:=pR hR hu.u;unfold Gj at h;omega
 have t0:=ht.u.m 0 (by decide);have t1:=ht.u.m 1 (by decide);have t2:=ht.u.m 2 (by decide);have t3:=ht.u.m 3 (by decide);have t4:=ht.u.m 4 (by decide);have u0:=hu.u.m 0 (by decide);have u1:=hu.u.m 1 (by decide);have u2:=hu.u.m 2 (by decide);have u3:=hu.u.m 3 (by decide);have u4:=hu.u.m 4 (by decide);unfold dm at e;obtain⟨e,e4⟩:=uW t4 u4 e;obtain⟨e,e3⟩:=uW t3 u3 e;obtain⟨e,e2⟩:=uW t2 u2 e;obtain⟨e,e1⟩:=uW t1 u1 e;obtain⟨e,e0⟩:=uW t0 u0 e;refine ag.ext_get e fun j hj=>?_;have h2:j=0\/j=1\/j=2\/j=3\/j=4:=by omega
 rcases h2 with rfl|rfl|rfl|rfl|rfl
 ·exact e0
 ·exact e1
 ·exact e2
 ·exact e3
 ·exact e4
theorem B4{c:ao}(hR:WR c){aL:List Int}{set:Int}(hs:gL c aL set)(t:ag)(ht:mF c t):∀ u∈vD c aL t,mF c u:=by
 intro u hu;rw[Ho hR hs ht.u]at hu;obtain⟨x,hx,rfl⟩:=List.mem_map.1 hu;refine⟨eR hR ht.u hx,?_⟩;rw[(ig hx).2];exact ht.z.behind hR _
def w7(t:ag):Nat->Int
 | 0=>t.slot
 | n+1=>8*w7 t n+t.get n+3
theorem It(t:ag):w7 t 5=dm t:=by
 simp only[w7,dm,ag.get]
theorem MQ(t:ag)(ht:DM t):cy Try.prog 98 [t.d] (i64 (dm t)):=by
 refine bx Try.func98 rfl (ft:=OD) 1 fun {σ} Y st=>?_;conv=>whnf
 obtain⟨su,H4,JW,P1,P2,P3⟩:=ht;refine fM (T:=tys) aI (by exact au mixed aI (by decide +kernel)) (α:=Nat×Int) (fun x=>⟨[(1,.ptr 1 0),(2,.d (i64 0)),(3,.d (i64 x.2)),(4,.d (i64 x.1))],[(1,.box (.dd t.cells))],st⟩) (fun x=>x.1<=5/\x.2=w7 t x.1/\(-1000000000+100000000*(x.1:Int)<=0/\x.2<=2000*10^x.1 /\ -(2000*10^x.1)<=x.2)) (fun x=>5-x.1) (0,t.slot) aw ⟨by simp,rfl,by simp;omega⟩ ?_;rintro ⟨i,n⟩ ⟨hi,hn,hb⟩;simp only at hi hn hb;have h6:i=0\/i=1\/i=2\/i=3\/i=4\/i=5:=by omega
 rcases h6 with rfl|rfl|rfl|rfl|rfl|rfl
 ·have CW:8*n+t.m0+3=w7 t 1:=by rw[hn];rfl
  clear hn;conv=>whnf
  refine ah ?_;conv=>whnf
  refine ah ?_;conv=>whnf
  refine ah ?_;conv=>whnf
  exact⟨(1,8*n+t.m0+3),by simp only;omega,⟨by simp only;omega,CW,by simp only;omega⟩,aw⟩
 ·have CW:8*n+t.m1+3=w7 t 2:=by rw[hn];rfl
  clear hn;conv=>whnf
  refine ah ?_;conv=>whnf
  refine ah ?_;conv=>whnf
  refine ah ?_;conv=>whnf
  exact⟨(2,8*n+t.m1+3),by simp only;omega,⟨by simp only;omega,CW,by simp only;omega⟩,aw⟩
 ·have CW:8*n+t.m2+3=w7 t 3:=by rw[hn];rfl
  clear hn;conv=>whnf
  refine ah ?_;conv=>whnf
  refine ah ?_;conv=>whnf
  refine ah ?_;conv=>whnf
  exact⟨(3,8*n+t.m2+3),by simp only;omega,⟨by simp only;omega,CW,by simp only;omega⟩,aw⟩
 ·have CW:8*n+t.m3+3=w7 t 4:=by rw[hn];rfl
  clear hn;conv=>whnf
  refine ah ?_;conv=>whnf
  refine ah ?_;conv=>whnf
  refine ah ?_;conv=>whnf
  exact⟨(4,8*n+t.m3+3),by simp only;omega,⟨by simp only;omega,CW,by simp only;omega⟩,aw⟩
 ·have CW:8*n+t.m4+3=w7 t 5:=by rw[hn];rfl
  clear hn;conv=>whnf
  refine ah ?_;conv=>whnf
  refine ah ?_;conv=>whnf
  refine ah ?_;conv=>whnf
  exact⟨(5,8*n+t.m4+3),by simp only;omega,⟨by simp only;omega,CW,by simp only;omega⟩,aw⟩
 ·conv=>whnf
  rw[<- It,<- hn];exact ax
theorem Hw(c:ao)(hR:WR c)(t:ag)(ht:DM t)(hz:JF c t)(group:List Int)(hg:group.length<4000000000000000000):cy Try.prog 78 [c.d,t.d,aj group] (aZ c t group).d:=by
 refine bx Try.func78 rfl (ft:=Om) 3 fun {σ} Y st=>?_;conv=>whnf
 rw[<- Gd hR hz];obtain⟨su,H4,JW,P1,P2,P3⟩:=ht;have hm:=hR.aL;have hs:=hR.aS;have hr:=hR.rest;refine ah ?_;conv=>whnf
 refine aR (decide_eq_true (by rw[List.length_map];omega)) ?_;conv=>whnf
 rw[List.length_map];refine bt (T:=tys) aI (by exact au mixed aI (by decide +kernel)) c.aL (fun i (_:Unit)=>⟨[(2,.d (aj group)),(3,.ptr 3 0),(4,.ptr 4 0),(6,.ptr 6 0),(7,.ptr 7 0),(8,.d (i64 i))],[(3,.box (.dd c.cells)),(4,.box (.dd t.cells)),(7,.box (.dd (zX c t group i).cells)),(6,.box (.dd ag.zero.cells))],st⟩) (fun i r _=>True) () aw trivial ?_ ?_
 ·intro i x r _ hx hi zP _
  have h5:i=0\/i=1\/i=2\/i=3\/i=4:=by omega
  have dn:zX c t group (i+1)=(zX c t group i).set i (bn c.rest (decide ((i:Int)∈group)) (t.get i)):=Ck (by omega);rcases h5 with rfl|rfl|rfl|rfl|rfl
  ·conv=>whnf
   refine ak (fun _=>?_) (fun h=>absurd hi (by have:=of_decide_eq_false h;rw[List.length_map]at this;omega));conv=>whnf
   refine aH (sE group _ hg) rfl rfl ?_;conv=>whnf
   refine ak (fun h1=>?_) (fun h1=>?_)
   ·rw[h1]at dn
    conv=>whnf
    repeat' (first
     | (refine ah ?_;conv=>whnf)
     | (refine ai (by assumption) ?_;conv=>whnf)
     | (refine ar (by first|rfl|assumption|(simp[aC.len];done)|(simp[aC.len];omega)) ?_;conv=>whnf)
     | (refine aR (by first|(exact decide_eq_true (by(try simp only[List.length_map]);omega))|(simp[aC.len,aC.cons,V.cells,aC.aU,aO];done)|(simp[aC.len,aC.cons,V.cells,aC.aU,aO];omega)) ?_;conv=>whnf)
     | fail)
    exact⟨(),trivial,Wk.sub ⟨rfl,rfl,rfl,rfl,rfl,rfl,trivial⟩ ⟨rfl,rfl,by rw[dn];rfl,rfl,trivial⟩⟩
   rw[h1]at dn;conv=>whnf
   refine ak (fun h2=>?_) (fun h2=>?_)
   ·have h2:t.get 0>0:=of_decide_eq_true h2
    have hv:bn c.rest false (t.get 0)=1-c.rest:=by simp[bn,h2]
    rw[hv]at dn;conv=>whnf
    repeat' (first
     | (refine ah ?_;conv=>whnf)
     | (refine ai (by assumption) ?_;conv=>whnf)
     | (refine ar (by first|rfl|assumption|(simp[aC.len];done)|(simp[aC.len];omega)) ?_;conv=>whnf)
     | (refine aR (by first|(exact decide_eq_true (by(try simp only[List.length_map]);omega))|(simp[aC.len,aC.cons,V.cells,aC.aU,aO];done)|(simp[aC.len,aC.cons,V.cells,aC.aU,aO];omega)) ?_;conv=>whnf)
     | fail)
    exact⟨(),trivial,Wk.sub ⟨rfl,rfl,rfl,rfl,rfl,rfl,trivial⟩ ⟨rfl,rfl,by rw[dn];rfl,rfl,trivial⟩⟩
   have h2:¬ t.get 0>0:=of_decide_eq_false h2;conv=>whnf
   refine ak (fun h3=>?_) (fun h3=>?_)
   ·have h3:t.get 0<0:=of_decide_eq_true h3
    have hv:bn c.rest false (t.get 0)=t.get 0+1:=by simp[bn,h2,h3]
    rw[hv]at dn;conv=>whnf
    repeat' (first
     | (refine ah ?_;conv=>whnf)
     | (refine ai (by assumption) ?_;conv=>whnf)
     | (refine ar (by first|rfl|assumption|(simp[aC.len];done)|(simp[aC.len];omega)) ?_;conv=>whnf)
     | (refine aR (by first|(exact decide_eq_true (by(try simp only[List.length_map]);omega))|(simp[aC.len,aC.cons,V.cells,aC.aU,aO];done)|(simp[aC.len,aC.cons,V.cells,aC.aU,aO];omega)) ?_;conv=>whnf)
     | fail)
    exact⟨(),trivial,Wk.sub ⟨rfl,rfl,rfl,rfl,rfl,rfl,trivial⟩ ⟨rfl,rfl,by rw[dn];rfl,rfl,trivial⟩⟩
   have h3:¬ t.get 0<0:=of_decide_eq_false h3;have hv:bn c.rest false (t.get 0)=t.get 0:=by simp[bn,h2,h3]
   rw[hv]at dn;conv=>whnf
   repeat' (first
    | (refine ah ?_;conv=>whnf)
    | (refine ai (by assumption) ?_;conv=>whnf)
    | (refine ar (by first|rfl|assumption|(simp[aC.len];done)|(simp[aC.len];omega)) ?_;conv=>whnf)
    | (refine aR (by first|(exact decide_eq_true (by(try simp only[List.length_map]);omega))|(simp[aC.len,aC.cons,V.cells,aC.aU,aO];done)|(simp[aC.len,aC.cons,V.cells,aC.aU,aO];omega)) ?_;conv=>whnf)
    | fail)
   exact⟨(),trivial,Wk.sub ⟨rfl,rfl,rfl,rfl,rfl,rfl,trivial⟩ ⟨rfl,rfl,by rw[dn];rfl,rfl,trivial⟩⟩
  ·conv=>whnf
   refine ak (fun _=>?_) (fun h=>absurd hi (by have:=of_decide_eq_false h;rw[List.length_map]at this;omega));conv=>whnf
   refine aH (sE group _ hg) rfl rfl ?_;conv=>whnf
   refine ak (fun h1=>?_) (fun h1=>?_)
   ·rw[h1]at dn
    conv=>whnf
    repeat' (first
     | (refine ah ?_;conv=>whnf)
     | (refine ai (by assumption) ?_;conv=>whnf)
     | (refine ar (by first|rfl|assumption|(simp[aC.len];done)|(simp[aC.len];omega)) ?_;conv=>whnf)
     | (refine aR (by first|(exact decide_eq_true (by(try simp only[List.length_map]);omega))|(simp[aC.len,aC.cons,V.cells,aC.aU,aO];done)|(simp[aC.len,aC.cons,V.cells,aC.aU,aO];omega)) ?_;conv=>whnf)
     | fail)
    exact⟨(),trivial,Wk.sub ⟨rfl,rfl,rfl,rfl,rfl,rfl,trivial⟩ ⟨rfl,rfl,by rw[dn];rfl,rfl,trivial⟩⟩
   rw[h1]at dn;conv=>whnf
   refine ak (fun h2=>?_) (fun h2=>?_)
   ·have h2:t.get 1>0:=of_decide_eq_true h2
    have hv:bn c.rest false (t.get 1)=1-c.rest:=by simp[bn,h2]
    rw[hv]at dn;conv=>whnf
    repeat' (first
     | (refine ah ?_;conv=>whnf)
     | (refine ai (by assumption) ?_;conv=>whnf)
     | (refine ar (by first|rfl|assumption|(simp[aC.len];done)|(simp[aC.len];omega)) ?_;conv=>whnf)
     | (refine aR (by first|(exact decide_eq_true (by(try simp only[List.length_map]);omega))|(simp[aC.len,aC.cons,V.cells,aC.aU,aO];done)|(simp[aC.len,aC.cons,V.cells,aC.aU,aO];omega)) ?_;conv=>whnf)
     | fail)
    exact⟨(),trivial,Wk.sub ⟨rfl,rfl,rfl,rfl,rfl,rfl,trivial⟩ ⟨rfl,rfl,by rw[dn];rfl,rfl,trivial⟩⟩
   have h2:¬ t.get 1>0:=of_decide_eq_false h2;conv=>whnf
   refine ak (fun h3=>?_) (fun h3=>?_)
   ·have h3:t.get 1<0:=of_decide_eq_true h3
    have hv:bn c.rest false (t.get 1)=t.get 1+1:=by simp[bn,h2,h3]
    rw[hv]at dn;conv=>whnf
    repeat' (first
     | (refine ah ?_;conv=>whnf)
     | (refine ai (by assumption) ?_;conv=>whnf)
     | (refine ar (by first|rfl|assumption|(simp[aC.len];done)|(simp[aC.len];omega)) ?_;conv=>whnf)
     | (refine aR (by first|(exact decide_eq_true (by(try simp only[List.length_map]);omega))|(simp[aC.len,aC.cons,V.cells,aC.aU,aO];done)|(simp[aC.len,aC.cons,V.cells,aC.aU,aO];omega)) ?_;conv=>whnf)
     | fail)
    exact⟨(),trivial,Wk.sub ⟨rfl,rfl,rfl,rfl,rfl,rfl,trivial⟩ ⟨rfl,rfl,by rw[dn];rfl,rfl,trivial⟩⟩
   have h3:¬ t.get 1<0:=of_decide_eq_false h3;have hv:bn c.rest false (t.get 1)=t.get 1:=by simp[bn,h2,h3]
   rw[hv]at dn;conv=>whnf
   repeat' (first
    | (refine ah ?_;conv=>whnf)
    | (refine ai (by assumption) ?_;conv=>whnf)
    | (refine ar (by first|rfl|assumption|(simp[aC.len];done)|(simp[aC.len];omega)) ?_;conv=>whnf)
    | (refine aR (by first|(exact decide_eq_true (by(try simp only[List.length_map]);omega))|(simp[aC.len,aC.cons,V.cells,aC.aU,aO];done)|(simp[aC.len,aC.cons,V.cells,aC.aU,aO];omega)) ?_;conv=>whnf)
    | fail)
   exact⟨(),trivial,Wk.sub ⟨rfl,rfl,rfl,rfl,rfl,rfl,trivial⟩ ⟨rfl,rfl,by rw[dn];rfl,rfl,trivial⟩⟩
  ·conv=>whnf
   refine ak (fun _=>?_) (fun h=>absurd hi (by have:=of_decide_eq_false h;rw[List.length_map]at this;omega));conv=>whnf
   refine aH (sE group _ hg) rfl rfl ?_;conv=>whnf
   refine ak (fun h1=>?_) (fun h1=>?_)
   ·rw[h1]at dn
    conv=>whnf
    repeat' (first
     | (refine ah ?_;conv=>whnf)
     | (refine ai (by assumption) ?_;conv=>whnf)
     | (refine ar (by first|rfl|assumption|(simp[aC.len];done)|(simp[aC.len];omega)) ?_;conv=>whnf)
     | (refine aR (by first|(exact decide_eq_true (by(try simp only[List.length_map]);omega))|(simp[aC.len,aC.cons,V.cells,aC.aU,aO];done)|(simp[aC.len,aC.cons,V.cells,aC.aU,aO];omega)) ?_;conv=>whnf)
     | fail)
    exact⟨(),trivial,Wk.sub ⟨rfl,rfl,rfl,rfl,rfl,rfl,trivial⟩ ⟨rfl,rfl,by rw[dn];rfl,rfl,trivial⟩⟩
   rw[h1]at dn;conv=>whnf
   refine ak (fun h2=>?_) (fun h2=>?_)
   ·have h2:t.get 2>0:=of_decide_eq_true h2
    have hv:bn c.rest false (t.get 2)=1-c.rest:=by simp[bn,h2]
    rw[hv]at dn;conv=>whnf
    repeat' (first
     | (refine ah ?_;conv=>whnf)
     | (refine ai (by assumption) ?_;conv=>whnf)
     | (refine ar (by first|rfl|assumption|(simp[aC.len];done)|(simp[aC.len];omega)) ?_;conv=>whnf)
     | (refine aR (by first|(exact decide_eq_true (by(try simp only[List.length_map]);omega))|(simp[aC.len,aC.cons,V.cells,aC.aU,aO];done)|(simp[aC.len,aC.cons,V.cells,aC.aU,aO];omega)) ?_;conv=>whnf)
     | fail)
    exact⟨(),trivial,Wk.sub ⟨rfl,rfl,rfl,rfl,rfl,rfl,trivial⟩ ⟨rfl,rfl,by rw[dn];rfl,rfl,trivial⟩⟩
   have h2:¬ t.get 2>0:=of_decide_eq_false h2;conv=>whnf
   refine ak (fun h3=>?_) (fun h3=>?_)
   ·have h3:t.get 2<0:=of_decide_eq_true h3
    have hv:bn c.rest false (t.get 2)=t.get 2+1:=by simp[bn,h2,h3]
    rw[hv]at dn;conv=>whnf
    repeat' (first
     | (refine ah ?_;conv=>whnf)
     | (refine ai (by assumption) ?_;conv=>whnf)
     | (refine ar (by first|rfl|assumption|(simp[aC.len];done)|(simp[aC.len];omega)) ?_;conv=>whnf)
     | (refine aR (by first|(exact decide_eq_true (by(try simp only[List.length_map]);omega))|(simp[aC.len,aC.cons,V.cells,aC.aU,aO];done)|(simp[aC.len,aC.cons,V.cells,aC.aU,aO];omega)) ?_;conv=>whnf)
     | fail)
    exact⟨(),trivial,Wk.sub ⟨rfl,rfl,rfl,rfl,rfl,rfl,trivial⟩ ⟨rfl,rfl,by rw[dn];rfl,rfl,trivial⟩⟩
   have h3:¬ t.get 2<0:=of_decide_eq_false h3;have hv:bn c.rest false (t.get 2)=t.get 2:=by simp[bn,h2,h3]
   rw[hv]at dn;conv=>whnf
   repeat' (first
    | (refine ah ?_;conv=>whnf)
    | (refine ai (by assumption) ?_;conv=>whnf)
    | (refine ar (by first|rfl|assumption|(simp[aC.len];done)|(simp[aC.len];omega)) ?_;conv=>whnf)
    | (refine aR (by first|(exact decide_eq_true (by(try simp only[List.length_map]);omega))|(simp[aC.len,aC.cons,V.cells,aC.aU,aO];done)|(simp[aC.len,aC.cons,V.cells,aC.aU,aO];omega)) ?_;conv=>whnf)
    | fail)
   exact⟨(),trivial,Wk.sub ⟨rfl,rfl,rfl,rfl,rfl,rfl,trivial⟩ ⟨rfl,rfl,by rw[dn];rfl,rfl,trivial⟩⟩
  ·conv=>whnf
   refine ak (fun _=>?_) (fun h=>absurd hi (by have:=of_decide_eq_false h;rw[List.length_map]at this;omega));conv=>whnf
   refine aH (sE group _ hg) rfl rfl ?_;conv=>whnf
   refine ak (fun h1=>?_) (fun h1=>?_)
   ·rw[h1]at dn
    conv=>whnf
    repeat' (first
     | (refine ah ?_;conv=>whnf)
     | (refine ai (by assumption) ?_;conv=>whnf)
     | (refine ar (by first|rfl|assumption|(simp[aC.len];done)|(simp[aC.len];omega)) ?_;conv=>whnf)
     | (refine aR (by first|(exact decide_eq_true (by(try simp only[List.length_map]);omega))|(simp[aC.len,aC.cons,V.cells,aC.aU,aO];done)|(simp[aC.len,aC.cons,V.cells,aC.aU,aO];omega)) ?_;conv=>whnf)
     | fail)
    exact⟨(),trivial,Wk.sub ⟨rfl,rfl,rfl,rfl,rfl,rfl,trivial⟩ ⟨rfl,rfl,by rw[dn];rfl,rfl,trivial⟩⟩
   rw[h1]at dn;conv=>whnf
   refine ak (fun h2=>?_) (fun h2=>?_)
   ·have h2:t.get 3>0:=of_decide_eq_true h2
    have hv:bn c.rest false (t.get 3)=1-c.rest:=by simp[bn,h2]
    rw[hv]at dn;conv=>whnf
    repeat' (first
     | (refine ah ?_;conv=>whnf)
     | (refine ai (by assumption) ?_;conv=>whnf)
     | (refine ar (by first|rfl|assumption|(simp[aC.len];done)|(simp[aC.len];omega)) ?_;conv=>whnf)
     | (refine aR (by first|(exact decide_eq_true (by(try simp only[List.length_map]);omega))|(simp[aC.len,aC.cons,V.cells,aC.aU,aO];done)|(simp[aC.len,aC.cons,V.cells,aC.aU,aO];omega)) ?_;conv=>whnf)
     | fail)
    exact⟨(),trivial,Wk.sub ⟨rfl,rfl,rfl,rfl,rfl,rfl,trivial⟩ ⟨rfl,rfl,by rw[dn];rfl,rfl,trivial⟩⟩
   have h2:¬ t.get 3>0:=of_decide_eq_false h2;conv=>whnf
   refine ak (fun h3=>?_) (fun h3=>?_)
   ·have h3:t.get 3<0:=of_decide_eq_true h3
    have hv:bn c.rest false (t.get 3)=t.get 3+1:=by simp[bn,h2,h3]
    rw[hv]at dn;conv=>whnf
    repeat' (first
     | (refine ah ?_;conv=>whnf)
     | (refine ai (by assumption) ?_;conv=>whnf)
     | (refine ar (by first|rfl|assumption|(simp[aC.len];done)|(simp[aC.len];omega)) ?_;conv=>whnf)
     | (refine aR (by first|(exact decide_eq_true (by(try simp only[List.length_map]);omega))|(simp[aC.len,aC.cons,V.cells,aC.aU,aO];done)|(simp[aC.len,aC.cons,V.cells,aC.aU,aO];omega)) ?_;conv=>whnf)
     | fail)
    exact⟨(),trivial,Wk.sub ⟨rfl,rfl,rfl,rfl,rfl,rfl,trivial⟩ ⟨rfl,rfl,by rw[dn];rfl,rfl,trivial⟩⟩
   have h3:¬ t.get 3<0:=of_decide_eq_false h3;have hv:bn c.rest false (t.get 3)=t.get 3:=by simp[bn,h2,h3]
   rw[hv]at dn;conv=>whnf
   repeat' (first
    | (refine ah ?_;conv=>whnf)
    | (refine ai (by assumption) ?_;conv=>whnf)
    | (refine ar (by first|rfl|assumption|(simp[aC.len];done)|(simp[aC.len];omega)) ?_;conv=>whnf)
    | (refine aR (by first|(exact decide_eq_true (by(try simp only[List.length_map]);omega))|(simp[aC.len,aC.cons,V.cells,aC.aU,aO];done)|(simp[aC.len,aC.cons,V.cells,aC.aU,aO];omega)) ?_;conv=>whnf)
    | fail)
   exact⟨(),trivial,Wk.sub ⟨rfl,rfl,rfl,rfl,rfl,rfl,trivial⟩ ⟨rfl,rfl,by rw[dn];rfl,rfl,trivial⟩⟩
  ·conv=>whnf
   refine ak (fun _=>?_) (fun h=>absurd hi (by have:=of_decide_eq_false h;rw[List.length_map]at this;omega));conv=>whnf
   refine aH (sE group _ hg) rfl rfl ?_;conv=>whnf
   refine ak (fun h1=>?_) (fun h1=>?_)
   ·rw[h1]at dn
    conv=>whnf
    repeat' (first
     | (refine ah ?_;conv=>whnf)
     | (refine ai (by assumption) ?_;conv=>whnf)
     | (refine ar (by first|rfl|assumption|(simp[aC.len];done)|(simp[aC.len];omega)) ?_;conv=>whnf)
     | (refine aR (by first|(exact decide_eq_true (by(try simp only[List.length_map]);omega))|(simp[aC.len,aC.cons,V.cells,aC.aU,aO];done)|(simp[aC.len,aC.cons,V.cells,aC.aU,aO];omega)) ?_;conv=>whnf)
     | fail)
    exact⟨(),trivial,Wk.sub ⟨rfl,rfl,rfl,rfl,rfl,rfl,trivial⟩ ⟨rfl,rfl,by rw[dn];rfl,rfl,trivial⟩⟩
   rw[h1]at dn;conv=>whnf
   refine ak (fun h2=>?_) (fun h2=>?_)
   ·have h2:t.get 4>0:=of_decide_eq_true h2
    have hv:bn c.rest false (t.get 4)=1-c.rest:=by simp[bn,h2]
    rw[hv]at dn;conv=>whnf
    repeat' (first
     | (refine ah ?_;conv=>whnf)
     | (refine ai (by assumption) ?_;conv=>whnf)
     | (refine ar (by first|rfl|assumption|(simp[aC.len];done)|(simp[aC.len];omega)) ?_;conv=>whnf)
     | (refine aR (by first|(exact decide_eq_true (by(try simp only[List.length_map]);omega))|(simp[aC.len,aC.cons,V.cells,aC.aU,aO];done)|(simp[aC.len,aC.cons,V.cells,aC.aU,aO];omega)) ?_;conv=>whnf)
     | fail)
    exact⟨(),trivial,Wk.sub ⟨rfl,rfl,rfl,rfl,rfl,rfl,trivial⟩ ⟨rfl,rfl,by rw[dn];rfl,rfl,trivial⟩⟩
   have h2:¬ t.get 4>0:=of_decide_eq_false h2;conv=>whnf
   refine ak (fun h3=>?_) (fun h3=>?_)
   ·have h3:t.get 4<0:=of_decide_eq_true h3
    have hv:bn c.rest false (t.get 4)=t.get 4+1:=by simp[bn,h2,h3]
    rw[hv]at dn;conv=>whnf
    repeat' (first
     | (refine ah ?_;conv=>whnf)
     | (refine ai (by assumption) ?_;conv=>whnf)
     | (refine ar (by first|rfl|assumption|(simp[aC.len];done)|(simp[aC.len];omega)) ?_;conv=>whnf)
     | (refine aR (by first|(exact decide_eq_true (by(try simp only[List.length_map]);omega))|(simp[aC.len,aC.cons,V.cells,aC.aU,aO];done)|(simp[aC.len,aC.cons,V.cells,aC.aU,aO];omega)) ?_;conv=>whnf)
     | fail)
    exact⟨(),trivial,Wk.sub ⟨rfl,rfl,rfl,rfl,rfl,rfl,trivial⟩ ⟨rfl,rfl,by rw[dn];rfl,rfl,trivial⟩⟩
   have h3:¬ t.get 4<0:=of_decide_eq_false h3;have hv:bn c.rest false (t.get 4)=t.get 4:=by simp[bn,h2,h3]
   rw[hv]at dn;conv=>whnf
   repeat' (first
    | (refine ah ?_;conv=>whnf)
    | (refine ai (by assumption) ?_;conv=>whnf)
    | (refine ar (by first|rfl|assumption|(simp[aC.len];done)|(simp[aC.len];omega)) ?_;conv=>whnf)
    | (refine aR (by first|(exact decide_eq_true (by(try simp only[List.length_map]);omega))|(simp[aC.len,aC.cons,V.cells,aC.aU,aO];done)|(simp[aC.len,aC.cons,V.cells,aC.aU,aO];omega)) ?_;conv=>whnf)
    | fail)
   exact⟨(),trivial,Wk.sub ⟨rfl,rfl,rfl,rfl,rfl,rfl,trivial⟩ ⟨rfl,rfl,by rw[dn];rfl,rfl,trivial⟩⟩
 ·intro _ _
  conv=>whnf
  refine ak (fun h=>absurd h (by simp)) (fun _=>?_);conv=>whnf
  exact ax
def dL(c:ao)(DV:Int):List Int:=((List.range c.aL.length).filter fun(m:Nat)=>decide ((m:Int)≠DV)).map fun(m:Nat)=>(m:Int)
theorem y9{c:ao}(hR:WR c):gL c (dL c (-1)) (aB c):=by
 intro m h0 h1;rw[wg hR ⟨h0,h1⟩];unfold dL;simp only[List.mem_map,List.mem_filter,List.mem_range,iff_true];exact⟨m.toNat,⟨by omega,by simp;omega⟩,by omega⟩
theorem r6{c:ao}(hR:WR c){j:Nat}(hj:j<c.aL.length):gL c (dL c j) (cN c j):=by
 intro m h0 h1;rw[C4 hR hj ⟨h0,h1⟩];unfold dL;simp only[List.mem_map,List.mem_filter,List.mem_range,decide_eq_true_eq];constructor
 ·rintro ⟨k,⟨_,h2⟩,rfl⟩;exact h2
 ·intro h
  exact⟨m.toNat,⟨by omega,by omega⟩,by omega⟩
theorem MK(c:ao)(hm:c.aL.length<=5)(DV:Int):cy Try.prog 50 [c.d,i64 DV] (aj (dL c DV)):=by
 refine bx Try.func50 rfl (ft:=N5) 2 fun {σ} Y st=>?_;conv=>whnf
 have hM:∃ M,dL c DV=M:=⟨_,rfl⟩;obtain⟨M,hM⟩:=hM;rw[hM];unfold dL at hM;refine bt (T:=tys) aI (by exact au mixed aI (by decide +kernel)) (List.range c.aL.length) (fun i (acc:List Int)=>⟨[(1,.d (i64 DV)),(2,.ptr 2 0),(5,.sl 20 1 0 acc.length),(6,.d (i64 i))],[(2,.box (.dd c.cells)),(20,.arr 1 (.dd (aA acc)))],st⟩)
  (fun i r acc=>acc.length<=i/\M=acc++(r.filter fun(m:Nat)=>decide ((m:Int)≠DV)).map fun(m:Nat)=>(m:Int)) [] ((Wk.born 5 20 1 rfl rfl rfl).trans aw) ⟨by simp,hM.symm⟩ ?_ ?_
 ·rintro i m r acc hx hi hr ⟨sQ,he⟩
  have SS:m=i:=by
   rw[List.getElem?_range (by simpa using hi)]at hx;exact(Option.some.inj hx).symm
  subst SS;have vq:m<c.aL.length:=by simpa using hi
  rw[List.filter_cons]at he;conv=>whnf
  refine ak (fun _=>?_) (fun h=>absurd vq (by have:=of_decide_eq_false h;simp at this;omega));conv=>whnf
  refine ak (fun h1=>?_) (fun h1=>?_)
  ·have h1:(m:Int)≠DV:=by simpa using h1
   rw[if_pos (by simpa using h1)]at he;conv=>whnf
   refine ar rfl ?_;conv=>whnf
   refine ar (by simp[aC.len,aA]) ?_;conv=>whnf
   refine aR (decide_eq_true (by
    show((aA acc).length+1)*8<=140737488355328;simp[aA];omega)) ?_
   conv=>whnf
   refine ah ?_;conv=>whnf
   refine⟨acc ++ [(m:Int)],⟨by simp;omega,by rw[he];simp⟩,Wk.sub ⟨rfl,rfl,?_,rfl,trivial⟩ ⟨rfl,?_,trivial⟩⟩
   ·show some (V.sl 20 1 0 ((aA acc).length+1))=_
    simp[aA]
   ·show some (Obj.arr 1 (aC.dd (aA acc ++ [[i64 (m:Int)]])))=_
    simp[aA]
  ·have h1:¬ (m:Int)≠DV:=by simpa using h1
   rw[if_neg (by simpa using h1)]at he;conv=>whnf
   refine ah ?_;conv=>whnf
   exact⟨acc,⟨by omega,he⟩,aw⟩
 ·rintro acc ⟨_,he⟩
  have he:M=acc:=by simpa using he
  rw[he];conv=>whnf
  refine ak (fun h=>absurd h (by simp)) (fun _=>?_);conv=>whnf
  refine ba 1 (ds:=[aj acc]) ?_ ⟨⟨rfl,rfl⟩,rfl⟩;exact aV (bI (es:=aA acc) rfl (by simp[aA])) rfl
set_option maxHeartbeats 2000000 in
theorem MP(c:ao)(hR:WR c)(t:ag)(ht:fJ c t)(aL:List Int)(GG:aL.length<=5):cy Try.prog 97 [c.d,t.d,aj aL] (aJ (pP c aL t)):=by
 refine bx Try.func97 rfl (ft:=OC) 3 fun {σ} Y st=>?_;conv=>whnf
 have hm:=hR.aL;have zQ:=hR.aS;obtain⟨qh,ss,CZ⟩:=uV hR ht;have su:=ht.slot;refine fQ (bf c t).cells ⟨su.1,by simp[qh]⟩ ?_;conv=>whnf
 have GH:(((bf c t).aL.toNat:Nat):Int)=(bf c t).aL:=by omega
 refine lP (args':=[.d (aj []),.d (i64 ((bf c t).aL.toNat:Nat)),.d (i64 c.aL.length)]) (fun yv L F w l h=>by
  obtain⟨x1,l1,rfl,h1,x2,l2,rfl,h2,x3,l3,rfl,h3,h4⟩:=h;refine⟨x1,_,rfl,bC.cL .nils x1 h1,x2,_,rfl,?_,x3,_,rfl,?_,h4⟩
  ·rw[GH];exact h2
  ·have h3:bC F w (.int .i64 ((List.map oq.cells c.aL).length:Int)) x3:=h3
   rw[List.length_map]at h3;exact h3) ?_
 refine aE (ds:=[aj [],i64 ((bf c t).aL.toNat:Nat),i64 c.aL.length]) (MM c.aL.length hm.2 (bf c t).aL.toNat (by omega) [] (fun x hx=>by cases hx) (by simp;omega)) rfl rfl ?_;have IF:=uw (below:=c.aL.length) (many:=(bf c t).aL.toNat) (p:=[]) (fun x hx=>by cases hx);have Sc:(cA c.aL.length (bf c t).aL.toNat []).length<=25:=Nat.le_trans (iQ hm.2) (Nat.le_trans (Nat.pow_le_pow_right (by omega) (show(bf c t).aL.toNat<=2 by omega)) (by decide));unfold pP;generalize cA c.aL.length (bf c t).aL.toNat []=Ls at IF Sc ⊢;conv=>whnf
 generalize hM:(Ls.filter fun g=>g.any (uo c t)&&g.all (xv c aL t))=M;have sk:∀ x∈Ls,∀ m∈x,∃ (j:Nat) (y:oq),m=(j:Int)/\j<5/\c.aL[j]?=some y/\ec c m=y:=by
  intro x hx m SV;obtain⟨h1,h2⟩:=(IF x hx).2 m SV;have hk:m.toNat<c.aL.length:=by omega
  exact⟨m.toNat,c.aL[m.toNat],by omega,by omega,by simp[hk],by simp[ec,hk]⟩
 refine bt (T:=tys) aI (by exact au mixed aI (by decide +kernel)) Ls (fun i (acc:List (List Int))=>⟨[(2,.d (aj aL)),(3,.ptr 3 0),(4,.ptr 4 0),(7,.d (aJ Ls)),(8,.sl 108 1 0 acc.length),(9,.d (i64 i))],[(3,.box (.dd c.cells)),(4,.box (.dd t.cells)),(108,.arr 1 (.dd (acc.map fun r=>[aj r])))],st⟩)
  (fun i r acc=>acc.length<=i/\M=acc++r.filter fun g=>g.any (uo c t)&&g.all (xv c aL t)) [] ((Wk.born 8 108 1 rfl rfl rfl).trans aw) ⟨by simp,hM.symm⟩ ?_ ?_
 ·rintro i x r acc hx hi wb ⟨sQ,he⟩
  have ET:=List.mem_of_getElem? hx;obtain⟨DE,LY⟩:=IF x ET;have T4:x.length<=2:=by rw[DE];simp;omega
  rw[List.filter_cons]at he;conv=>whnf
  refine ak (fun _=>?_) (fun h=>absurd hi (by have:=of_decide_eq_false h;simp at this;omega));conv=>whnf
  generalize hA:x.any (uo c t)=A at he;generalize hB:x.all (xv c aL t)=B at he;refine bt (T:=tys) aI (by exact au mixed aI (by decide +kernel)) x (fun k (z:Bool×Bool)=>⟨[(2,.d (aj aL)),(3,.ptr 3 0),(4,.ptr 4 0),(7,.d (aJ Ls)),(8,.sl 108 1 0 acc.length),(9,.d (i64 i)),(10,.d (.bool z.1)),(11,.d (.bool z.2)),(12,.d (i64 k))],[(3,.box (.dd c.cells)),(4,.box (.dd t.cells)),(108,.arr 1 (.dd (acc.map fun r=>[aj r])))],st⟩)
   (fun k r z=>A=(z.1||r.any (uo c t))/\B=(z.2&&r.all (xv c aL t))) (false,true) aw ⟨by rw[<- hA];rfl,by rw[<- hB];rfl⟩ ?_ ?_
  ·rintro k m r3 ⟨b1,b2⟩ hk fj T1 ⟨gI,eH⟩
   obtain⟨j,y,rfl,TY,hj,HX⟩:=sk x ET m (List.mem_of_getElem? hk);rw[List.any_cons]at gI;rw[List.all_cons]at eH;have Ni:uo c t j=decide (y.kind≥(bf c t).least):=by unfold uo;rw[HX]
   have BG:y.no.length<4000000000000000000:=by
    rcases gM ((hR.Ql y (List.mem_of_getElem? hj)).2) with h|h
    ·rw[h];simp
    ·omega
   have Ek:cy Try.prog 49 [aj aL,i64 (j:Int)] (.bool (decide ((j:Int)∈aL))):=fun {σ}=>sE aL (j:Int) (by omega);have xn:xv c aL t j=(decide ((j:Int)∈aL) && !decide (t.slot∈y.no)&&decide (t.get j≥0)&&decide (t.get j<c.run)):=by unfold xv;rw[HX];rfl
   generalize hd1:decide ((j:Int)∈aL)=d1 at Ek xn;have tP:cy Try.prog 49 [aj y.no,i64 t.slot] (.bool (decide (t.slot∈y.no))):=fun {σ}=>sE y.no t.slot BG;generalize IM:decide (t.slot∈y.no)=d2 at tP xn;generalize hd3:decide (t.get j≥0)=d3 at xn;rw[Ni]at gI;rw[xn]at eH;have h5:j=0\/j=1\/j=2\/j=3\/j=4:=by omega
   rcases h5 with rfl|rfl|rfl|rfl|rfl
   ·conv=>whnf
    refine ai hx ?_;conv=>whnf
    refine ak (fun _=>?_) (fun h=>absurd fj (by have:=of_decide_eq_false h;simp at this;omega));conv=>whnf
    refine ai hx ?_;conv=>whnf
    refine ai hk ?_;conv=>whnf
    cases b1 with
    | true=>
     cases b2 with
     | false=>
      conv=>whnf
      refine ah ?_;conv=>whnf
      exact⟨(true,false),⟨by rw[gI];rfl,by rw[eH];rfl⟩,aw⟩
     | true=>
      conv=>whnf
      refine aE (ds:=[aj aL,i64 _]) Ek rfl rfl ?_
      cases d1 with
      | false=>
       conv=>whnf
       refine ah ?_;conv=>whnf
       exact⟨(true,false),⟨by rw[gI];rfl,by rw[eH];rfl⟩,aw⟩
      | true=>
       conv=>whnf
       refine ai hj ?_;conv=>whnf
       refine aE (ds:=[aj y.no,i64 t.slot]) tP rfl rfl ?_
       cases d2 with
       | true=>
        conv=>whnf
        refine ah ?_;conv=>whnf
        exact⟨(true,false),⟨by rw[gI];rfl,by rw[eH];rfl⟩,aw⟩
       | false=>
        conv=>whnf
        refine ak (fun h3=>?_) (fun h3=>?_)
        ·have kW:d3=true:=by rw[<- hd3];exact h3
         rw[kW]at eH;conv=>whnf
         refine ah ?_;conv=>whnf
         exact⟨(true,decide (t.get 0<c.run)),⟨by rw[gI];rfl,by rw[eH];rfl⟩,aw⟩
        ·have kW:d3=false:=by rw[<- hd3];exact h3
         rw[kW]at eH;conv=>whnf
         refine ah ?_;conv=>whnf
         exact⟨(true,false),⟨by rw[gI];rfl,by rw[eH];rfl⟩,aw⟩
    | false=>
     conv=>whnf
     refine ai hj ?_;conv=>whnf
     refine fQ (bf c t).cells ⟨su.1,by simp[qh]⟩ ?_
     cases b2 with
     | false=>
      conv=>whnf
      refine ah ?_;conv=>whnf
      exact⟨(decide ((bf c t).least<=y.kind),false),⟨by rw[gI];rfl,by rw[eH];rfl⟩,aw⟩
     | true=>
      conv=>whnf
      refine aE (ds:=[aj aL,i64 _]) Ek rfl rfl ?_
      cases d1 with
      | false=>
       conv=>whnf
       refine ah ?_;conv=>whnf
       exact⟨(decide ((bf c t).least<=y.kind),false),⟨by rw[gI];rfl,by rw[eH];rfl⟩,aw⟩
      | true=>
       conv=>whnf
       refine ai hj ?_;conv=>whnf
       refine aE (ds:=[aj y.no,i64 t.slot]) tP rfl rfl ?_
       cases d2 with
       | true=>
        conv=>whnf
        refine ah ?_;conv=>whnf
        exact⟨(decide ((bf c t).least<=y.kind),false),⟨by rw[gI];rfl,by rw[eH];rfl⟩,aw⟩
       | false=>
        conv=>whnf
        refine ak (fun h3=>?_) (fun h3=>?_)
        ·have kW:d3=true:=by rw[<- hd3];exact h3
         rw[kW]at eH;conv=>whnf
         refine ah ?_;conv=>whnf
         exact⟨(decide ((bf c t).least<=y.kind),decide (t.get 0<c.run)),⟨by rw[gI];rfl,by rw[eH];rfl⟩,aw⟩
        ·have kW:d3=false:=by rw[<- hd3];exact h3
         rw[kW]at eH;conv=>whnf
         refine ah ?_;conv=>whnf
         exact⟨(decide ((bf c t).least<=y.kind),false),⟨by rw[gI];rfl,by rw[eH];rfl⟩,aw⟩
   ·conv=>whnf
    refine ai hx ?_;conv=>whnf
    refine ak (fun _=>?_) (fun h=>absurd fj (by have:=of_decide_eq_false h;simp at this;omega));conv=>whnf
    refine ai hx ?_;conv=>whnf
    refine ai hk ?_;conv=>whnf
    cases b1 with
    | true=>
     cases b2 with
     | false=>
      conv=>whnf
      refine ah ?_;conv=>whnf
      exact⟨(true,false),⟨by rw[gI];rfl,by rw[eH];rfl⟩,aw⟩
     | true=>
      conv=>whnf
      refine aE (ds:=[aj aL,i64 _]) Ek rfl rfl ?_
      cases d1 with
      | false=>
       conv=>whnf
       refine ah ?_;conv=>whnf
       exact⟨(true,false),⟨by rw[gI];rfl,by rw[eH];rfl⟩,aw⟩
      | true=>
       conv=>whnf
       refine ai hj ?_;conv=>whnf
       refine aE (ds:=[aj y.no,i64 t.slot]) tP rfl rfl ?_
       cases d2 with
       | true=>
        conv=>whnf
        refine ah ?_;conv=>whnf
        exact⟨(true,false),⟨by rw[gI];rfl,by rw[eH];rfl⟩,aw⟩
       | false=>
        conv=>whnf
        refine ak (fun h3=>?_) (fun h3=>?_)
        ·have kW:d3=true:=by rw[<- hd3];exact h3
         rw[kW]at eH;conv=>whnf
         refine ah ?_;conv=>whnf
         exact⟨(true,decide (t.get 1<c.run)),⟨by rw[gI];rfl,by rw[eH];rfl⟩,aw⟩
        ·have kW:d3=false:=by rw[<- hd3];exact h3
         rw[kW]at eH;conv=>whnf
         refine ah ?_;conv=>whnf
         exact⟨(true,false),⟨by rw[gI];rfl,by rw[eH];rfl⟩,aw⟩
    | false=>
     conv=>whnf
     refine ai hj ?_;conv=>whnf
     refine fQ (bf c t).cells ⟨su.1,by simp[qh]⟩ ?_
     cases b2 with
     | false=>
      conv=>whnf
      refine ah ?_;conv=>whnf
      exact⟨(decide ((bf c t).least<=y.kind),false),⟨by rw[gI];rfl,by rw[eH];rfl⟩,aw⟩
     | true=>
      conv=>whnf
      refine aE (ds:=[aj aL,i64 _]) Ek rfl rfl ?_
      cases d1 with
      | false=>
       conv=>whnf
       refine ah ?_;conv=>whnf
       exact⟨(decide ((bf c t).least<=y.kind),false),⟨by rw[gI];rfl,by rw[eH];rfl⟩,aw⟩
      | true=>
       conv=>whnf
       refine ai hj ?_;conv=>whnf
       refine aE (ds:=[aj y.no,i64 t.slot]) tP rfl rfl ?_
       cases d2 with
       | true=>
        conv=>whnf
        refine ah ?_;conv=>whnf
        exact⟨(decide ((bf c t).least<=y.kind),false),⟨by rw[gI];rfl,by rw[eH];rfl⟩,aw⟩
       | false=>
        conv=>whnf
        refine ak (fun h3=>?_) (fun h3=>?_)
        ·have kW:d3=true:=by rw[<- hd3];exact h3
         rw[kW]at eH;conv=>whnf
         refine ah ?_;conv=>whnf
         exact⟨(decide ((bf c t).least<=y.kind),decide (t.get 1<c.run)),⟨by rw[gI];rfl,by rw[eH];rfl⟩,aw⟩
        ·have kW:d3=false:=by rw[<- hd3];exact h3
         rw[kW]at eH;conv=>whnf
         refine ah ?_;conv=>whnf
         exact⟨(decide ((bf c t).least<=y.kind),false),⟨by rw[gI];rfl,by rw[eH];rfl⟩,aw⟩
   ·conv=>whnf
    refine ai hx ?_;conv=>whnf
    refine ak (fun _=>?_) (fun h=>absurd fj (by have:=of_decide_eq_false h;simp at this;omega));conv=>whnf
    refine ai hx ?_;conv=>whnf
    refine ai hk ?_;conv=>whnf
    cases b1 with
    | true=>
     cases b2 with
     | false=>
      conv=>whnf
      refine ah ?_;conv=>whnf
      exact⟨(true,false),⟨by rw[gI];rfl,by rw[eH];rfl⟩,aw⟩
     | true=>
      conv=>whnf
      refine aE (ds:=[aj aL,i64 _]) Ek rfl rfl ?_
      cases d1 with
      | false=>
       conv=>whnf
       refine ah ?_;conv=>whnf
       exact⟨(true,false),⟨by rw[gI];rfl,by rw[eH];rfl⟩,aw⟩
      | true=>
       conv=>whnf
       refine ai hj ?_;conv=>whnf
       refine aE (ds:=[aj y.no,i64 t.slot]) tP rfl rfl ?_
       cases d2 with
       | true=>
        conv=>whnf
        refine ah ?_;conv=>whnf
        exact⟨(true,false),⟨by rw[gI];rfl,by rw[eH];rfl⟩,aw⟩
       | false=>
        conv=>whnf
        refine ak (fun h3=>?_) (fun h3=>?_)
        ·have kW:d3=true:=by rw[<- hd3];exact h3
         rw[kW]at eH;conv=>whnf
         refine ah ?_;conv=>whnf
         exact⟨(true,decide (t.get 2<c.run)),⟨by rw[gI];rfl,by rw[eH];rfl⟩,aw⟩
        ·have kW:d3=false:=by rw[<- hd3];exact h3
         rw[kW]at eH;conv=>whnf
         refine ah ?_;conv=>whnf
         exact⟨(true,false),⟨by rw[gI];rfl,by rw[eH];rfl⟩,aw⟩
    | false=>
     conv=>whnf
     refine ai hj ?_;conv=>whnf
     refine fQ (bf c t).cells ⟨su.1,by simp[qh]⟩ ?_
     cases b2 with
     | false=>
      conv=>whnf
      refine ah ?_;conv=>whnf
      exact⟨(decide ((bf c t).least<=y.kind),false),⟨by rw[gI];rfl,by rw[eH];rfl⟩,aw⟩
     | true=>
      conv=>whnf
      refine aE (ds:=[aj aL,i64 _]) Ek rfl rfl ?_
      cases d1 with
      | false=>
       conv=>whnf
       refine ah ?_;conv=>whnf
       exact⟨(decide ((bf c t).least<=y.kind),false),⟨by rw[gI];rfl,by rw[eH];rfl⟩,aw⟩
      | true=>
       conv=>whnf
       refine ai hj ?_;conv=>whnf
       refine aE (ds:=[aj y.no,i64 t.slot]) tP rfl rfl ?_
       cases d2 with
       | true=>
        conv=>whnf
        refine ah ?_;conv=>whnf
        exact⟨(decide ((bf c t).least<=y.kind),false),⟨by rw[gI];rfl,by rw[eH];rfl⟩,aw⟩
       | false=>
        conv=>whnf
        refine ak (fun h3=>?_) (fun h3=>?_)
        ·have kW:d3=true:=by rw[<- hd3];exact h3
         rw[kW]at eH;conv=>whnf
         refine ah ?_;conv=>whnf
         exact⟨(decide ((bf c t).least<=y.kind),decide (t.get 2<c.run)),⟨by rw[gI];rfl,by rw[eH];rfl⟩,aw⟩
        ·have kW:d3=false:=by rw[<- hd3];exact h3
         rw[kW]at eH;conv=>whnf
         refine ah ?_;conv=>whnf
         exact⟨(decide ((bf c t).least<=y.kind),false),⟨by rw[gI];rfl,by rw[eH];rfl⟩,aw⟩
   ·conv=>whnf
    refine ai hx ?_;conv=>whnf
    refine ak (fun _=>?_) (fun h=>absurd fj (by have:=of_decide_eq_false h;simp at this;omega));conv=>whnf
    refine ai hx ?_;conv=>whnf
    refine ai hk ?_;conv=>whnf
    cases b1 with
    | true=>
     cases b2 with
     | false=>
      conv=>whnf
      refine ah ?_;conv=>whnf
      exact⟨(true,false),⟨by rw[gI];rfl,by rw[eH];rfl⟩,aw⟩
     | true=>
      conv=>whnf
      refine aE (ds:=[aj aL,i64 _]) Ek rfl rfl ?_
      cases d1 with
      | false=>
       conv=>whnf
       refine ah ?_;conv=>whnf
       exact⟨(true,false),⟨by rw[gI];rfl,by rw[eH];rfl⟩,aw⟩
      | true=>
       conv=>whnf
       refine ai hj ?_;conv=>whnf
       refine aE (ds:=[aj y.no,i64 t.slot]) tP rfl rfl ?_
       cases d2 with
       | true=>
        conv=>whnf
        refine ah ?_;conv=>whnf
        exact⟨(true,false),⟨by rw[gI];rfl,by rw[eH];rfl⟩,aw⟩
       | false=>
        conv=>whnf
        refine ak (fun h3=>?_) (fun h3=>?_)
        ·have kW:d3=true:=by rw[<- hd3];exact h3
         rw[kW]at eH;conv=>whnf
         refine ah ?_;conv=>whnf
         exact⟨(true,decide (t.get 3<c.run)),⟨by rw[gI];rfl,by rw[eH];rfl⟩,aw⟩
        ·have kW:d3=false:=by rw[<- hd3];exact h3
         rw[kW]at eH;conv=>whnf
         refine ah ?_;conv=>whnf
         exact⟨(true,false),⟨by rw[gI];rfl,by rw[eH];rfl⟩,aw⟩
    | false=>
     conv=>whnf
     refine ai hj ?_;conv=>whnf
     refine fQ (bf c t).cells ⟨su.1,by simp[qh]⟩ ?_
     cases b2 with
     | false=>
      conv=>whnf
      refine ah ?_;conv=>whnf
      exact⟨(decide ((bf c t).least<=y.kind),false),⟨by rw[gI];rfl,by rw[eH];rfl⟩,aw⟩
     | true=>
      conv=>whnf
      refine aE (ds:=[aj aL,i64 _]) Ek rfl rfl ?_
      cases d1 with
      | false=>
       conv=>whnf
       refine ah ?_;conv=>whnf
       exact⟨(decide ((bf c t).least<=y.kind),false),⟨by rw[gI];rfl,by rw[eH];rfl⟩,aw⟩
      | true=>
       conv=>whnf
       refine ai hj ?_;conv=>whnf
       refine aE (ds:=[aj y.no,i64 t.slot]) tP rfl rfl ?_
       cases d2 with
       | true=>
        conv=>whnf
        refine ah ?_;conv=>whnf
        exact⟨(decide ((bf c t).least<=y.kind),false),⟨by rw[gI];rfl,by rw[eH];rfl⟩,aw⟩
       | false=>
        conv=>whnf
        refine ak (fun h3=>?_) (fun h3=>?_)
        ·have kW:d3=true:=by rw[<- hd3];exact h3
         rw[kW]at eH;conv=>whnf
         refine ah ?_;conv=>whnf
         exact⟨(decide ((bf c t).least<=y.kind),decide (t.get 3<c.run)),⟨by rw[gI];rfl,by rw[eH];rfl⟩,aw⟩
        ·have kW:d3=false:=by rw[<- hd3];exact h3
         rw[kW]at eH;conv=>whnf
         refine ah ?_;conv=>whnf
         exact⟨(decide ((bf c t).least<=y.kind),false),⟨by rw[gI];rfl,by rw[eH];rfl⟩,aw⟩
   ·conv=>whnf
    refine ai hx ?_;conv=>whnf
    refine ak (fun _=>?_) (fun h=>absurd fj (by have:=of_decide_eq_false h;simp at this;omega));conv=>whnf
    refine ai hx ?_;conv=>whnf
    refine ai hk ?_;conv=>whnf
    cases b1 with
    | true=>
     cases b2 with
     | false=>
      conv=>whnf
      refine ah ?_;conv=>whnf
      exact⟨(true,false),⟨by rw[gI];rfl,by rw[eH];rfl⟩,aw⟩
     | true=>
      conv=>whnf
      refine aE (ds:=[aj aL,i64 _]) Ek rfl rfl ?_
      cases d1 with
      | false=>
       conv=>whnf
       refine ah ?_;conv=>whnf
       exact⟨(true,false),⟨by rw[gI];rfl,by rw[eH];rfl⟩,aw⟩
      | true=>
       conv=>whnf
       refine ai hj ?_;conv=>whnf
       refine aE (ds:=[aj y.no,i64 t.slot]) tP rfl rfl ?_
       cases d2 with
       | true=>
        conv=>whnf
        refine ah ?_;conv=>whnf
        exact⟨(true,false),⟨by rw[gI];rfl,by rw[eH];rfl⟩,aw⟩
       | false=>
        conv=>whnf
        refine ak (fun h3=>?_) (fun h3=>?_)
        ·have kW:d3=true:=by rw[<- hd3];exact h3
         rw[kW]at eH;conv=>whnf
         refine ah ?_;conv=>whnf
         exact⟨(true,decide (t.get 4<c.run)),⟨by rw[gI];rfl,by rw[eH];rfl⟩,aw⟩
        ·have kW:d3=false:=by rw[<- hd3];exact h3
         rw[kW]at eH;conv=>whnf
         refine ah ?_;conv=>whnf
         exact⟨(true,false),⟨by rw[gI];rfl,by rw[eH];rfl⟩,aw⟩
    | false=>
     conv=>whnf
     refine ai hj ?_;conv=>whnf
     refine fQ (bf c t).cells ⟨su.1,by simp[qh]⟩ ?_
     cases b2 with
     | false=>
      conv=>whnf
      refine ah ?_;conv=>whnf
      exact⟨(decide ((bf c t).least<=y.kind),false),⟨by rw[gI];rfl,by rw[eH];rfl⟩,aw⟩
     | true=>
      conv=>whnf
      refine aE (ds:=[aj aL,i64 _]) Ek rfl rfl ?_
      cases d1 with
      | false=>
       conv=>whnf
       refine ah ?_;conv=>whnf
       exact⟨(decide ((bf c t).least<=y.kind),false),⟨by rw[gI];rfl,by rw[eH];rfl⟩,aw⟩
      | true=>
       conv=>whnf
       refine ai hj ?_;conv=>whnf
       refine aE (ds:=[aj y.no,i64 t.slot]) tP rfl rfl ?_
       cases d2 with
       | true=>
        conv=>whnf
        refine ah ?_;conv=>whnf
        exact⟨(decide ((bf c t).least<=y.kind),false),⟨by rw[gI];rfl,by rw[eH];rfl⟩,aw⟩
       | false=>
        conv=>whnf
        refine ak (fun h3=>?_) (fun h3=>?_)
        ·have kW:d3=true:=by rw[<- hd3];exact h3
         rw[kW]at eH;conv=>whnf
         refine ah ?_;conv=>whnf
         exact⟨(decide ((bf c t).least<=y.kind),decide (t.get 4<c.run)),⟨by rw[gI];rfl,by rw[eH];rfl⟩,aw⟩
        ·have kW:d3=false:=by rw[<- hd3];exact h3
         rw[kW]at eH;conv=>whnf
         refine ah ?_;conv=>whnf
         exact⟨(decide ((bf c t).least<=y.kind),false),⟨by rw[gI];rfl,by rw[eH];rfl⟩,aw⟩
  ·rintro ⟨b1,b2⟩ ⟨gI,eH⟩
   have gI:A=b1:=by simpa using gI
   have eH:B=b2:=by simpa using eH
   rw[gI,eH]at he;clear gI eH;conv=>whnf
   refine ai hx ?_;conv=>whnf
   refine ak (fun h=>absurd h (by simp)) (fun _=>?_)
   cases b1 with
   | false=>
    conv=>whnf
    refine ah ?_;conv=>whnf
    exact⟨acc,⟨by omega,by simpa using he⟩,aw⟩
   | true=>
    cases b2 with
    | false=>
     conv=>whnf
     refine ah ?_;conv=>whnf
     exact⟨acc,⟨by omega,by simpa using he⟩,aw⟩
    | true=>
     conv=>whnf
     refine ai hx ?_;conv=>whnf
     refine ar rfl ?_;conv=>whnf
     refine ar (by simp[aC.len]) ?_;conv=>whnf
     refine aR (decide_eq_true (by
      show((acc.map fun r=>[aj r]).length+1)*24<=140737488355328;rw[List.length_map];omega)) ?_
     conv=>whnf
     refine ah ?_;conv=>whnf
     refine⟨acc ++ [x],⟨by simp;omega,by rw[he];simp⟩,Wk.sub ⟨rfl,rfl,rfl,rfl,?_,rfl,trivial⟩ ⟨rfl,rfl,?_,trivial⟩⟩
     ·show some (V.sl 108 1 0 ((acc.map fun r=>[aj r]).length+1))=_
      simp
     ·show some (Obj.arr 1 (aC.dd ((acc.map fun r=>[aj r]) ++ [[aj x]])))=_
      simp
 ·rintro acc ⟨_,he⟩
  have he:M=acc:=by simpa using he
  rw[he];conv=>whnf
  refine ak (fun h=>absurd h (by simp)) (fun _=>?_);conv=>whnf
  refine ba 1 (ds:=[aJ acc]) ?_ ⟨⟨rfl,rfl⟩,rfl⟩;exact aV (bI (es:=acc.map fun r=>[aj r]) rfl (by simp)) rfl
theorem fJ.Dv{c:ao}(hR:WR c){t:ag}(h:mF c t):DM t:=(h.u.tok hR).1
theorem QQ(c:ao)(hR:WR c)(rota:List (List Int))(hg:kZ c rota)(hl:rota.length<=40):cy Try.prog 76 [c.d,aJ rota] (Ab c rota).d:=by
 refine bx Try.func76 rfl (ft:=Ol) 2 fun {σ} Y st=>?_;conv=>whnf
 have jm:=hg.rows hR;have qc:=hg.Ak;unfold HK at qc;unfold Ab;generalize hT:(bP c (aB c) .zero rota 0).2=T;refine bt (T:=tys) aI (by exact au mixed aI (by decide +kernel)) rota (fun i (t:ag)=>⟨[(1,.d (aJ rota)),(2,.ptr 2 0),(4,.ptr 4 0),(5,.ptr 5 0),(6,.d (i64 i))],[(2,.box (.dd c.cells)),(5,.box (.dd t.cells)),(4,.box (.dd ag.zero.cells))],st⟩)
  (fun i r t=>mF c t/\(bP c (aB c) t r i).2=T/\(bP c (aB c) t r i).1.1 = -1) .zero aw ⟨mF.zero hR,hT,qc⟩ ?_ ?_
 ·rintro i x r t hx hi wb ⟨ht,he,hw⟩
  have AH:=(jm x (List.mem_of_getElem? hx)).2;rw[bP]at he hw;split at hw;case isFalse=>simp only at hw;omega
  rename_i h1;rw[if_pos h1]at he;have hn:mF c (aZ c t x):=⟨lT hR ht.u h1,ht.z.behind hR _⟩;conv=>whnf
  refine ak (fun _=>?_) (fun h=>absurd hi (by have:=of_decide_eq_false h;simp at this;omega));conv=>whnf
  refine ai hx ?_;conv=>whnf
  refine aE (ds:=[c.d,t.d,aj x]) (Hw c hR t (fJ.Dv hR ht) ht.z x (by omega)) rfl rfl ?_;conv=>whnf
  refine ah ?_;conv=>whnf
  exact⟨aZ c t x,⟨hn,he,hw⟩,aw⟩
 ·rintro t ⟨ht,he,_⟩
  have he:t=T:=he;subst he;conv=>whnf
  refine ak (fun h=>absurd h (by simp)) (fun _=>?_);conv=>whnf
  exact ax
def eW(l:List ag):List (List D):=l.map fun t=>t.cells
end Go.PX
namespace Go.PX
inductive Rw where
 | bw (l:List (List D))
 | kL (K n:Nat)
def tS(B sz i:Nat):Rw->V
 | .bw l=>.sl (B+i) sz 0 l.length
 | .kL K n=>.sl K sz 0 n
def cu(B sz:Nat):Nat->List Rw->List (List V)
 | _,[]=>[]
 | i,r::rs=>[tS B sz i r]::cu B sz (i+1) rs
def aD(B sz:Nat):Nat->List Rw->av
 | _,[]=>[]
 | i,.bw l::rs=>(B+i,.arr sz (.dd l))::aD B sz (i+1) rs
 | i,.kL _ _::rs=>aD B sz (i+1) rs
theorem cz(B sz:Nat):∀ (rows:List Rw) (i k:Nat),get (aD B sz i rows) k=if B+i<=k then (match rows[k-(B+i)]? with|some (.bw l)=>some (.arr sz (.dd l))|_=>none) else none
 | [],i,k=>by simp[aD,get]
 | .bw l::rs,i,k=>by
  rw[aD,aF,cz B sz rs (i+1) k];by_cases h1:k=B+i
  ·subst h1
   simp
  ·rw[if_neg h1]
   by_cases h2:B+(i+1)<=k
   ·rw[if_pos h2,if_pos (by omega)]
    have:k-(B+i)=(k-(B+(i+1)))+1:=by omega
    rw[this,List.getElem?_cons_succ]
   ·rw[if_neg h2,if_neg (by omega)]
 | .kL K n::rs,i,k=>by
  rw[aD,cz B sz rs (i+1) k];by_cases h1:k=B+i
  ·subst h1
   rw[if_neg (by omega),if_pos (by omega),Nat.sub_self];rfl
  ·by_cases h2:B+(i+1)<=k
   ·rw[if_pos h2,if_pos (by omega)]
    have:k-(B+i)=(k-(B+(i+1)))+1:=by omega
    rw[this,List.getElem?_cons_succ]
   ·rw[if_neg h2,if_neg (by omega)]
theorem ku{B sz i k:Nat}{rows:List Rw}(h:k<B):get (aD B sz i rows) k=none:=by
 rw[cz,if_neg (by omega)]
theorem al{B sz:Nat}{k:Nat}(h:k<B):∀ {rows:List Rw} {i:Nat},cut (aD B sz i rows) k=aD B sz i rows
 | [],_=>rfl
 | .bw l::rs,i=>by
  have:Nat.beq (B+i) k=false:=by rw[Bool.eq_false_iff];intro e;have:=Nat.eq_of_beq_eq_true e;omega
  rw[aD,cut,this];simp only;rw[al h]
 | .kL K n::rs,i=>by rw[aD];exact al h
theorem an{B sz:Nat}(f:V->V):∀ {rows:List Rw} {i:Nat},cn (Obj.az f) (aD B sz i rows)=aD B sz i rows
 | [],_=>rfl
 | .bw l::rs,i=>by
  rw[aD,cn,an f];rfl
 | .kL K n::rs,i=>by rw[aD];exact an f
theorem ab{T T':av}{K:av->Prop}(e:T=T')(h:K T'):fy T K:=by
 subst e;rw[fS];exact h
mutual
def uC(p:Nat->Bool):V->Bool
 | .d _=>true
 | .agg cs=>qB p cs
 | .tup cs=>qB p cs
 | .clo _ cs=>qB p cs
 | .ptr j _=>p j
 | .ep j _ _ _=>p j
 | .sl j _ _ _=>p j
 | .mp j=>p j
 | .it j=>p j
 | .yld=>true
 | .unk=>true
def qB(p:Nat->Bool):List V->Bool
 | []=>true
 | v::r=>uC p v&&qB p r
end
def wz(p:Nat->Bool):List (List V)->Bool
 | []=>true
 | v::r=>qB p v&&wz p r
def G7(p:Nat->Bool):Obj->Bool
 | .box (.dd _)=>true
 | .box (.vv l)=>qB p l
 | .arr _ (.dd _)=>true
 | .arr _ (.vv l)=>wz p l
 | .map _=>true
 | .iter _ _=>true
 | .buf _ _=>true
 | .tb _ l=>qB p l
 | .mit v _ _ _=>uC p v
def lE(p:Nat->Bool):Env->Bool
 | []=>true
 | (_,v)::r=>uC p v&&lE p r
def uE(p:Nat->Bool):av->Bool
 | []=>true
 | (k,o)::r=>p k&&(G7 p o&&uE p r)
mutual
theorem il{p:Nat->Bool}{f:V->V}(hf:∀ v k,fk v=some k->p k=true->f v=v):∀ (v:V),uC p v=true->az f v=v
 | .d _,_=>by rw[az]
 | .agg cs,h=>by rw[az,fB hf cs (by simpa[uC]using h)]
 | .tup cs,h=>by rw[az,fB hf cs (by simpa[uC]using h)]
 | .clo _ cs,h=>by rw[az,fB hf cs (by simpa[uC]using h)]
 | .ptr j _,h=>by rw[az];exact hf _ _ rfl (by simpa[uC]using h)
 | .ep j _ _ _,h=>by rw[az];exact hf _ _ rfl (by simpa[uC]using h)
 | .sl j _ _ _,h=>by rw[az];exact hf _ _ rfl (by simpa[uC]using h)
 | .mp j,h=>by rw[az];exact hf _ _ rfl (by simpa[uC]using h)
 | .it j,h=>by rw[az];exact hf _ _ rfl (by simpa[uC]using h)
 | .yld,_=>by rw[az]
 | .unk,_=>by rw[az]
theorem fB{p:Nat->Bool}{f:V->V}(hf:∀ v k,fk v=some k->p k=true->f v=v):∀ (l:List V),qB p l=true->ca f l=l
 | [],_=>by rw[ca]
 | v::r,h=>by
  rw[qB,Bool.and_eq_true]at h;rw[ca,il hf v h.1,fB hf r h.2]
end
theorem qs{p:Nat->Bool}{f:V->V}(hf:∀ v k,fk v=some k->p k=true->f v=v):∀ (l:List (List V)),wz p l=true->a7 f l=l
 | [],_=>by rw[a7]
 | v::r,h=>by
  rw[wz,Bool.and_eq_true]at h;rw[a7,fB hf v h.1,qs hf r h.2]
theorem gB{p:Nat->Bool}{f:V->V}(hf:∀ v k,fk v=some k->p k=true->f v=v):∀ (o:Obj),G7 p o=true->Obj.az f o=o
 | .box (.dd _),_=>rfl
 | .box (.vv l),h=>by show Obj.box (.vv (ca f l))=_;rw[fB hf l h]
 | .arr _ (.dd _),_=>rfl
 | .arr n (.vv l),h=>by show Obj.arr n (.vv (a7 f l))=_;rw[qs hf l h]
 | .map _,_=>rfl
 | .iter _ _,_=>rfl
 | .buf _ _,_=>rfl
 | .tb t l,h=>by show Obj.tb t (ca f l)=_;rw[fB hf l h]
 | .mit v n l u,h=>by show Obj.mit (az f v) n l u=_;rw[il hf v h]
def ns(K k:Nat):Bool:=Nat.blt k 3000000 && !Nat.beq k K
theorem nt{K k:Nat}(h:ns K k=true):k<3000000/\k≠K:=by
 unfold ns at h;rw[Bool.and_eq_true]at h;refine⟨Nat.le_of_ble_eq_true h.1,?_⟩;rintro rfl;simp at h
theorem lV{a b:Nat}(h:a≠b):Nat.beq a b=false:=by rw[Bool.eq_false_iff];exact fun e=>h (Nat.eq_of_beq_eq_true e)
theorem nm{K j:Nat}(hj:j=K\/3000000<=j):∀ v k,fk v=some k->ns K k=true->aQ j v=v:=by
 intro v k hv hk;have:=nt hk;unfold aQ;rw[hv];simp only[lV (show k≠j by rcases hj with rfl|h<;>omega)]
theorem uz{K i j:Nat}(hi:i=K\/3000000<=i):∀ v k,fk v=some k->ns K k=true->cK i j v=v:=by
 intro v k hv hk;have:=nt hk;have hb:=lV (show k≠i by rcases hi with rfl|h<;>omega);cases v<;>simp[fk]at hv<;>subst hv<;>simp[cK,hb]
theorem lF{p:Nat->Bool}:∀ {e:Env} {k:Nat} {v:V},lE p e=true->get e k=some v->uC p v=true
 | [],_,_,_,h=>by cases h
 | (s,u)::r,k,v,h,hg=>by
  rw[lE,Bool.and_eq_true]at h;rw[aF]at hg;split at hg
  ·cases hg;exact h.1
  ·exact lF h.2 hg
theorem eL{p:Nat->Bool}:∀ {e:av} {k:Nat} {v:Obj},uE p e=true->get e k=some v->p k=true/\G7 p v=true
 | [],_,_,_,h=>by cases h
 | (s,u)::r,k,v,h,hg=>by
  rw[uE,Bool.and_eq_true,Bool.and_eq_true]at h;rw[aF]at hg;split at hg
  ·rename_i e;subst e;cases hg;exact⟨h.1,h.2.1⟩
  ·exact eL h.2.2 hg
theorem cG{α:Type}:∀ (a b:sd α) (k:Nat),get (a++b) k=match get a k with|some v=>some v|none=>get b k
 | [],b,k=>rfl
 | (s,u)::r,b,k=>by
  rw[List.cons_append,aF,aF,cG r b k];split<;>rfl
theorem Wk.Mh{σ:Type}{e:Env}{h:av}{s:σ}(i j:Nat)(hj:¬ pinned j)(jN:i≠j) :
  Wk (⟨e,h,s⟩:St σ) ⟨cn (az (cK i j)) (cn (az (aQ j)) e),kA i j (cn (Obj.az (aQ j)) (cut h j)),s⟩:=by
 intro cx r m L F a w hg;have h1:Good cx r m L F ⟨e,cut h j,s⟩ a w:=hg.del j;have h2:=h1.kill j;have hu:=pd (e:=e) (h:=h) j (x:=j) (.inl rfl);exact⟨_,F,h2.move hj jN hu,Tr.refl F w⟩
theorem Wk.Du{σ:Type}{e e':Env}{h h':av}{s:σ}(he:cM e' e)(hh:cM h' h):Wk (⟨e,h,s⟩:St σ) ⟨e',h',s⟩:=
 fun cx r m L F a w hg=>⟨L,F,hg.sub he hh,Tr.refl F w⟩
theorem Wk.kY{σ:Type}{e:Env}{h h':av}{s:σ}{K:Nat}(i j:Nat)(hj:¬ pinned j)(jN:i≠j)(hi:i=K\/3000000<=i)(SJ:j=K\/3000000<=j)(he:lE (ns K) e=true)
  (hh:∀ k v,get h' k=some v->(k=j /\ ∃ o,get h i=some o/\v=Obj.az (cK i j) (Obj.az (aQ j) o))\/(k≠j/\k≠i /\ ∃ o,get h k=some o/\v=Obj.az (cK i j) (Obj.az (aQ j) o))) :
  Wk (⟨e,h,s⟩:St σ) ⟨e,h',s⟩:=by
 refine(Wk.Mh i j hj jN).trans (Wk.Du ?_ ?_)
 ·intro k v hv
  have e7:=lF he hv;rw[bl,bl,hv];simp only[Option.map_some];rw[il (nm SJ) v e7,il (uz hi) v e7]
 ·intro k v hv
  have hn:get (cn (Obj.az (aQ j)) (cut h j)) j=none:=by rw[bl,c0,if_pos rfl];rfl
  rw[nW _ hn];rcases hh k v hv with⟨rfl,o,h1,rfl⟩|⟨h1,h2,o,h3,rfl⟩
  ·rw[if_pos rfl,bl,c0,if_neg jN,h1];rfl
  ·rw[if_neg h1,if_neg h2,bl,c0,if_neg h1,h3];rfl
def HJ(K:Nat)(rows:List Rw):Prop:=∀ K' n,Rw.kL K' n∈rows->K'<3000000/\K'≠K
theorem iA(B sz:Nat):∀ (rows:List Rw) (i j:Nat) ,(cu B sz i rows)[j]?=(rows[j]?).map fun r=>[tS B sz (i+j) r]
 | [],i,j=>by simp[cu]
 | r::rs,i,0=>by simp[cu]
 | r::rs,i,j+1=>by
  rw[cu,List.getElem?_cons_succ,iA B sz rs (i+1) j,List.getElem?_cons_succ,show i+1+j=i+(j+1) by omega]
theorem tT(B sz:Nat):∀ (rows:List Rw) (i:Nat),(cu B sz i rows).length=rows.length
 | [],i=>rfl
 | r::rs,i=>by rw[cu,List.length_cons,tT B sz rs,List.length_cons]
theorem kz(f:V->V):∀ (l:List (List V)) (j:Nat),(a7 f l)[j]?=(l[j]?).map (ca f)
 | [],j=>by simp[a7]
 | v::r,0=>by simp[a7]
 | v::r,j+1=>by rw[a7,List.getElem?_cons_succ,kz f r j,List.getElem?_cons_succ]
theorem Et{B sz:Nat}{rows:List Rw}{n a b:Nat}{r':Rw}(hn:n<rows.length)
  (jS:∀ j r,rows[j]?=some r->j≠n->az (cK a b) (az (aQ b) (tS B sz j r))=tS B sz j r)
  (oc:∀ r,rows[n]?=some r->az (cK a b) (az (aQ b) (tS B sz n r))=tS B sz n r') :
  a7 (cK a b) (a7 (aQ b) (cu B sz 0 rows))=cu B sz 0 (rows.set n r'):=by
 apply List.ext_getElem?;intro j;rw[kz,kz,iA,iA,List.getElem?_set];by_cases hj:n=j
 ·subst hj
  rw[if_pos rfl,if_pos hn];obtain⟨r,hr⟩:∃ r,rows[n]?=some r:=⟨_,List.getElem?_eq_getElem hn⟩;rw[hr];simp only[Option.map_some,ca,Nat.zero_add];rw[oc r hr]
 ·rw[if_neg hj]
  cases hr:rows[j]? with
  | none=>rfl
  | some r=>
   simp only[Option.map_some,ca,Nat.zero_add];rw[jS j r hr (fun e=>hj e.symm)]
theorem Gw{B sz K:Nat}(hB:3000000<=B){a b i:Nat}(vm:(a=K/\b=B+i)\/(a=B+i/\b=K)){j:Nat}(hj:j≠i){r:Rw}(hr:∀ K' n,r = .kL K' n->K'<3000000/\K'≠K)(hK:K<3000000) :
  az (cK a b) (az (aQ b) (tS B sz j r))=tS B sz j r:=by
 have key:∀ x,x≠a->x≠b -> ∀ sz o n,az (cK a b) (az (aQ b) (.sl x sz o n)) = .sl x sz o n:=by
  intro x h1 h2 sz o n;have e1:az (aQ b) (.sl x sz o n) = .sl x sz o n:=by
   rw[az,aQ];simp only[fk,lV h2]
  rw[e1,az,cK];simp only[lV h1]
 cases r with
 | bw l=>
  refine key _ ?_ ?_ _ _ _<;>rcases vm with⟨rfl,rfl⟩|⟨rfl,rfl⟩<;>omega
 | kL K' n=>
  obtain⟨h1,h2⟩:=hr K' n rfl;refine key _ ?_ ?_ _ _ _<;>rcases vm with⟨rfl,rfl⟩|⟨rfl,rfl⟩<;>omega
end Go.PX
