import Derived.Test.YtdadolcglibjdaaGreatPxL
import Derived.Test.YtdadolcglibjdaaGreatPxI
import Derived.Test.YtdadolcglibjdaaGreatPxM
set_option linter.all false
set_option maxRecDepth 10000
namespace Go.PX
open Go.Proofs
theorem aS.Le{F:Nat->Nat}{w:World}{B:List D}:∀ {A:List D} {l:List Value},aS F w (A ++ .nils::B) l->aS F w (A ++ .vs []::B) l
 | [],l,h=>by
  obtain⟨x,l',rfl,hx,hr⟩:=h;have hx:x = .slice none 0 0:=hx;subst hx;exact⟨_,l',rfl,⟨none,0,0,rfl,rfl,Nat.le_refl _,fun h=>absurd rfl h⟩,hr⟩
 | a::A,l,h=>by
  obtain⟨x,l',rfl,hx,hr⟩:=h;exact⟨x,l',rfl,hx,aS.Le hr⟩
theorem z7{P:Program}{σ:Type}{Y:Hd σ}{st:St σ}{d:Option Nat}{f:FuncId}(A B:List D){l:List D}{r:List V}{K:St σ->Prop}(hl:l=A ++ .nils::B)(hc:dK P Y st d f (.d (.agg (A ++ .vs []::B))::r) K):dK P Y st d f (.d (.agg l)::r) K:=by
 subst hl;refine z8 (fun yv L F w l hv=>?_) hc;obtain⟨x,l',rfl,hx,hr⟩:=hv;obtain⟨a,rfl,ha⟩:=hx;exact⟨_,l',rfl,⟨a,rfl,aS.Le ha⟩,hr⟩
def gr(c:Case)(i:Int):Bool:=!a6 i 0 ((c.aD.length:Int)-1)
def pS(w:bB):dL:=⟨0,w.bf.hi,w.current.hi,w.aW.hi,0,[]⟩
def vU(c:Case)(i out:Int):Int×Int:=
 if rf c out (gr c i)=0 then (match c.aD[i.toNat]? with
  | some w=>(nj c.dj (pS w) out,0)
  | none=>(0,0)) else (0,rf c out (gr c i))
theorem uJ{c:Case}{i:Int}(h:gr c i=false):∃ w,0<=i/\c.aD[i.toNat]?=some w/\w∈c.aD:=by
 have h:a6 i 0 ((c.aD.length:Int)-1)=true:=by simpa[gr]using h
 rw[bq]at h;have hl:i.toNat<c.aD.length:=by omega
 exact⟨c.aD[i.toNat],h.1,List.getElem?_eq_getElem hl,List.getElem_mem hl⟩
theorem JT{c:Case}(h:gb c){w:bB}(hw:w∈c.aD):ja c.dj (pS w):=by
 obtain⟨hd,XP,Xv,RF⟩:=h.aD w hw;obtain⟨s1,s2,s3,s4⟩:=h.dj;exact⟨s1,s2,s3,s4,by simp only[pS];omega,by simp only[pS];omega,by simp only[pS];omega,by simp only[pS];omega,by simp only[pS];omega⟩
theorem Tt(c:Case)(i out:Int):aX Tryz.prog 41 [c.d,i64 i,i64 out] (.tup [i64 (vU c i out).1,i64 (vU c i out).2]):=by
 refine aB Tryz.func41 rfl (ft:=Um) 3 fun {σ} Y st=>?_;conv=>whnf
 refine ak (IY c out (.vs [[i64 i]]) (gr c i) (cW 0 ((c.aD.length:Int)-1) i)) rfl 1 rfl ?_;conv=>whnf
 by_cases h0:rf c out (gr c i)=0
 ·obtain⟨hR,hb,ho⟩:=ko h0
  obtain⟨w,hi,hw,hm⟩:=uJ hb;have hE:vU c i out=(nj c.dj (pS w) out,0):=by simp[vU,h0,hw]
  rw[hE,h0];conv=>whnf
  refine bY w.cells ⟨hi,by rw[List.getElem?_map,hw];rfl⟩ ?_;conv=>whnf
  refine z7 (c.dj.cells ++ [i64 0,i64 w.bf.hi,i64 w.current.hi,i64 w.aW.hi,i64 0]) [] rfl ?_;refine ah (ds:=[mA c.dj (pS w),i64 out]) (OM c.dj (pS w) out (JT hR hm) (by omega)) rfl rfl ?_;conv=>whnf
  exact ae
 ·have hE:vU c i out=(0,rf c out (gr c i)):=by simp[vU,h0]
  rw[hE];conv=>whnf
  refine ag (fun _=>?_) (fun h=>absurd h (by simpa using h0));conv=>whnf
  exact ae
theorem la{c:Case}(h:gb c):ke c (aM c):=by
 refine⟨h,by simp[aM],fun s hs=>?_⟩;simp only[aM,List.mem_map]at hs;obtain⟨x,hx,rfl⟩:=hs;exact xX (h.look hx) (h.av x hx).2
def rU(c:Case)(out:Int):(Int×Int×Int)×Int:=
 if cr c (rf c out false)=0 then (jA c (aM c) out,0) else ((0,0,0),cr c (rf c out false))
def tl(c:Case)(e:Int):D:=if cr c e=0 then Hy c else .nilp
theorem xz(c:Case)(e:Int)(hc:e=0->gb c):aX Tryz.prog 56 [c.d,i64 e] (.tup [tl c e,i64 (cr c e)]):=by
 refine aX.cast (LW c e hc) ?_;unfold tl cr;by_cases h:e=0
 ·simp[h]
 ·simp[h]
theorem LQ(c:Case)(out:Int):aX Tryz.prog 14 [c.d,i64 out] (.tup [i64 (rU c out).1.1,i64 (rU c out).1.2.1,i64 (rU c out).1.2.2,i64 (rU c out).2]):=by
 refine aB Tryz.func14 rfl (ft:=TW) 2 fun {σ} Y st=>?_;conv=>whnf
 refine al (ds:=[c.d,i64 out,.nils]) (IY c out .nils false (GH 0 _)) rfl rfl ?_;conv=>whnf
 refine al (ds:=[c.d,i64 (rf c out false)]) (xz c (rf c out false) (fun h=>(ko h).1)) rfl rfl ?_;unfold tl;by_cases h1:cr c (rf c out false)=0
 ·obtain⟨h0,hs⟩:=gI h1
  obtain⟨hR,_,ho⟩:=ko h0;have hE:rU c out=(jA c (aM c) out,0):=by simp[rU,h1]
  rw[hE,if_pos h1,h1];conv=>whnf
  refine ah (ds:=[mD c (aM c) (bI c.chain.av 0),i64 out]) (ON c (aM c) (bI c.chain.av 0) out (la hR) (by omega)) rfl rfl ?_;conv=>whnf
  exact ae
 ·have hE:rU c out=((0,0,0),cr c (rf c out false)):=by simp[rU,h1]
  rw[hE,if_neg h1];conv=>whnf
  refine ag (fun _=>?_) (fun h=>absurd h (by simpa using h1));conv=>whnf
  exact ae
def zy:D:=.agg [i64 0,i64 0,i64 0,i64 0,i64 0,.nils]
def rJ(c:Case)(i out:Int):D×(Int×Int)×Int:=
 if cr c (rf c out (gr c i))=0 then (match c.aD[i.toNat]? with
  | some w=>((dv c (aM c) w).d,jE c (aM c) out w,0)
  | none=>(zy,(0,0),0)) else (zy,(0,0),cr c (rf c out (gr c i)))
theorem Tv(c:Case)(i out:Int):aX Tryz.prog 42 [c.d,i64 i,i64 out] (.tup [(rJ c i out).1,i64 (rJ c i out).2.1.1,i64 (rJ c i out).2.1.2,i64 (rJ c i out).2.2]):=by
 refine aB Tryz.func42 rfl (ft:=Un) 3 fun {σ} Y st=>?_;conv=>whnf
 refine aw (IY c out (.vs [[i64 i]]) (gr c i) (cW 0 ((c.aD.length:Int)-1) i)) rfl 1 rfl ?_;conv=>whnf
 refine al (ds:=[c.d,i64 (rf c out (gr c i))]) (xz c (rf c out (gr c i)) (fun h=>(ko h).1)) rfl rfl ?_;unfold tl;by_cases h1:cr c (rf c out (gr c i))=0
 ·obtain⟨h0,hs⟩:=gI h1
  obtain⟨hR,hb,ho⟩:=ko h0;obtain⟨w,hi,hw,hm⟩:=uJ hb;have hM:=la hR;have hlen:(aM c).length<1000000:=by have:=hR.lens;rw[hM.len];omega
  have hE:rJ c i out=((dv c (aM c) w).d,jE c (aM c) out w,0):=by simp[rJ,h1,hw]
  rw[hE,if_pos h1,h1];conv=>whnf
  refine bY w.cells ⟨hi,by rw[List.getElem?_map,hw];rfl⟩ ?_;conv=>whnf
  refine ah (ds:=[mD c (aM c) (bI c.chain.av 0),w.d]) (OQ c (aM c) (bI c.chain.av 0) w hlen) rfl rfl ?_;conv=>whnf
  refine ah (ds:=[mD c (aM c) (bI c.chain.av 0),(dv c (aM c) w).d,i64 out]) (KC c (aM c) (bI c.chain.av 0) w out hM hm (by omega)) rfl rfl ?_;conv=>whnf
  exact ae
 ·have hE:rJ c i out=(zy,(0,0),cr c (rf c out (gr c i))):=by simp[rJ,h1]
  rw[hE,if_neg h1];conv=>whnf
  refine ag (fun _=>?_) (fun h=>absurd h (by simpa using h1));conv=>whnf
  exact ae
def fq(c:Case)(w:bB):List Span:=[w.depth,w.bf,w.current,w.aW,c.chain.hold]++aM c
def iB(t:dL):List Int:=[t.depth,t.bf,t.current,t.aW,t.hold]++t.dn
def vL:List Span->List Int->Bool
 | s::r,n::l=>!a6 n s.lo s.hi||vL r l
 | _,_=>false
def IF(c:Case)(i out:Int)(t:dL):(Int×Int)×Int:=
 if cr c (rf c out (gr c i))=0 then (
  if t.dn.length=c.chain.av.length then (match c.aD[i.toNat]? with
  | some w=>if vL (fq c w) (iB t) then ((0,0),7) else (ku c t out,0)
  | none=>((0,0),0)) else ((0,0),3)) else ((0,0),cr c (rf c out (gr c i)))
theorem Bm:∀ {l:List Span} {ts:List Int},l.length=ts.length->vL l ts=false -> ∀ n∈ts,∃ s∈l,s.lo<=n/\n<=s.hi
 | [],[],_,_,n,hn=>by cases hn
 | s::l,m::ts,hl,ho,n,hn=>by
  simp only[vL,Bool.or_eq_false_iff,Bool.not_eq_false',bq]at ho;simp only[List.mem_cons]at hn;rcases hn with rfl|hn
  ·exact⟨s,by simp,ho.1⟩
  ·obtain⟨s',h1,h2⟩:=Bm (by simpa using hl) ho.2 n hn
   exact⟨s',by simp[h1],h2⟩
theorem Gg{c:Case}(h:gb c){w:bB}(hw:w∈c.aD){t:dL}(hl:t.dn.length=c.chain.av.length)(ho:vL (fq c w) (iB t)=false):ja c.dj t /\ ∀ n∈t.dn,bd n:=by
 obtain⟨hd,XP,Xv,RF⟩:=h.aD w hw;obtain⟨s1,s2,s3,s4⟩:=h.dj;have hh:=h.hold;simp only[fq,iB,List.cons_append,List.nil_append,vL,Bool.or_eq_false_iff,Bool.not_eq_false',bq]at ho;obtain⟨o1,o2,o3,o4,o5,o6⟩:=ho;refine⟨⟨s1,s2,s3,s4,by omega,by omega,by omega,by omega,by omega⟩,fun n hn=>?_⟩;obtain⟨s,hs,hn⟩:=Bm (by simp[aM,hl]) o6 n hn;have:=(la h).th s hs;exact⟨by omega,by omega⟩
theorem Tw(c:Case)(i out:Int)(t:dL):aX Tryz.prog 43 [c.d,i64 i,i64 out,t.d] (.tup [i64 (IF c i out t).1.1,i64 (IF c i out t).1.2,i64 (IF c i out t).2]):=by
 refine aB Tryz.func43 rfl (ft:=Uo) 4 fun {σ} Y st=>?_;conv=>whnf
 refine aw (IY c out (.vs [[i64 i]]) (gr c i) (cW 0 ((c.aD.length:Int)-1) i)) rfl 1 rfl ?_;conv=>whnf
 refine al (ds:=[c.d,i64 (rf c out (gr c i))]) (xz c (rf c out (gr c i)) (fun h=>(ko h).1)) rfl rfl ?_;unfold tl;by_cases h1:cr c (rf c out (gr c i))=0
 ·obtain⟨h0,hs⟩:=gI h1
  obtain⟨hR,hb,ho⟩:=ko h0;obtain⟨w,hi,hw,hm⟩:=uJ hb;have hM:=la hR;have hlen:(aM c).length<1000000:=by have:=hR.lens;rw[hM.len];omega
  rw[if_pos h1];by_cases h2:t.dn.length=c.chain.av.length
  ·have hE:IF c i out t=if vL (fq c w) (iB t) then ((0,0),7) else (ku c t out,0):=by simp[IF,h1,h2,hw]
   rw[hE,h1];conv=>whnf
   refine ag (fun h=>absurd h (by simp[h2])) (fun _=>?_);conv=>whnf
   refine bY w.cells ⟨hi,by rw[List.getElem?_map,hw];rfl⟩ ?_;conv=>whnf
   have hk:∀ n,n=2->a7.ok n (.dd ((aM c).map Span.cells))=true:=fun n hn=>by
    subst hn;exact dG (fun x=>⟨rfl,rfl⟩) (aM c)
   refine ny.mk rfl ?_;conv=>whnf
   rw[hk]
   rotate_left
   ·rfl
   conv=>whnf
   refine bc (decide_eq_true (show(5+((aM c).map Span.cells).length)*16<=140737488355328 by simp;omega)) ?_;conv=>whnf
   have iQ:∀ n,n=1->a7.ok n (.dd (t.dn.map fun n=>[i64 n]))=true:=fun n hn=>by
    subst hn;exact dG (fun x=>⟨rfl,rfl⟩) t.dn
   refine ny.mk rfl ?_;conv=>whnf
   rw[iQ]
   rotate_left
   ·rfl
   conv=>whnf
   have nY:some (V.sl 60 2 0 (5+((aM c).map Span.cells).length))=some (V.sl 60 2 0 (fq c w).length):=by simp[fq];omega
   have wJ:some (V.sl 74 1 0 (5+(t.dn.map fun n=>[i64 n]).length))=some (V.sl 74 1 0 (iB t).length):=by simp[iB];omega
   have DK:some (V.d (i64 ((5+(t.dn.map fun n=>[i64 n]).length:Nat):Int)))=some (V.d (i64 (iB t).length)):=by simp[iB];omega
   have vh:t.dn.length<=7:=by have:=hR.lens;omega
   refine bc (decide_eq_true (show(5+(t.dn.map fun n=>[i64 n]).length)*8<=140737488355328 by simp;omega)) ?_;conv=>whnf
   refine ba (T:=tys) ao (by exact ai mixed ao (by decide +kernel)) (iB t) (fun i (_:Unit)=>⟨[(2,.d (i64 out)),(7,.ptr 7 0),(11,.d (mD c (aM c) (bI c.chain.av 0))),(13,.sl 60 2 0 (fq c w).length),(74,.sl 74 1 0 (iB t).length),(75,.d (i64 (iB t).length)),(76,.d (i64 i))],
     [(7,.box (.dd t.cells)),(60,.arr 2 (.dd ((fq c w).map Span.cells))),(74,.arr 1 (.dd ((iB t).map fun n=>[i64 n])))],st⟩)
    (fun i r _=>vL (fq c w) (iB t)=vL ((fq c w).drop i) r) ()
    (Wk.sub ⟨rfl,rfl,rfl,nY,wJ,DK,rfl,trivial⟩ ⟨rfl,rfl,rfl,trivial⟩) rfl ?_ ?_
   ·intro i x r _ hx hi hr he
    have Ja:(fq c w).length=(iB t).length:=by simp[fq,iB,aM,h2]
    have XB:i<(fq c w).length:=by omega
    have Mj:(fq c w)[i]?=some (fq c w)[i]:=List.getElem?_eq_getElem XB;have DT:(iB t).length<=12:=by simp[iB];omega
    rw[List.drop_eq_getElem_cons XB,vL]at he;generalize (fq c w)[i]=b at *;conv=>whnf
    refine ag (fun _=>?_) (fun h=>absurd hi (by simpa using h));conv=>whnf
    refine bc (by simp;omega) ?_;conv=>whnf
    refine cR [i64 x] (by simp[hx]) ?_;conv=>whnf
    refine bc (by simp;omega) ?_;conv=>whnf
    refine cR b.cells (by simp[Mj]) ?_;conv=>whnf
    refine bc (by simp;omega) ?_;conv=>whnf
    refine cR b.cells (by simp[Mj]) ?_;conv=>whnf
    refine aw (cW b.lo b.hi x) rfl 1 rfl ?_;conv=>whnf
    refine ag (fun h3=>?_) (fun h3=>?_)
    ·have h3:a6 x b.lo b.hi=false:=by simpa using h3
     simp only[h3,Bool.not_false,Bool.true_or]at he;conv=>whnf
     rw[if_pos he];exact ae
    ·have h3:a6 x b.lo b.hi=true:=by simpa using h3
     simp only[h3,Bool.not_true,Bool.false_or]at he;conv=>whnf
     refine af ?_;conv=>whnf
     exact⟨(),he,aI⟩
   ·rintro _ he
    have he:vL (fq c w) (iB t)=false:=by rw[he];cases (fq c w).drop (iB t).length<;>rfl
    obtain⟨hF,GX⟩:=Gg hR hm h2 he;rw[if_neg (by simp[he])];conv=>whnf
    refine ag (fun h=>absurd h (by simp)) (fun _=>?_);conv=>whnf
    refine ah (ds:=[mD c (aM c) (bI c.chain.av 0),t.d,i64 out]) (OR c (aM c) (bI c.chain.av 0) t out hR hF (by omega) h2 GX) rfl rfl ?_;conv=>whnf
    exact ae
  ·have hE:IF c i out t=((0,0),3):=by simp[IF,h1,h2]
   rw[hE,h1];conv=>whnf
   refine ag (fun _=>?_) (fun h=>absurd h (by simp;omega));conv=>whnf
   exact ae
 ·have hE:IF c i out t=((0,0),cr c (rf c out (gr c i))):=by simp[IF,h1]
  rw[hE,if_neg h1];conv=>whnf
  refine ag (fun _=>?_) (fun h=>absurd h (by simpa using h1));conv=>whnf
  exact ae
def tV(ok:Int->Bool)(n:Int):Nat->Int->Int->List Span->List Span
 | 0,_,_,acc=>acc
 | r+1,k,a,acc=>
  if ok k&&decide (a=0) then tV ok n r (k+1) (k+1) acc
  else if !ok k&&decide (a>0) then (if ((acc.length:Int)+1)=n then acc ++ [⟨a,k⟩] else tV ok n r (k+1) 0 (acc ++ [⟨a,k⟩]))
  else tV ok n r (k+1) a acc
def et(c:Case)(th:List Span)(k:Int):Bool:=decide (k<ca c.chain.av)&&decide ((jA c th (k+1)).1=0)
def ew(c:Case)(th:List Span)(n:Int):List Span:=tV (et c th) n (ca c.chain.av+1).toNat 0 0 []
theorem IZ(c:Case)(th:List Span)(fr:List (D×D))(n:Int)(h:ke c th):aX Tryz.prog 57 [mD c th fr,i64 n] (cw (ew c th n)):=by
 refine aB Tryz.func57 rfl (ft:=UA) 2 fun {σ} Y st=>?_;conv=>whnf
 have hR:=h.case
 have G8:=vx hR;refine ah (LY c.chain (by have:=hR.lens;omega) (vw hR)) rfl rfl ?_;conv=>whnf
 refine af ?_;conv=>whnf
 obtain⟨lk,G9⟩:∃ x,x=ca c.chain.av:=⟨_,rfl⟩;rw[<- G9]at G8;rw[<- G9];refine bP (T:=tys) ao (by exact ai mixed ao (by decide +kernel)) (α:=Int×Int×List Span)
  (fun x=>⟨[(0,.d (mD c th fr)),(1,.d (i64 n)),(4,.sl 56 2 0 x.2.2.length),(5,.d (i64 x.2.1)),(6,.d (i64 lk)),(19,.d (i64 (lk+1))),(20,.d (i64 x.1))],[(56,.arr 2 (.dd (x.2.2.map Span.cells)))],st⟩)
  (fun x=>(0<=x.1/\x.1<=lk+1)/\(0<=x.2.1/\x.2.1<=x.1)/\x.2.2.length<=x.1.toNat/\ew c th n=tV (et c th) n (lk+1-x.1).toNat x.1 x.2.1 x.2.2) (fun x=>(lk+1-x.1).toNat) (0,0,[])
  ((Wk.born 4 56 2 rfl rfl rfl).trans aI) ⟨by simp only;omega,by simp only;omega,by simp,by simp only[ew,G9,Int.sub_zero]⟩ ?_
 rintro ⟨k,a,acc⟩ ⟨hk,ha,YQ,he⟩;simp only at hk ha YQ he;conv=>whnf
 refine ag (fun hb=>?_) (fun hb=>?_)
 ·have hb:k<lk+1:=by simpa using hb
  have hm:(lk+1-k).toNat=(lk+1-(k+1)).toNat+1:=by omega
  rw[hm,tV]at he;have done:∀ a' lu,(0<=a'/\a'<=k+1)->lu.length<=(k+1).toNat->ew c th n=tV (et c th) n (lk+1-(k+1)).toNat (k+1) a' lu ->
    ((lk+1-(k+1)).toNat<(lk+1-k).toNat)/\((0<=k+1/\k+1<=lk+1)/\(0<=a'/\a'<=k+1)/\lu.length<=(k+1).toNat/\ew c th n=tV (et c th) n (lk+1-(k+1)).toNat (k+1) a' lu):=
   fun a' lu h1 h2 h3=>⟨by omega,⟨by omega,by omega⟩,h1,h2,h3⟩
  conv=>whnf
  refine ag (fun h1=>?_) (fun h1=>?_)
  ·have h1:k<lk:=by simpa using h1
   conv=>whnf
   refine af ?_;conv=>whnf
   refine ah (ON c th fr (k+1) h (by omega)) rfl rfl ?_;conv=>whnf
   by_cases h2:(jA c th (k+1)).1=0
   ·have eg:et c th k=true:=by simp[et,h2,<- G9,h1]
    simp only[eg,Bool.true_and,Bool.not_true,Bool.false_and,Bool.false_eq_true,if_false]at he;rw[h2];conv=>whnf
    refine ag (fun h3=>?_) (fun h3=>?_)
    ·have h3:a=0:=by simpa using h3
     simp only[h3,decide_true,if_true]at he;conv=>whnf
     refine af ?_;conv=>whnf
     refine af ?_;conv=>whnf
     obtain⟨d1,d2⟩:=done (k+1) acc (by omega) (by omega) he;exact⟨(k+1,k+1,acc),d1,d2,aI⟩
    ·have h3:¬ a=0:=by simpa using h3
     simp only[h3,decide_false,Bool.false_eq_true,if_false]at he;conv=>whnf
     refine af ?_;conv=>whnf
     obtain⟨d1,d2⟩:=done a acc (by omega) (by omega) he;exact⟨(k+1,a,acc),d1,d2,aI⟩
   ·have eg:et c th k=false:=by simp[et,h2]
    rw[show decide ((jA c th (k+1)).1=0)=false from decide_eq_false h2];simp only[eg,Bool.false_and,Bool.not_false,Bool.true_and,Bool.false_eq_true,if_false]at he;conv=>whnf
    refine ag (fun h3=>?_) (fun h3=>?_)
    ·have h3:a>0:=by simpa using h3
     simp only[h3,decide_true,if_true]at he;conv=>whnf
     refine aK rfl ?_;conv=>whnf
     refine ny.mk (by simp[a7.len]) ?_;conv=>whnf
     refine bc (by simp[a7.len,a7.part,a7.cons,V.cells];omega) ?_;conv=>whnf
     refine ag (fun h4=>?_) (fun h4=>?_)
     ·have h4:(acc.length:Int)+1=n:=by simpa[a7.len,a7.part,a7.cons,V.cells]using h4
      rw[if_pos h4]at he;conv=>whnf
      rw[he];refine an 2 (ds:=[cw (acc ++ [⟨a,k⟩])]) (aG (eK (es':=(acc ++ [Span.mk a k]).map Span.cells) rfl ?_ ?_) rfl) ⟨⟨rfl,rfl⟩,rfl⟩
      ·show((((acc.map Span.cells).drop 0).take acc.length) ++ [Span.cells ⟨a,k⟩])=_
       rw[List.drop_zero,List.take_of_length_le (by simp)];simp
      ·show((((acc.map Span.cells).drop 0).take acc.length).length+1)=_
       rw[List.drop_zero,List.take_of_length_le (by simp)];simp
     ·have h4:¬ (acc.length:Int)+1=n:=by simpa[a7.len,a7.part,a7.cons,V.cells]using h4
      rw[if_neg h4]at he;conv=>whnf
      refine af ?_;conv=>whnf
      obtain⟨d1,d2⟩:=done 0 (acc ++ [⟨a,k⟩]) (by omega) (by simp;omega) he;refine⟨(k+1,0,acc ++ [⟨a,k⟩]),d1,d2,Wk.sub ⟨rfl,rfl,?_,rfl,rfl,rfl,rfl,trivial⟩ ⟨?_,trivial⟩⟩
      ·show some (V.sl 56 2 0 ((((acc.map Span.cells).drop 0).take acc.length).length+1))=_
       rw[List.drop_zero,List.take_of_length_le (by simp)];simp
      ·show some (Obj.arr 2 (.dd ((((acc.map Span.cells).drop 0).take acc.length) ++ [Span.cells ⟨a,k⟩])))=_
       rw[List.drop_zero,List.take_of_length_le (by simp)];simp
    ·have h3:¬ a>0:=by simpa using h3
     simp only[h3,decide_false,Bool.false_eq_true,if_false]at he;conv=>whnf
     refine af ?_;conv=>whnf
     obtain⟨d1,d2⟩:=done a acc (by omega) (by omega) he;exact⟨(k+1,a,acc),d1,d2,aI⟩
  ·have h1:¬ k<lk:=by simpa using h1
   have eg:et c th k=false:=by simp[et,<- G9,h1]
   simp only[eg,Bool.false_and,Bool.not_false,Bool.true_and,Bool.false_eq_true,if_false]at he;conv=>whnf
   refine ag (fun h3=>?_) (fun h3=>?_)
   ·have h3:a>0:=by simpa using h3
    simp only[h3,decide_true,if_true]at he;conv=>whnf
    refine aK rfl ?_;conv=>whnf
    refine ny.mk (by simp[a7.len]) ?_;conv=>whnf
    refine bc (by simp[a7.len,a7.part,a7.cons,V.cells];omega) ?_;conv=>whnf
    refine ag (fun h4=>?_) (fun h4=>?_)
    ·have h4:(acc.length:Int)+1=n:=by simpa[a7.len,a7.part,a7.cons,V.cells]using h4
     rw[if_pos h4]at he;conv=>whnf
     rw[he];refine an 2 (ds:=[cw (acc ++ [⟨a,k⟩])]) (aG (eK (es':=(acc ++ [Span.mk a k]).map Span.cells) rfl ?_ ?_) rfl) ⟨⟨rfl,rfl⟩,rfl⟩
     ·show((((acc.map Span.cells).drop 0).take acc.length) ++ [Span.cells ⟨a,k⟩])=_
      rw[List.drop_zero,List.take_of_length_le (by simp)];simp
     ·show((((acc.map Span.cells).drop 0).take acc.length).length+1)=_
      rw[List.drop_zero,List.take_of_length_le (by simp)];simp
    ·have h4:¬ (acc.length:Int)+1=n:=by simpa[a7.len,a7.part,a7.cons,V.cells]using h4
     rw[if_neg h4]at he;conv=>whnf
     refine af ?_;conv=>whnf
     obtain⟨d1,d2⟩:=done 0 (acc ++ [⟨a,k⟩]) (by omega) (by simp;omega) he;refine⟨(k+1,0,acc ++ [⟨a,k⟩]),d1,d2,Wk.sub ⟨rfl,rfl,?_,rfl,rfl,rfl,rfl,trivial⟩ ⟨?_,trivial⟩⟩
     ·show some (V.sl 56 2 0 ((((acc.map Span.cells).drop 0).take acc.length).length+1))=_
      rw[List.drop_zero,List.take_of_length_le (by simp)];simp
     ·show some (Obj.arr 2 (.dd ((((acc.map Span.cells).drop 0).take acc.length) ++ [Span.cells ⟨a,k⟩])))=_
      rw[List.drop_zero,List.take_of_length_le (by simp)];simp
   ·have h3:¬ a>0:=by simpa using h3
    simp only[h3,decide_false,Bool.false_eq_true,if_false]at he;conv=>whnf
    refine af ?_;conv=>whnf
    obtain⟨d1,d2⟩:=done a acc (by omega) (by omega) he;exact⟨(k+1,a,acc),d1,d2,aI⟩
 ·have hb:¬ k<lk+1:=by simpa using hb
  have hm:(lk+1-k).toNat=0:=by omega
  rw[hm,tV]at he;conv=>whnf
  rw[he];exact an 2 (ds:=[cw acc]) (aG (cB rfl (by simp)) rfl) ⟨⟨rfl,rfl⟩,rfl⟩
def gp(c:Case):Int×Int:=
 if cr c (bx c).2.2=0 then (match ew c (aM c) 1 with
  | []=>(0,9)
  | s::_=>(s.lo,0)) else (0,cr c (bx c).2.2)
theorem LR(c:Case):aX Tryz.prog 12 [c.d] (.tup [i64 (gp c).1,i64 (gp c).2]):=by
 refine aB Tryz.func12 rfl (ft:=TU) 1 fun {σ} Y st=>?_;conv=>whnf
 refine ah (GB c) rfl rfl ?_;conv=>whnf
 refine ah (xz c (bx c).2.2 (fun h=>eV h)) rfl rfl ?_;conv=>whnf
 unfold tl;by_cases h1:cr c (bx c).2.2=0
 ·obtain⟨h0,hs⟩:=gI h1
  have hR:=eV h0;rw[if_pos h1,h1];conv=>whnf
  refine ah (ds:=[mD c (aM c) (bI c.chain.av 0),i64 1]) (IZ c (aM c) (bI c.chain.av 0) 1 (la hR)) rfl rfl ?_
  cases hl:ew c (aM c) 1 with
  | nil=>
   have hE:gp c=(0,9):=by simp[gp,h1,hl]
   rw[hE];conv=>whnf
   exact ae
  | cons s r=>
   have hE:gp c=(s.lo,0):=by simp[gp,h1,hl]
   rw[hE];conv=>whnf
   exact ae
 ·have hE:gp c=(0,cr c (bx c).2.2):=by simp[gp,h1]
  rw[hE,if_neg h1];conv=>whnf
  refine ag (fun _=>?_) (fun h=>absurd h (by simpa using h1));conv=>whnf
  exact ae
def jV(c:Case):List Span×Int:=
 if cr c (bx c).2.2=0 then (match ew c (aM c) (ca c.chain.av) with
  | []=>([],9)
  | s::r=>(s::r,0)) else ([],cr c (bx c).2.2)
theorem Tx(c:Case):aX Tryz.prog 45 [c.d] (.tup [cw (jV c).1,i64 (jV c).2]):=by
 refine aB Tryz.func45 rfl (ft:=Uq) 1 fun {σ} Y st=>?_;conv=>whnf
 refine ah (GB c) rfl rfl ?_;conv=>whnf
 refine ah (xz c (bx c).2.2 (fun h=>eV h)) rfl rfl ?_;conv=>whnf
 unfold tl;by_cases h1:cr c (bx c).2.2=0
 ·obtain⟨h0,hs⟩:=gI h1
  have hR:=eV h0;rw[if_pos h1,h1];conv=>whnf
  refine ah (LY c.chain (by have:=hR.lens;omega) (vw hR)) rfl rfl ?_;conv=>whnf
  refine ah (ds:=[mD c (aM c) (bI c.chain.av 0),i64 (ca c.chain.av)]) (IZ c (aM c) (bI c.chain.av 0) (ca c.chain.av) (la hR)) rfl rfl ?_
  cases hl:ew c (aM c) (ca c.chain.av) with
  | nil=>
   have hE:jV c=([],9):=by simp[jV,h1,hl]
   rw[hE];conv=>whnf
   refine gM ?_;exact ae
  | cons s r=>
   have hE:jV c=(s::r,0):=by simp[jV,h1,hl]
   rw[hE];conv=>whnf
   exact ae
 ·have hE:jV c=([],cr c (bx c).2.2):=by simp[jV,h1]
  rw[hE,if_neg h1];conv=>whnf
  refine ag (fun _=>?_) (fun h=>absurd h (by simpa using h1));conv=>whnf
  refine gM ?_;exact ae
def tW(g:FuncId)(aL:List D)(wf:List Int->Bool×Bool)(many left:Nat):Prop:=
 ∀ (start:Nat) (p:List Int) (x:Bool) (b:Bool),left<=many->start<=many+1->p.length+left<=many->(∀ i∈p,0<=i/\i<many) -> ∀ {σ:Type} (Y:Hd σ) (s:σ),
   FM Tryz.prog Y 124 (lR start left) (nb 124 g aL many 1000006 p.length p (.bool x) (.bool b)) s fun v h' s'=>s'=s /\ ∃ (q:List Int) (y:Bool) (b':Bool),h'=nb 124 g aL many 2000000 q.length q (.bool y) (.bool b') /\
    (match ig wf many left p start with
    | some (q',y')=>v = .d (.bool true)/\q=q'/\y=y'/\b'=true
    | none=>v = .d (.bool false)/\q=p)
def tX(g:FuncId)(aL:List D)(wf:List Int->Bool×Bool)(many:Nat):Prop:=
 ∀ q:List Int,(∀ i∈q,0<=i/\i<many)->q.length<=many->aX Tryz.prog g (bS q::aL) (.tup [.bool (wf q).1,.bool (wf q).2])
theorem yX{g:FuncId}{aL:List D}{wf:List Int->Bool×Bool}{many:Nat}(hm:many<=1000)(hw:tX g aL wf many):tW g aL wf many 0:=by
 intro start p x b hl hf hp py σ Y s;refine cX mixed ao Tryz.func124 rfl (ft:=DF) (args:=lR start 0) (show qC DF Tryz.f124 8=true from by decide +kernel) ?_;conv=>whnf
 have xF:(dx p).length=p.length:=by simp[dx]
 refine ak (ds:=bS p::aL) (hw p py (by omega)) rfl 1 (aG (cB rfl (by simp[dx])) (sQ aL)) ?_;conv=>whnf
 refine cd [1000006] [.d (.bool (wf p).2)] (nb 124 g aL many 2000000 p.length p (.bool (wf p).1) (.bool (wf p).2)) rfl ⟨rfl,rfl,rfl,rfl,rfl,rfl,rfl,trivial⟩ rfl ?_;refine⟨rfl,p,(wf p).1,(wf p).2,rfl,?_⟩;simp only[ig];cases hb:(wf p).2<;>simp[vQ]
theorem yW{g:FuncId}{aL:List D}{wf:List Int->Bool×Bool}{many left:Nat}(hm:many<=1000)(WU:tW g aL wf many left):tW g aL wf many (left+1):=by
 intro start p x b hl hf hp py σ Y s;refine cX mixed ao Tryz.func124 rfl (ft:=DF) (args:=lR start (left+1)) (show qC DF Tryz.f124 8=true from by decide +kernel) ?_;conv=>whnf
 refine bP (T:=tys) ao (by exact ai mixed ao (by decide +kernel)) (α:=Nat×Bool×Bool)
  (fun x=>⟨[(1,.d (i64 (left+1:Nat))),(2,.ptr 1000000 0),(3,.ptr 1000001 0),(4,.ptr 1000002 0),(5,.ptr 1000003 0),(6,.ptr 1000004 0),(7,.ptr 1000005 0),(11,.d (i64 x.1))],nb 124 g aL many 900000 p.length p (.bool x.2.1) (.bool x.2.2),s⟩)
  (fun x=>x.1<=many+1/\ig wf many (left+1) p start=(List.range' x.1 (many-left-x.1)).findSome? fun(i:Nat)=>ig wf many left (p ++ [(i:Int)]) (i+1)) (fun x=>many+1-x.1) (start,x,b)
  ((Wk.move 1000006 900000 rfl rfl).trans aI) ⟨hf,rfl⟩ ?_
 clear hf x b;rintro ⟨i,x,b⟩ ⟨hi,he⟩;simp only at hi he;conv=>whnf
 refine af ?_;conv=>whnf
 refine ag (fun h1=>?_) (fun h1=>?_)
 ·have h1:i<=many-(left+1):=by have:=of_decide_eq_true h1;omega
  obtain⟨m,BX⟩:∃ m,many-left-i=m+1:=⟨many-left-i-1,by omega⟩;rw[BX,List.range'_succ,List.findSome?_cons]at he;have nr:(dx p).length=p.length:=by simp[dx]
  conv=>whnf
  refine aK rfl ?_;conv=>whnf
  refine ny.mk (by simp[a7.len,nr]) ?_;conv=>whnf
  refine bc (by simp[a7.len,a7.part,a7.cons,V.cells,nr];omega) ?_;conv=>whnf
  refine aA (((i+1:Nat):Int)) (by(try dsimp only);omega) (wrap_i64 (by(try dsimp only);omega)) ?_;conv=>whnf
  refine aA ((left:Int)) (by(try dsimp only);omega) (wrap_i64 (by(try dsimp only);omega)) ?_;conv=>whnf
  have MB:∀ j∈p ++ [(i:Int)],0<=j/\j<many:=by
   intro j hj;rcases List.mem_append.1 hj with hj|hj
   ·exact py j hj
   ·rw[List.mem_singleton]at hj;subst hj;omega
  have ih:=WU (i+1) (p ++ [(i:Int)]) x b (by omega) (by omega) (by simp;omega) MB Y.np s;refine qH ih [1000000,1000001,1000002,1000003,1000004,1000005,32] rfl ⟨_,_,rfl,rfl,_,_,rfl,(by
    show some (Obj.box (Cells.vv [V.sl 32 1 0 ((((dx p).drop 0).take p.length).length+1)]))=some (Obj.box (Cells.vv [V.sl 32 1 0 (p ++ [(i:Int)]).length]));simp[dx]),_,_,rfl,rfl,_,_,rfl,rfl,_,_,rfl,rfl,_,_,rfl,rfl,_,_,rfl,(by
    show some (Obj.arr 1 (a7.dd ((((dx p).drop 0).take p.length) ++ [[i64 (i:Int)]])))=some (Obj.arr 1 (a7.dd (dx (p ++ [(i:Int)]))));simp[dx,List.take_of_length_le]),rfl⟩ rfl rfl ?_
  rintro v h1 s' ⟨rfl,q,y,b',rfl,il⟩
  cases hF:ig wf many left (p ++ [(i:Int)]) (i+1) with
  | some r=>
   obtain⟨q',y'⟩:=r;rw[hF]at il he;obtain⟨rfl,rfl,rfl,rfl⟩:=il;refine⟨rfl,?_⟩;conv=>whnf
   refine cd [102432] [.d (.bool true)] (nb 124 g aL many 2000000 q.length q (.bool y) (.bool true)) rfl ⟨rfl,qP rfl ⟨⟨rfl,rfl,rfl,rfl⟩,trivial⟩,rfl,rfl,rfl,qP rfl ⟨⟨rfl,⟨rfl,rfl⟩,⟨rfl,rfl⟩,⟨rfl,rfl⟩,⟨rfl,rfl⟩,⟨rfl,rfl⟩,⟨rfl,rfl⟩,trivial⟩,trivial⟩,rfl,trivial⟩ rfl ?_;refine⟨rfl,q,y,true,rfl,?_⟩;rw[he];exact⟨rfl,rfl,rfl,rfl⟩
  | none=>
   rw[hF]at il he;obtain⟨rfl,rfl⟩:=il;refine⟨rfl,?_⟩;conv=>whnf
   refine aA (p.length:Int) (by simp) (wrap_i64 (by omega)) ?_;conv=>whnf
   refine bc (by simp;omega) ?_;conv=>whnf
   refine aA (((i+1:Nat):Int)) (by(try dsimp only);omega) (wrap_i64 (by(try dsimp only);omega)) ?_;conv=>whnf
   have zi:many-left-(i+1)=m:=by omega
   refine⟨(i+1,y,b'),by simp only;omega,⟨by simp only;omega,by simp only;rw[zi];exact he⟩,(Wk.move 102432 900000 rfl rfl).trans ((Wk.shrink 900000 p.length rfl).trans ?_)⟩;have Ww:(dx (p ++ [(i:Int)])).take p.length=dx p:=by simp[dx,List.take_left']
   refine Wk.sub ⟨rfl,rfl,rfl,rfl,rfl,rfl,rfl,rfl,trivial⟩ ⟨rfl,?_,rfl,rfl,rfl,rfl,?_,trivial⟩
   ·rfl
   ·show some (Obj.arr 1 (a7.dd ((dx (p ++ [(i:Int)])).take p.length)))=_
    rw[Ww]
 ·have h1:¬ (i:Int)<=(many:Int)-((left+1:Nat):Int):=of_decide_eq_false h1
  rw[show many-left-i=0 by omega]at he;conv=>whnf
  refine cd [900000] [.d (.bool false)] (nb 124 g aL many 2000000 p.length p (.bool x) (.bool b)) rfl ⟨rfl,rfl,rfl,rfl,rfl,rfl,rfl,trivial⟩ rfl ?_;refine⟨rfl,p,x,b,rfl,?_⟩;rw[he];exact⟨rfl,rfl⟩
theorem IT{g:FuncId}{aL:List D}{wf:List Int->Bool×Bool}{many:Nat}(hm:many<=1000)(hw:tX g aL wf many)(left:Nat):tW g aL wf many left:=by
 induction left with
 | zero=>exact yX hm hw
 | succ n ih=>exact yW hm ih
theorem TI(g:FuncId)(aL:List D)(wf:List Int->Bool×Bool)(many:Nat)(hm:many<=1000)(hw:tX g aL wf many){σ:Type}(Y:Hd σ)(s:σ) :
  FM Tryz.prog Y 87 [.d (i64 many),.d (.clo g aL)] [] s fun v h' s'=>s'=s/\h' = []/\(match kX wf many with
   | some (q,y)=>v = .d (.tup [bS q,.bool y,.bool true])
   | none=>∃ y,v = .d (.tup [bS [],.bool y,.bool false])):=by
 refine cX mixed ao Tryz.func87 rfl (ft:=Qj) (args:=[.d (i64 many),.d (.clo g aL)]) (show qC Qj Tryz.f87 2=true from by decide +kernel) ?_;conv=>whnf
 refine af ?_;conv=>whnf
 refine bP (T:=tys) ao (by exact ai mixed ao (by decide +kernel)) (α:=Nat×Bool×Bool)
  (fun x=>⟨[(2,.ptr 2 0),(3,.ptr 3 0),(4,.ptr 4 0),(5,.ptr 5 0),(6,.ptr 6 0),(7,.ptr 7 0),(11,.d (i64 (many+1:Nat))),(12,.d (i64 x.1))],
   [(2,.box (.dd [i64 many])),(3,.box (.dd [.clo g aL])),(4,.box (.vv [.sl 900000 1 0 0])),(5,.box (.dd [.bool x.2.1])),(6,.box (.dd [.bool x.2.2])),(7,.box (.vv [.clo 124 [.ptr 3 0,.ptr 4 0,.ptr 5 0,.ptr 6 0,.ptr 2 0,.ptr 7 0]])),(900000,.arr 1 (.dd []))],s⟩)
  (fun x=>x.1<=many+1/\kX wf many=(List.range' x.1 (many+1-x.1)).findSome? fun(n:Nat)=>ig wf many n [] 0) (fun x=>many+1-x.1) (0,false,false)
  ((Wk.Dx 4 900000 1 rfl rfl rfl rfl).trans aI) ⟨by simp,rfl⟩ ?_
 rintro ⟨n,x,b⟩ ⟨hn,he⟩;simp only at hn he;conv=>whnf
 refine ag (fun h1=>?_) (fun h1=>?_)
 ·have h1:n<many+1:=by have:=of_decide_eq_true h1;omega
  obtain⟨m,BX⟩:∃ m,many+1-n=m+1:=⟨many-n,by omega⟩;have zi:many+1-(n+1)=m:=by omega
  rw[BX,List.range'_succ,List.findSome?_cons]at he;conv=>whnf
  refine Dp (IT hm hw n 0 [] x b (by omega) (by omega) (by simp;omega) (by simp) Y.np s) [3,4,5,6,2,7,900000] rfl ⟨_,_,rfl,rfl,_,_,rfl,rfl,_,_,rfl,rfl,_,_,rfl,rfl,_,_,rfl,rfl,_,_,rfl,rfl,_,_,rfl,rfl,rfl⟩ rfl rfl ?_;rintro v h1 s' ⟨rfl,q,y,b',rfl,il⟩
  cases hF:ig wf many n [] 0 with
  | some r=>
   obtain⟨q',y'⟩:=r;rw[hF]at il he;obtain⟨rfl,rfl,rfl,rfl⟩:=il;refine⟨rfl,?_⟩;conv=>whnf
   refine⟨⟨[(4,.ptr 4 0),(5,.ptr 5 0),(6,.ptr 6 0),(17,.d (.bool true))],[(4,.box (.dd [bS q])),(5,.box (.dd [.bool y])),(6,.box (.dd [.bool true]))],s'⟩,(Wk.OY 1 [101088]).trans (Wk.sub ⟨rfl,rfl,rfl,rfl,trivial⟩ ⟨?_,rfl,rfl,trivial⟩),?_⟩
   ·exact DG (id:=101088) (sz:=1) (n:=q.length) rfl (cB (es:=dx q) rfl (by simp[dx]))
   conv=>whnf
   refine al (OX q (by have:=sd hF;simp at this;omega)) rfl rfl ?_;conv=>whnf
   refine an 0 rfl ⟨rfl,rfl,?_⟩;rw[he];rfl
  | none=>
   rw[hF]at il he;obtain⟨rfl,rfl⟩:=il;refine⟨rfl,?_⟩;conv=>whnf
   refine⟨⟨[(2,.ptr 2 0),(3,.ptr 3 0),(4,.ptr 4 0),(5,.ptr 5 0),(6,.ptr 6 0),(7,.ptr 7 0),(11,.d (i64 (many+1:Nat))),(12,.d (i64 n)),(17,.d (.bool false))],
    [(2,.box (.dd [i64 many])),(3,.box (.dd [.clo g aL])),(4,.box (.vv [.sl 900000 1 0 0])),(5,.box (.dd [.bool y])),(6,.box (.dd [.bool b'])),(7,.box (.vv [.clo 124 [.ptr 3 0,.ptr 4 0,.ptr 5 0,.ptr 6 0,.ptr 2 0,.ptr 7 0]])),(900000,.arr 1 (.dd []))],s'⟩,
    (Wk.move 101088 900000 rfl rfl).trans aI,?_⟩
   conv=>whnf
   refine af ?_;conv=>whnf
   exact⟨(n+1,y,b'),by simp only;omega,⟨by simp only;omega,by simp only;rw[zi];exact he⟩,aI⟩
 ·have h1:¬ n<many+1:=by have:=of_decide_eq_false h1;omega
  rw[show many+1-n=0 by omega]at he;conv=>whnf
  refine gM ?_;refine an 0 rfl ⟨rfl,rfl,?_⟩;rw[he];exact⟨x,rfl⟩
theorem Ow(p:List Span)(hp:p.length<1000000)(h0:p ≠ []):sU Tryz.prog 69 [.d (cw p)] [] fun v h'=>v = .sl 2000000 2 0 p.length/\h' = [(2000000,.arr 2 (.dd (p.map Span.cells)))]:=by
 intro σ Y s;refine cX mixed ao Tryz.func69 rfl (ft:=LZ) (args:=[.d (cw p)]) (show qC LZ Tryz.f69 1=true from by decide +kernel) ?_;conv=>whnf
 refine⟨fun b hb=>?_⟩
 cases b with
 | true=>exact absurd (hb (by cases p with
   | nil=>exact absurd rfl h0
   | cons a r=>simp)) (by simp)
 | false=>
  conv=>whnf
  refine ny.mk rfl ?_;conv=>whnf
  refine bc (by
   show(fE 2 (p.map Span.cells)&&true)=true;rw[dG (fun x=>⟨rfl,rfl⟩)];rfl) ?_
  conv=>whnf
  refine bc (by simp[a7.len,a7.part];omega) ?_;conv=>whnf
  refine cd [7] [.sl 2000000 2 0 p.length] [(2000000,.arr 2 (.dd (p.map Span.cells)))] ?_ ?_ rfl ⟨⟨rfl,rfl⟩,rfl⟩
  ·show [V.sl 7 2 0 p.length] = [V.sl 7 2 0 (0+(p.map Span.cells).length)]
   simp
  ·exact⟨rfl,trivial⟩
def uE{α:Type}(l m:List α)(i:Nat):Prop:=m.length=l.length /\ ∀ k,k<l.length->m[k]?=if k<i\/l.length<=k+i then l.reverse[k]? else l[k]?
theorem tG{α:Type}{p m:List α}{i j:Nat}{x y:α}(h:uE p m i)(hj:i+j+1=p.length)(px:i<j)(hx:m[i]?=some x)(hy:m[j]?=some y):uE p ((m.set i y).set j x) (i+1):=by
 obtain⟨hm,hT⟩:=h;refine⟨by simp[hm],fun k hk=>?_⟩;have h1:=hT i (by omega);have h2:=hT j (by omega);rw[if_neg (by omega),hx]at h1;rw[if_neg (by omega),hy]at h2;by_cases AO:j=k
 ·subst AO
  rw[List.getElem?_set_self (by simp;omega),if_pos (by omega),List.getElem?_reverse (by omega),show p.length-1-j=i by omega,h1]
 ·rw[List.getElem?_set_ne AO]
  by_cases EN:i=k
  ·subst EN
   rw[List.getElem?_set_self (by omega),if_pos (by omega),List.getElem?_reverse (by omega),show p.length-1-i=j by omega,h2]
  ·rw[List.getElem?_set_ne EN,hT k hk]
   by_cases hc:k<i\/p.length<=k+i
   ·rw[if_pos hc,if_pos (by omega)]
   ·rw[if_neg hc,if_neg (by omega)]
theorem wq{α:Type}{p m:List α}{i:Nat}(h:uE p m i)(hi:p.length<=2*i+1):m=p.reverse:=by
 obtain⟨hm,hT⟩:=h;refine List.ext_getElem? fun k=>?_;by_cases hk:k<p.length
 ·rw[hT k hk]
  by_cases hc:k<i\/p.length<=k+i
  ·rw[if_pos hc]
  ·rw[if_neg hc,List.getElem?_reverse hk,show p.length-1-k=k by omega]
 ·rw[List.getElem?_eq_none (by omega),List.getElem?_eq_none (by simp;omega)]
theorem Oy(p:List Span)(hp:p.length<1000000):sU Tryz.prog 126 [.sl 1000000 2 0 p.length] [(1000000,.arr 2 (.dd (p.map Span.cells)))] fun v h'=>v = .d (.tup [])/\h' = [(1000000,.arr 2 (.dd (p.reverse.map Span.cells)))]:=by
 intro σ Y s;refine cX mixed ao Tryz.func126 rfl (ft:=KF) (args:=[.sl 1000000 2 0 p.length]) (show qC KF Tryz.f126 1=true from by decide +kernel) ?_;conv=>whnf
 refine af ?_;conv=>whnf
 refine bP (T:=tys) ao (by exact ai mixed ao (by decide +kernel)) (α:=Nat×List Span)
  (fun x=>⟨[(0,.sl 1000000 2 0 p.length),(2,.d (i64 x.1)),(3,.d (i64 ((p.length:Int)-1-x.1)))],[(1000000,.arr 2 (.dd (x.2.map Span.cells)))],s⟩)
  (fun x=>2*x.1<=p.length+1/\uE p x.2 x.1) (fun x=>p.length-x.1) (0,p)
  (Wk.sub ⟨rfl,rfl,by simp[PX.get],trivial⟩ ⟨rfl,trivial⟩) ⟨by simp,rfl,fun k hk=>by simp;omega⟩ ?_
 rintro ⟨i,m⟩ ⟨hi,hm,hT⟩;simp only at hi hm hT;conv=>whnf
 refine ag (fun hb=>?_) (fun hb=>?_)
 ·have hb:(i:Int)<(p.length:Int)-1-i:=by simpa using hb
  obtain⟨j,hj⟩:∃ j:Nat,i+j+1=p.length:=⟨p.length-1-i,by omega⟩;have EK:((p.length:Int)-1-(i:Int)).toNat=j:=by omega
  have AQ:m[i]?=some m[i]:=List.getElem?_eq_getElem (by omega);have MG:m[j]?=some m[j]:=List.getElem?_eq_getElem (by omega);generalize m[i]=x at *;generalize m[j]=y at *;obtain⟨Hb,VA⟩:=tG ⟨hm,hT⟩ hj (by omega) AQ MG;conv=>whnf
  refine bc (by simp;omega) ?_;conv=>whnf
  refine cR y.cells (by simp[EK,MG]) ?_;conv=>whnf
  refine bc (by simp;omega) ?_;conv=>whnf
  refine cR x.cells (by simp[AQ]) ?_;conv=>whnf
  refine bc (by simp;omega) ?_;conv=>whnf
  refine cR x.cells (by simp[AQ]) ?_;conv=>whnf
  refine bc (by simp;omega) ?_;conv=>whnf
  refine cR y.cells (by
   show((m.map Span.cells).set (0+(i:Int).toNat) y.cells)[0+((p.length:Int)-1-(i:Int)).toNat]?=_;rw[EK,List.getElem?_set_ne (by simp;omega)];simp[MG]) ?_
  conv=>whnf
  refine aA (((i+1:Nat):Int)) (by(try dsimp only);omega) (wrap_i64 (by(try dsimp only);omega)) ?_;conv=>whnf
  refine aA ((p.length:Int)-1-((i+1:Nat):Int)) (by(try dsimp only);omega) (wrap_i64 (by(try dsimp only);omega)) ?_;conv=>whnf
  refine⟨(i+1,(m.set i y).set j x),by simp only;omega,⟨by simp only;omega,Hb,VA⟩,Wk.sub ⟨rfl,rfl,rfl,trivial⟩ ⟨?_,trivial⟩⟩;show some (Obj.arr 2 (.dd (((m.map Span.cells).set (0+(i:Int).toNat) y.cells).set (0+((p.length:Int)-1-(i:Int)).toNat) x.cells)))=_;rw[EK];simp[List.map_set]
 ·have hb:¬ (i:Int)<(p.length:Int)-1-i:=by simpa using hb
  conv=>whnf
  rw[wq ⟨hm,hT⟩ (by omega)];exact cd [] [] [(1000000,.arr 2 (.dd (p.reverse.map Span.cells)))] rfl ⟨rfl,trivial⟩ rfl ⟨⟨rfl,rfl⟩,rfl⟩
theorem Ox(p:List bK)(hp:p.length<1000000)(h0:p ≠ []):sU Tryz.prog 125 [.d (gq p)] [] fun v h'=>v = .sl 2000000 8 0 p.length/\h' = [(2000000,.arr 8 (.dd (p.map bK.cells)))]:=by
 intro σ Y s;refine cX mixed ao Tryz.func125 rfl (ft:=KE) (args:=[.d (gq p)]) (show qC KE Tryz.f125 1=true from by decide +kernel) ?_;conv=>whnf
 refine⟨fun b hb=>?_⟩
 cases b with
 | true=>exact absurd (hb (by cases p with
   | nil=>exact absurd rfl h0
   | cons a r=>simp)) (by simp)
 | false=>
  conv=>whnf
  refine ny.mk rfl ?_;conv=>whnf
  refine bc (by
   show(fE 8 (p.map bK.cells)&&true)=true;rw[dG (fun x=>⟨rfl,rfl⟩)];rfl) ?_
  conv=>whnf
  refine bc (by simp[a7.len,a7.part];omega) ?_;conv=>whnf
  refine cd [7] [.sl 2000000 8 0 p.length] [(2000000,.arr 8 (.dd (p.map bK.cells)))] ?_ ?_ rfl ⟨⟨rfl,rfl⟩,rfl⟩
  ·show [V.sl 7 8 0 p.length] = [V.sl 7 8 0 (0+(p.map bK.cells).length)]
   simp
  ·exact⟨rfl,trivial⟩
theorem Oz(p:List bK)(hp:p.length<1000000):sU Tryz.prog 127 [.sl 1000000 8 0 p.length] [(1000000,.arr 8 (.dd (p.map bK.cells)))] fun v h'=>v = .d (.tup [])/\h' = [(1000000,.arr 8 (.dd (p.reverse.map bK.cells)))]:=by
 intro σ Y s;refine cX mixed ao Tryz.func127 rfl (ft:=KG) (args:=[.sl 1000000 8 0 p.length]) (show qC KG Tryz.f127 1=true from by decide +kernel) ?_;conv=>whnf
 refine af ?_;conv=>whnf
 refine bP (T:=tys) ao (by exact ai mixed ao (by decide +kernel)) (α:=Nat×List bK)
  (fun x=>⟨[(0,.sl 1000000 8 0 p.length),(2,.d (i64 x.1)),(3,.d (i64 ((p.length:Int)-1-x.1)))],[(1000000,.arr 8 (.dd (x.2.map bK.cells)))],s⟩)
  (fun x=>2*x.1<=p.length+1/\uE p x.2 x.1) (fun x=>p.length-x.1) (0,p)
  (Wk.sub ⟨rfl,rfl,by simp[PX.get],trivial⟩ ⟨rfl,trivial⟩) ⟨by simp,rfl,fun k hk=>by simp;omega⟩ ?_
 rintro ⟨i,m⟩ ⟨hi,hm,hT⟩;simp only at hi hm hT;conv=>whnf
 refine ag (fun hb=>?_) (fun hb=>?_)
 ·have hb:(i:Int)<(p.length:Int)-1-i:=by simpa using hb
  obtain⟨j,hj⟩:∃ j:Nat,i+j+1=p.length:=⟨p.length-1-i,by omega⟩;have EK:((p.length:Int)-1-(i:Int)).toNat=j:=by omega
  have AQ:m[i]?=some m[i]:=List.getElem?_eq_getElem (by omega);have MG:m[j]?=some m[j]:=List.getElem?_eq_getElem (by omega);generalize m[i]=x at *;generalize m[j]=y at *;obtain⟨Hb,VA⟩:=tG ⟨hm,hT⟩ hj (by omega) AQ MG;conv=>whnf
  refine bc (by simp;omega) ?_;conv=>whnf
  refine cR y.cells (by simp[EK,MG]) ?_;conv=>whnf
  refine bc (by simp;omega) ?_;conv=>whnf
  refine cR x.cells (by simp[AQ]) ?_;conv=>whnf
  refine bc (by simp;omega) ?_;conv=>whnf
  refine cR x.cells (by simp[AQ]) ?_;conv=>whnf
  refine bc (by simp;omega) ?_;conv=>whnf
  refine cR y.cells (by
   show((m.map bK.cells).set (0+(i:Int).toNat) y.cells)[0+((p.length:Int)-1-(i:Int)).toNat]?=_;rw[EK,List.getElem?_set_ne (by simp;omega)];simp[MG]) ?_
  conv=>whnf
  refine aA (((i+1:Nat):Int)) (by(try dsimp only);omega) (wrap_i64 (by(try dsimp only);omega)) ?_;conv=>whnf
  refine aA ((p.length:Int)-1-((i+1:Nat):Int)) (by(try dsimp only);omega) (wrap_i64 (by(try dsimp only);omega)) ?_;conv=>whnf
  refine⟨(i+1,(m.set i y).set j x),by simp only;omega,⟨by simp only;omega,Hb,VA⟩,Wk.sub ⟨rfl,rfl,rfl,trivial⟩ ⟨?_,trivial⟩⟩;show some (Obj.arr 8 (.dd (((m.map bK.cells).set (0+(i:Int).toNat) y.cells).set (0+((p.length:Int)-1-(i:Int)).toNat) x.cells)))=_;rw[EK];simp[List.map_set]
 ·have hb:¬ (i:Int)<(p.length:Int)-1-i:=by simpa using hb
  conv=>whnf
  rw[wq ⟨hm,hT⟩ (by omega)];exact cd [] [] [(1000000,.arr 8 (.dd (p.reverse.map bK.cells)))] rfl ⟨rfl,trivial⟩ rfl ⟨⟨rfl,rfl⟩,rfl⟩
def Qk:FT:=⟨[0,1,2,6,7,9,29,30,31,32,46],[(2,⟨[101088,101536],[⟨[0],[]⟩,⟨[13],[]⟩,⟨[14],[]⟩,⟨[15],[]⟩,⟨[16],[]⟩,⟨[0],[0,1,2,3,4]⟩,⟨[18],[0,1,2,3,4]⟩,⟨[19],[0,1,2,3,4]⟩,⟨[20],[0,1,2,3,4]⟩,⟨[21],[0,1,2,3,4]⟩,⟨[22],[0,1,2,3,4]⟩,⟨[23],[]⟩,⟨[7],[]⟩,⟨[17,25],[]⟩,⟨[7],[]⟩,⟨[26],[]⟩,⟨[27],[]⟩,⟨[24,28],[]⟩]⟩),(6,⟨[],[⟨[7],[]⟩,⟨[35],[]⟩,⟨[9],[0,1]⟩,⟨[0],[0,1,2]⟩,⟨[38],[0,1,2]⟩,⟨[39],[0,1,2]⟩,⟨[40],[0,1,2]⟩,⟨[9],[0,1,2,3,4,5,6]⟩,⟨[41,42],[0,1,2]⟩,⟨[36,37],[]⟩,⟨[43,44],[]⟩]⟩)]⟩
def newAt(c:Case)(i:Int):Span:=match c.chain.av[i.toNat]? with
 | some s=>s.new
 | none=>⟨0,0⟩
def iz(c:Case)(th:List Span)(w:List Int):List Span:=w.foldl (fun t i=>t.set i.toNat (newAt c i)) th
def jt(c:Case)(rev:Bool):Case:=if rev then { c with chain:={ c.chain with av:=c.chain.av.reverse } } else c
def ln(th:List Span)(rev:Bool):List Span:=if rev then th.reverse else th
theorem qI{P:Program}{e:Env}{h:aq}{d:Option Nat}{f:FuncId}{args:List V}{args0:List V}{v0:V}{h1:aq}(hf:sU P f args0 [] fun v h'=>v=v0/\h'=h1)(bR:kU (ck [] (d.getD 0)) args0=args)
  (hB:fA [] d v0 h1=true) {K:List Wr->Prop} (hk:K (cO [] d v0 h1)):dh P e h d f args K:=
 z9 hf [] bR rfl hB hk
theorem OP(c:Case)(th:List Span)(w:List Int)(rev:Bool)(h:ke c th)(hw:∀ i∈w,0<=i/\i<c.chain.av.length)(NO:w.length<1000000) :
  aX Tryz.prog 89 [mD c th (bI c.chain.av 0),bS w,.bool rev] (mD (jt c rev) (ln (iz c th w) rev) (bI c.chain.av 0)):=by
 refine aB Tryz.func89 rfl (ft:=Qk) 3 fun {σ} Y st=>?_;have NG:=h.case.lens
 have dI:=h.len;conv=>whnf
 refine qI (args0:=[.d (cw th)]) (Ow th (by omega) (by intro h0;subst h0;simp at dI;omega)) rfl rfl ?_;conv=>whnf
 refine qI (args0:=[.d (gq c.chain.av)]) (Ox c.chain.av (by omega) (by intro h0;rw[h0]at NG;simp at NG)) rfl rfl ?_;conv=>whnf
 have hT0:th.length=c.chain.av.length:=dI;refine ba (T:=tys) ao (by exact ai mixed ao (by decide +kernel)) w (fun i (t:List Span)=>⟨[(0,.d (mD c th (bI c.chain.av 0))),(2,.d (.bool rev)),(7,.ptr 7 0),(29,.d (bS w)),(30,.d (i64 w.length)),(31,.d (i64 i))],
   [(7,.box (.vv (.sl 101536 8 0 c.chain.av.length::inj c.cells.tail ++ [.sl 101088 2 0 t.length,.d (.mv (bI c.chain.av 0))]))),(101088,.arr 2 (.dd (t.map Span.cells))),(101536,.arr 8 (.dd (c.chain.av.map bK.cells)))],st⟩)
  (fun i r t=>(∀ n∈r,0<=n/\n<c.chain.av.length)/\t.length=th.length/\iz c th w=r.foldl (fun t i=>t.set i.toNat (newAt c i)) t) th
  aI ⟨hw,rfl,rfl⟩ ?_ ?_
 ·intro i x r t hx hi hr ⟨hm,M8,he⟩
  obtain⟨x0,x1⟩:=hm x (by simp);have BY:x.toNat<c.chain.av.length:=by omega
  have XL:c.chain.av[x.toNat]?=some c.chain.av[x.toNat]:=List.getElem?_eq_getElem BY;have WE:t[x.toNat]?=some t[x.toNat]:=List.getElem?_eq_getElem (by omega);have BV:=s9 c.chain.av 0 x.toNat 0 _ XL;have rk:newAt c x=c.chain.av[x.toNat].new:=by simp[newAt,XL]
  rw[List.foldl_cons,rk]at he;rw[show(0:Int)+(x.toNat:Int)=x by omega]at BV;generalize c.chain.av[x.toNat]=s at *;generalize t[x.toNat]=u at *;conv=>whnf
  refine ag (fun _=>?_) (fun h=>absurd hi (by simpa using h));conv=>whnf
  refine au hx ?_;conv=>whnf
  refine⟨_,BV,?_⟩;conv=>whnf
  refine bc (by simp;omega) ?_;conv=>whnf
  refine cR u.cells (by simp[WE]) ?_;conv=>whnf
  refine af ?_;conv=>whnf
  refine⟨t.set x.toNat s.new,⟨fun n hn=>hm n (by simp[hn]),by simp[M8],he⟩,Wk.sub ⟨rfl,rfl,rfl,rfl,rfl,rfl,trivial⟩ ⟨?_,?_,rfl,trivial⟩⟩
  ·simp only[List.length_set];rfl
  ·show some (Obj.arr 2 (.dd ((t.map Span.cells).set (0+x.toNat) s.new.cells)))=_
   rw[List.map_set,Nat.zero_add]
 ·intro t ⟨_,M8,he⟩
  have he:iz c th w=t:=he;rw[he];conv=>whnf
  refine ag (fun h=>absurd h (by simp)) (fun _=>?_);conv=>whnf
  cases rev with
  | false=>
   conv=>whnf
   refine an 2 (ds:=[mD (jt c false) (ln t false) (bI c.chain.av 0)]) (aG (sR rfl (aG (eK (es':=c.chain.av.map bK.cells) rfl rfl (by simp)) (iZ (a:=c.cells.tail) (aG (eK (es':=t.map Span.cells) rfl rfl (by simp)) rfl)))) rfl) ⟨⟨rfl,rfl⟩,rfl⟩
  | true=>
   conv=>whnf
   refine qG (Oy t (by omega)) [101088] rfl ⟨_,_,rfl,rfl,rfl⟩ rfl ?_;conv=>whnf
   refine qG (Oz c.chain.av (by omega)) [101536] rfl ⟨_,_,rfl,rfl,rfl⟩ rfl ?_;conv=>whnf
   refine an 2 (ds:=[mD (jt c true) (ln t true) (bI c.chain.av 0)]) (aG (sR rfl (aG (eK (es':=c.chain.av.reverse.map bK.cells) rfl rfl (by simp)) (iZ (a:=c.cells.tail) (aG (eK (es':=t.reverse.map Span.cells) rfl rfl (by simp)) rfl)))) rfl) ⟨⟨rfl,rfl⟩,rfl⟩
theorem gb.Kj{c:Case}(h:gb c)(rev:Bool):gb (jt c rev):=by
 cases rev with
 | false=>exact h
 | true=>exact⟨by simpa[jt]using h.lens,h.R6,h.tS,h.fC,h.err,h.hold,fun s hs=>h.av s (by simpa[jt]using hs),h.rows,h.dj,h.day,h.Dh,h.aD⟩
theorem ya{c:Case}{th:List Span}(h:ke c th):∀ (w:List Int) (t:List Span),t.length=th.length->(∀ s∈t,(0<=s.lo/\s.lo<=1000000)/\(0<=s.hi/\s.hi<=1000000)) ->
  (w.foldl (fun t i=>t.set i.toNat (newAt c i)) t).length=th.length /\ ∀ s∈w.foldl (fun t i=>t.set i.toNat (newAt c i)) t,(0<=s.lo/\s.lo<=1000000)/\(0<=s.hi/\s.hi<=1000000)
 | [],t,hl,ht=>⟨hl,ht⟩
 | i::r,t,hl,ht=>by
  rw[List.foldl_cons];refine ya h r _ (by simp[hl]) fun s hs=>?_;rcases List.mem_or_eq_of_mem_set hs with hs|rfl
  ·exact ht s hs
  ·unfold newAt
   split
   ·rename_i x hx
    have:=(h.case.av x (List.mem_of_getElem? hx)).1.new;omega
   ·exact⟨by simp,by simp⟩
theorem ke.Kj{c:Case}{th:List Span}(h:ke c th)(w:List Int)(rev:Bool):ke (jt c rev) (ln (iz c th w) rev):=by
 obtain⟨h1,h2⟩:=ya h w th rfl h.th;refine⟨h.case.Kj rev,?_,fun s hs=>h2 s ?_⟩
 ·cases rev<;>simp[jt,ln,iz,h1,h.len]
 ·cases rev with
  | false=>exact hs
  | true=>exact List.mem_reverse.1 hs
def jH(c:Case)(th:List Span)(q:List Int):Bool×Bool:=
 if (ew (jt c false) (ln (iz c th q) false) 1).length>0 then (false,true)
 else if (ew (jt c true) (ln (iz c th q) true) 1).length>0 then (true,true) else (false,false)
theorem TJ(c:Case)(th:List Span)(q:List Int)(h:ke c th)(hw:∀ i∈q,0<=i/\i<c.chain.av.length)(NO:q.length<1000000) :
  aX Tryz.prog 88 [bS q,.ref [mD c th (bI c.chain.av 0)]] (.tup [.bool (jH c th q).1,.bool (jH c th q).2]):=by
 refine aB Tryz.func88 rfl (ft:=UY) 2 fun {σ} Y st=>?_;conv=>whnf
 refine bP (T:=tys) ao (by exact ai mixed ao (by decide +kernel)) (α:=Nat)
  (fun x=>⟨[(0,.d (bS q)),(1,.d (.ref [mD c th (bI c.chain.av 0)])),(7,.sl 7 1 0 2),(8,.d (i64 2)),(9,.d (i64 x))],[(7,.arr 1 (.dd [[.bool false],[.bool true]]))],st⟩)
  (fun x=>x=0\/(x=1/\¬ (ew (jt c false) (ln (iz c th q) false) 1).length>0)\/(x=2/\jH c th q=(false,false))) (fun x=>2-x) 0
  aI (.inl rfl) ?_
 intro n hn;rcases hn with rfl|⟨rfl,h1⟩|⟨rfl,h1⟩
 ·conv=>whnf
  refine ah (ds:=[mD c th (bI c.chain.av 0),bS q,.bool false]) (OP c th q false h hw NO) rfl rfl ?_;conv=>whnf
  refine ah (ds:=[mD (jt c false) (ln (iz c th q) false) (bI c.chain.av 0),i64 1]) (IZ (jt c false) (ln (iz c th q) false) (bI c.chain.av 0) 1 (h.Kj q false)) rfl rfl ?_;obtain⟨l,hl⟩:∃ x,x=ew (jt c false) (ln (iz c th q) false) 1:=⟨_,rfl⟩;rw[<- hl];conv=>whnf
  refine ag (fun h2=>?_) (fun h2=>?_)
  ·have h2:l.length>0:=by have:=of_decide_eq_true h2;simpa using this
   have hE:jH c th q=(false,true):=by rw[jH,<- hl,if_pos h2]
   rw[hE];conv=>whnf
   exact ae
  ·have h2:¬ l.length>0:=by have:=of_decide_eq_false h2;simpa using this
   conv=>whnf
   refine af ?_;conv=>whnf
   exact⟨1,by simp,.inr (.inl ⟨rfl,hl▸h2⟩),aI⟩
 ·conv=>whnf
  refine ah (ds:=[mD c th (bI c.chain.av 0),bS q,.bool true]) (OP c th q true h hw NO) rfl rfl ?_;conv=>whnf
  refine ah (ds:=[mD (jt c true) (ln (iz c th q) true) (bI c.chain.av 0),i64 1]) (IZ (jt c true) (ln (iz c th q) true) (bI c.chain.av 0) 1 (h.Kj q true)) rfl rfl ?_;obtain⟨l,hl⟩:∃ x,x=ew (jt c true) (ln (iz c th q) true) 1:=⟨_,rfl⟩;rw[<- hl];conv=>whnf
  refine ag (fun h2=>?_) (fun h2=>?_)
  ·have h2:l.length>0:=by have:=of_decide_eq_true h2;simpa using this
   have hE:jH c th q=(true,true):=by rw[jH,<- hl,if_neg h1,if_pos h2]
   rw[hE];conv=>whnf
   exact ae
  ·have h2:¬ l.length>0:=by have:=of_decide_eq_false h2;simpa using this
   conv=>whnf
   refine af ?_;conv=>whnf
   exact⟨2,by simp,.inr (.inr ⟨rfl,by rw[jH,<- hl,if_neg h1,if_neg h2]⟩),aI⟩
 ·conv=>whnf
  rw[h1];exact ae
def lG(c:Case):(List Int×Bool)×Int:=
 if cr c (bx c).2.2=0 then (match kX (jH c (aM c)) c.chain.av.length with
  | some (q,y)=>((q,y),0)
  | none=>(([],false),9)) else (([],false),cr c (bx c).2.2)
theorem Tu(c:Case):aX Tryz.prog 46 [c.d] (.tup [bS (lG c).1.1,.bool (lG c).1.2,i64 (lG c).2]):=by
 refine aB Tryz.func46 rfl (ft:=Ur) 1 fun {σ} Y st=>?_;conv=>whnf
 refine ah (GB c) rfl rfl ?_;conv=>whnf
 refine ah (xz c (bx c).2.2 (fun h=>eV h)) rfl rfl ?_;conv=>whnf
 unfold tl;by_cases h1:cr c (bx c).2.2=0
 ·obtain⟨h0,hs⟩:=gI h1
  have hR:=eV h0;have hM:=la hR;have hlen:=hR.lens;rw[if_pos h1,h1];conv=>whnf
  have n4:tX 88 [.ref [mD c (aM c) (bI c.chain.av 0)]] (jH c (aM c)) c.chain.av.length:=fun q hq ZA=>TJ c (aM c) q hM hq (by omega);refine w8 1 [5] ?_;refine xa (e':=[(2,.d .nils),(3,.d (.bool false)),(4,.d (i64 0))]) (h':=[]) (args':=[.d (i64 c.chain.av.length),.d (.clo 88 [.ref [mD c (aM c) (bI c.chain.av 0)]])]) ⟨rfl,rfl,rfl,trivial⟩ trivial (by simp only[List.length_map];rfl) ?_;refine qH (TI 88 [.ref [mD c (aM c) (bI c.chain.av 0)]] (jH c (aM c)) c.chain.av.length (by omega) n4 Y st) [] rfl rfl rfl rfl ?_;rintro v za s' ⟨rfl,rfl,hv⟩
  cases hF:kX (jH c (aM c)) c.chain.av.length with
  | some r=>
   obtain⟨q,y⟩:=r;rw[hF]at hv;simp only at hv;subst hv;have hE:lG c=((q,y),0):=by simp[lG,h1,hF]
   rw[hE];refine⟨rfl,?_⟩;conv=>whnf
   exact ae
  | none=>
   rw[hF]at hv;obtain⟨y,rfl⟩:=hv;have hE:lG c=(([],false),9):=by simp[lG,h1,hF]
   rw[hE];refine⟨rfl,?_⟩;conv=>whnf
   refine gM ?_;exact ae
 ·have hE:lG c=(([],false),cr c (bx c).2.2):=by simp[lG,h1]
  rw[hE,if_neg h1];conv=>whnf
  refine ag (fun _=>?_) (fun h=>absurd h (by simpa using h1));conv=>whnf
  refine gM ?_;exact ae
def JH(b:Bool):bK:=⟨⟨#[108,111,119]⟩,10,0,⟨20000,21000⟩,⟨2,4⟩,⟨100,20200⟩::(if b then [⟨200,18000⟩] else [])⟩
def DN:bK:=⟨⟨#[104,105,103,104]⟩,10,0,⟨18000,18000⟩,⟨5,5⟩,[]⟩
def bG(b:Bool):Case:=⟨⟨[JH b,DN],10,20,100,⟨9000,12000⟩,[⟨30,500⟩,⟨60,1000⟩]⟩,⟨200,300,10,5⟩,1000,[⟨⟨20,30⟩,⟨20,40⟩,⟨0,20⟩,⟨0,5⟩⟩,⟨⟨20,30⟩,⟨0,10⟩,⟨0,10⟩,⟨10,15⟩⟩]⟩
set_option maxHeartbeats 2000000 in
theorem se(b:Bool):aX Tryz.prog 38 [.bool b] (bG b).d:=by
 refine aX.gh (r:=.agg ((.vs [(JH b).cells,DN.cells.take 7 ++ [.nils]])::(bG b).cells.tail)) ?_ (by cases b<;>rfl)
 cases b with
 | false=>
  refine aB Tryz.func38 rfl (ft:=Qb) 1 fun {σ} Y st=>?_;conv=>whnf
  refine ah (ij 20000 21000) rfl rfl ?_;conv=>whnf
  refine ah (ij 2 4) rfl rfl ?_;conv=>whnf
  refine ah (ij 18000 18000) rfl rfl ?_;conv=>whnf
  refine ah (ij 5 5) rfl rfl ?_;conv=>whnf
  refine al (ij 9000 12000) rfl rfl ?_;conv=>whnf
  refine al (ij 20 30) rfl rfl ?_;conv=>whnf
  refine al (ij 20 40) rfl rfl ?_;conv=>whnf
  refine al (ij 0 20) rfl rfl ?_;conv=>whnf
  refine al (ij 0 5) rfl rfl ?_;conv=>whnf
  refine al (ij 20 30) rfl rfl ?_;conv=>whnf
  refine al (ij 0 10) rfl rfl ?_;conv=>whnf
  refine al (ij 0 10) rfl rfl ?_;conv=>whnf
  refine al (ij 10 15) rfl rfl ?_;conv=>whnf
  exact an 4 (ds:=[.agg ((.vs [(JH false).cells,DN.cells.take 7 ++ [.nils]])::(bG false).cells.tail)]) rfl ⟨⟨rfl,rfl⟩,rfl⟩
 | true=>
  refine aB Tryz.func38 rfl (ft:=Qb) 1 fun {σ} Y st=>?_;conv=>whnf
  refine ah (ij 20000 21000) rfl rfl ?_;conv=>whnf
  refine ah (ij 2 4) rfl rfl ?_;conv=>whnf
  refine aK rfl ?_;conv=>whnf
  refine aK rfl ?_;conv=>whnf
  refine ah (ij 18000 18000) rfl rfl ?_;conv=>whnf
  refine ah (ij 5 5) rfl rfl ?_;conv=>whnf
  refine al (ij 9000 12000) rfl rfl ?_;conv=>whnf
  refine al (ij 20 30) rfl rfl ?_;conv=>whnf
  refine al (ij 20 40) rfl rfl ?_;conv=>whnf
  refine al (ij 0 20) rfl rfl ?_;conv=>whnf
  refine al (ij 0 5) rfl rfl ?_;conv=>whnf
  refine al (ij 20 30) rfl rfl ?_;conv=>whnf
  refine al (ij 0 10) rfl rfl ?_;conv=>whnf
  refine al (ij 0 10) rfl rfl ?_;conv=>whnf
  refine al (ij 10 15) rfl rfl ?_;conv=>whnf
  exact an 4 (ds:=[.agg ((.vs [(JH true).cells,DN.cells.take 7 ++ [.nils]])::(bG true).cells.tail)]) rfl ⟨⟨rfl,rfl⟩,rfl⟩
def lL:dL:=⟨30,40,20,5,9000,[16500,13000]⟩
theorem OL:aX Tryz.prog 44 [] lL.d:=by
 refine aB Tryz.func44 rfl (ft:=Up) 0 fun {σ} Y st=>?_;conv=>whnf
 exact an 2 (ds:=[lL.d]) rfl ⟨⟨rfl,rfl⟩,rfl⟩
theorem XY:oG (bG false) 0 1000=(⟨16500,18500⟩,0):=by decide +kernel
theorem XZ:qT (bG true) 0 = [1]:=by decide +kernel
theorem SW:gW (bG true) 0=0:=by decide +kernel
theorem X0:mq (bG false) 0=(⟨13612,17112⟩,0):=by decide +kernel
theorem X1:vU (bG false) 0 18=(4851,0):=by decide +kernel
theorem X2:rU (bG false) 10=((1,0,0),0):=by decide +kernel
theorem X3:rU (bG false) 20=((0,0,0),0):=by decide +kernel
theorem X4:rJ (bG false) 0 20=(lL.d,(0,0),0):=by rfl
theorem X5:IF (bG false) 0 20 lL=((0,0),0):=by decide +kernel
theorem X6:jV (bG false)=([⟨20,20⟩],0):=by decide +kernel
theorem SR:gp (bG false)=(20,0):=by decide +kernel
theorem SS:lG (bG false)=(([],false),0):=by decide +kernel
theorem SU:gp (bG true)=(0,8):=by decide +kernel
theorem SV:oG (bG true) 0 5=(⟨0,0⟩,9):=by decide +kernel
def v7(a b:dL):Bool:=decide (a.depth=b.depth)&&(decide (a.bf=b.bf)&&(decide (a.current=b.current)&&(decide (a.aW=b.aW)&&(decide (a.hold=b.hold)&&decide (a.dn=b.dn)))))
theorem TH(a b:dL)(h:a.dn.length<1000000):aX Tryz.prog 48 [a.d,b.d] (.bool (v7 a b)):=by
 refine aB Tryz.func48 rfl (ft:=Ut) 2 fun {σ} Y st=>?_;conv=>whnf
 by_cases h1:a.depth=b.depth
 ·rw[decide_eq_true h1]
  conv=>whnf
  by_cases h2:a.bf=b.bf
  ·rw[decide_eq_true h2]
   conv=>whnf
   by_cases h3:a.current=b.current
   ·rw[decide_eq_true h3]
    conv=>whnf
    by_cases h4:a.aW=b.aW
    ·rw[decide_eq_true h4]
     conv=>whnf
     by_cases h5:a.hold=b.hold
     ·rw[decide_eq_true h5]
      conv=>whnf
      refine ah (ds:=[bS a.dn,bS b.dn]) (LP a.dn b.dn h) rfl rfl ?_;conv=>whnf
      refine an 0 rfl ⟨⟨?_,rfl⟩,rfl⟩;simp[v7,bL,h1,h2,h3,h4,h5]
     ·rw[decide_eq_false h5]
      conv=>whnf
      refine an 0 rfl ⟨⟨?_,rfl⟩,rfl⟩;simp[v7,bL,h1,h2,h3,h4,h5]
    ·rw[decide_eq_false h4]
     conv=>whnf
     refine an 0 rfl ⟨⟨?_,rfl⟩,rfl⟩;simp[v7,bL,h1,h2,h3,h4]
   ·rw[decide_eq_false h3]
    conv=>whnf
    refine an 0 rfl ⟨⟨?_,rfl⟩,rfl⟩;simp[v7,bL,h1,h2,h3]
  ·rw[decide_eq_false h2]
   conv=>whnf
   refine an 0 rfl ⟨⟨?_,rfl⟩,rfl⟩;simp[v7,bL,h1,h2]
 ·rw[decide_eq_false h1]
  conv=>whnf
  refine an 0 rfl ⟨⟨?_,rfl⟩,rfl⟩;simp[v7,bL,h1]
theorem Ts:aX Tryz.prog 7 [] (.bool true):=by
 refine aB Tryz.func7 rfl (ft:=Yu) 0 fun {σ} Y st=>?_;conv=>whnf
 refine ah (se false) rfl rfl ?_;conv=>whnf
 refine ah (ds:=[(bG false).d,i64 0,i64 1000]) (OI (bG false) 0 1000) rfl rfl ?_;rw[XY];conv=>whnf
 refine ah (se true) rfl rfl ?_;conv=>whnf
 refine ah (ds:=[(bG true).d,i64 0]) (Tp (bG true) 0) rfl rfl ?_;rw[XZ,SW];conv=>whnf
 refine ah (se false) rfl rfl ?_;conv=>whnf
 refine ah (ds:=[(bG false).d,i64 0]) (Tq (bG false) 0) rfl rfl ?_;rw[X0];conv=>whnf
 refine ah (se false) rfl rfl ?_;conv=>whnf
 refine ah (ds:=[(bG false).d,i64 0,i64 18]) (Tt (bG false) 0 18) rfl rfl ?_;rw[X1];conv=>whnf
 refine ah (se false) rfl rfl ?_;conv=>whnf
 refine ah (ds:=[(bG false).d,i64 10]) (LQ (bG false) 10) rfl rfl ?_;rw[X2];conv=>whnf
 refine ah (se false) rfl rfl ?_;conv=>whnf
 refine ah (ds:=[(bG false).d,i64 20]) (LQ (bG false) 20) rfl rfl ?_;rw[X3];conv=>whnf
 refine ah (se false) rfl rfl ?_;conv=>whnf
 refine ah (ds:=[(bG false).d,i64 0,i64 20]) (Tv (bG false) 0 20) rfl rfl ?_;rw[X4];conv=>whnf
 refine ah (se false) rfl rfl ?_;conv=>whnf
 refine ah (OL) rfl rfl ?_;conv=>whnf
 refine ah (ds:=[(bG false).d,i64 0,i64 20,lL.d]) (Tw (bG false) 0 20 lL) rfl rfl ?_;rw[X5];conv=>whnf
 refine ah (se false) rfl rfl ?_;conv=>whnf
 refine ah (ds:=[(bG false).d]) (Tx (bG false)) rfl rfl ?_;rw[X6];conv=>whnf
 refine ah (se false) rfl rfl ?_;conv=>whnf
 refine ah (ds:=[(bG false).d]) (LR (bG false)) rfl rfl ?_;rw[SR];conv=>whnf
 refine ah (se false) rfl rfl ?_;conv=>whnf
 refine ah (ds:=[(bG false).d]) (Tu (bG false)) rfl rfl ?_;rw[SS];conv=>whnf
 refine ah (se true) rfl rfl ?_;conv=>whnf
 refine ah (ds:=[(bG true).d]) (LR (bG true)) rfl rfl ?_;rw[SU];conv=>whnf
 refine ah (se true) rfl rfl ?_;conv=>whnf
 refine ah (ds:=[(bG true).d,i64 0,i64 5]) (OI (bG true) 0 5) rfl rfl ?_;rw[SV];conv=>whnf
 refine al (ij 16500 18500) rfl rfl ?_;conv=>whnf
 refine aw (LP [1] [1] (by simp)) rfl 1 rfl ?_;conv=>whnf
 refine al (ij 13612 17112) rfl rfl ?_;conv=>whnf
 refine al (OL) rfl rfl ?_;conv=>whnf
 refine al (ds:=[lL.d,lL.d]) (TH lL lL (by decide)) rfl rfl ?_;conv=>whnf
 refine al (ij 20 20) rfl rfl ?_;conv=>whnf
 refine aw (OJ [⟨20,20⟩] [⟨20,20⟩] (by simp)) rfl 1 rfl ?_;conv=>whnf
 exact ae
def rM(c:Case):Int:=cr c (bx c).2.2
def fh(ok:Int->Bool):Nat->Int->Int->List Span
 | 0,_,_=>[]
 | r+1,k,a=>
  if ok k&&decide (a=0) then fh ok r (k+1) (k+1)
  else if !ok k&&decide (a>0) then ⟨a,k⟩::fh ok r (k+1) 0
  else fh ok r (k+1) a
theorem o8{ok:Int->Bool}{n:Nat}:∀ (r:Nat) (k a:Int) (acc:List Span),acc.length<n->tV ok n r k a acc=acc++(fh ok r k a).take (n-acc.length)
 | 0,k,a,acc,h=>by simp[tV,fh]
 | r+1,k,a,acc,h=>by
  rw[tV,fh];split
  ·exact o8 r _ _ _ h
  ·split
   ·split
    ·rename_i h1
     rw[show n-acc.length=1 by omega];simp
    ·rename_i h1
     have hl:(acc ++ [Span.mk a k]).length=acc.length+1:=by simp
     rw[o8 r _ _ _ (by rw[hl];omega),hl,List.append_assoc,show n-acc.length=(n-(acc.length+1))+1 by omega];simp
   ·exact o8 r _ _ _ h
def Lj:Int->List Span->Prop
 | _,[]=>True
 | b,s::r=>b<=s.lo/\s.lo<=s.hi/\Lj (s.hi+2) r
theorem Lj.Sf{b b':Int}(h:b'<=b):∀ {l:List Span},Lj b l->Lj b' l
 | [],_=>trivial
 | s::r,⟨h1,h2,h3⟩=>⟨by omega,h2,h3⟩
theorem tD{ok:Int->Bool}{k:Int}(h:ok k=true)(r:Nat):fh ok (r+1) k 0=fh ok r (k+1) (k+1):=by simp[fh,h]
theorem ye{ok:Int->Bool}{k a:Int}(h:ok k=false)(ha:0<a)(r:Nat):fh ok (r+1) k a=⟨a,k⟩::fh ok r (k+1) 0:=by simp[fh,h,ha]
theorem BD{ok:Int->Bool}{k a:Int}(h:ok k=true)(ha:0<a)(r:Nat):fh ok (r+1) k a=fh ok r (k+1) a:=by
 have:a≠0:=by omega
 simp[fh,h,this]
theorem yf{ok:Int->Bool}{k:Int}(h:ok k=false)(r:Nat):fh ok (r+1) k 0=fh ok r (k+1) 0:=by simp[fh,h]
theorem l7(ok:Int->Bool):∀ (r:Nat) (k a:Int),0<=k->(a=0->Lj (k+1) (fh ok r k a))/\(0<a/\a<=k->Lj a (fh ok r k a))
 | 0,k,a,_=>⟨fun _=>trivial,fun _=>trivial⟩
 | r+1,k,a,hk=>by
  refine⟨fun h=>?_,fun h=>?_⟩
  ·subst h
   cases eg:ok k with
   | true=>rw[tD eg];exact(l7 ok r (k+1) (k+1) (by omega)).2 (by omega)
   | false=>rw[yf eg];exact((l7 ok r (k+1) 0 (by omega)).1 rfl).Sf (by omega)
  ·cases eg:ok k with
   | true=>rw[BD eg h.1];exact(l7 ok r (k+1) a (by omega)).2 (by omega)
   | false=>rw[ye eg h.1];exact⟨Int.le_refl _,h.2,((l7 ok r (k+1) 0 (by omega)).1 rfl).Sf (by simp only;omega)⟩
def Nv(x:Int)(l:List Span):Prop:=∃ s∈l,s.lo<=x/\x<=s.hi
theorem o9(ok:Int->Bool)(x:Int):∀ (r:Nat) (k a:Int),0<=k->0<=a/\a<=k->(r=0->a=0)->(0<r->ok (k+r-1)=false) ->
  (Nv x (fh ok r k a)↔((0<a/\a<=x/\x<=k)\/(k+1<=x/\x<=k+r/\ok (x-1)=true)))
 | 0,k,a,hk,ha,h0,_=>by
  have:=h0 rfl;simp only[fh,Nv,List.not_mem_nil,false_and,exists_false,false_iff];omega
 | r+1,k,a,hk,ha,_,rj=>by
  have rj:=rj (by omega);rw[show k+((r+1:Nat):Int)-1=k+r by omega]at rj;have hx:∀ b,ok k=b->(x=k+1->ok (x-1)=b):=fun b hb h=>by rw[h,show k+1-1=k by omega,hb]
  cases eg:ok k with
  | true=>
   have hr:0<r:=by
    rcases Nat.eq_zero_or_pos r with h|h
    ·subst h;rw[show k+((0:Nat):Int)=k by omega,eg]at rj;cases rj
    ·exact h
   have hx:=hx true eg;by_cases VD:0<a
   ·rw[BD eg VD,o9 ok x r (k+1) a (by omega) (by omega) (by omega) (fun _=>by rw[show k+1+(r:Int)-1=k+r by omega];exact rj)]
    constructor
    ·rintro (h|⟨h1,h2,h3⟩)
     ·by_cases he:x=k+1
      ·exact .inr ⟨by omega,by omega,hx he⟩
      ·exact .inl (by omega)
     ·exact .inr ⟨by omega,by omega,h3⟩
    ·rintro (h|⟨h1,h2,h3⟩)
     ·exact .inl (by omega)
     ·by_cases he:x=k+1
      ·exact .inl (by omega)
      ·exact .inr ⟨by omega,by omega,h3⟩
   ·have QU:a=0:=by omega
    subst QU;rw[tD eg,o9 ok x r (k+1) (k+1) (by omega) (by omega) (by omega) (fun _=>by rw[show k+1+(r:Int)-1=k+r by omega];exact rj)];constructor
    ·rintro (h|⟨h1,h2,h3⟩)
     ·exact .inr ⟨by omega,by omega,hx (by omega)⟩
     ·exact .inr ⟨by omega,by omega,h3⟩
    ·rintro (h|⟨h1,h2,h3⟩)
     ·omega
     ·by_cases he:x=k+1
      ·exact .inl (by omega)
      ·exact .inr ⟨by omega,by omega,h3⟩
  | false=>
   have hx:=hx false eg;have ef:ok (x-1)=true->x≠k+1:=fun h he=>by rw[hx he]at h;cases h
   have ih:=o9 ok x r (k+1) 0 (by omega) (by omega) (by omega) (fun _=>by rw[show k+1+(r:Int)-1=k+r by omega];exact rj);by_cases VD:0<a
   ·rw[ye eg VD]
    have e:Nv x (⟨a,k⟩::fh ok r (k+1) 0)↔((a<=x/\x<=k)\/Nv x (fh ok r (k+1) 0)):=by
     simp[Nv]
    rw[e,ih];constructor
    ·rintro (h|h|⟨h1,h2,h3⟩)
     ·exact .inl (by omega)
     ·omega
     ·exact .inr ⟨by omega,by omega,h3⟩
    ·rintro (h|⟨h1,h2,h3⟩)
     ·exact .inl (by omega)
     ·have:=ef h3
      exact .inr (.inr ⟨by omega,by omega,h3⟩)
   ·have QU:a=0:=by omega
    subst QU;rw[yf eg,ih];constructor
    ·rintro (h|⟨h1,h2,h3⟩)
     ·omega
     ·exact .inr ⟨by omega,by omega,h3⟩
    ·rintro (h|⟨h1,h2,h3⟩)
     ·omega
     ·have:=ef h3
      exact .inr ⟨by omega,by omega,h3⟩
def kW(c:Case)(th:List Span):List Span:=fh (et c th) (ca c.chain.av+1).toNat 0 0
theorem zJ(c:Case)(th:List Span){n:Int}(hn:1<=n):ew c th n=(kW c th).take n.toNat:=by
 unfold ew kW;have:=o8 (ok:=et c th) (n:=n.toNat) (ca c.chain.av+1).toNat 0 0 [] (by simp;omega);rw[show((n.toNat:Nat):Int)=n by omega]at this;simpa using this
theorem Af(c:Case)(th:List Span):Lj 1 (kW c th):=(l7 _ _ 0 0 (by omega)).1 rfl
theorem Ag{c:Case}(h:gb c)(th:List Span)(x:Int):Nv x (kW c th)↔(1<=x/\x<=ca c.chain.av/\(jA c th x).1=0):=by
 have hl:=vx h;unfold kW;rw[o9 (et c th) x _ 0 0 (by omega) (by omega) (by omega) (fun _=>by
  have:(0:Int)+((ca c.chain.av+1).toNat:Int)-1=ca c.chain.av:=by omega
  rw[this];simp[et])]
 constructor
 ·rintro (h|⟨h1,h2,h3⟩)
  ·omega
  ·simp only[et,Bool.and_eq_true,decide_eq_true_eq]at h3
   rw[show x-1+1=x by omega]at h3;exact⟨by omega,by omega,h3.2⟩
 ·rintro ⟨h1,h2,h3⟩
  refine .inr ⟨by omega,by omega,?_⟩;simp only[et,Bool.and_eq_true,decide_eq_true_eq];rw[show x-1+1=x by omega];exact⟨by omega,h3⟩
theorem C3{c:Case}(h:rM c=0):gp c=(match kW c (aM c) with | []=>(0,9)|s::r=>(s.lo,0)):=by
 have h':cr c (bx c).2.2=0:=h;unfold gp;rw[if_pos h',zJ c _ (by omega)];cases kW c (aM c)<;>rfl
theorem Kn{c:Case}(hR:gb c)(he:rM c=0){out:Int}(ho:1<=out/\out<=ca c.chain.av):rU c out=(jA c (aM c) out,0):=by
 have h':cr c (bx c).2.2=0:=he;obtain⟨h0,hs⟩:=gI h';have hg:rf c out false=0:=by
  unfold rf;rw[if_neg (by simp[h0]),if_neg (by simp),if_pos (bq.2 ho)]
 have:cr c (rf c out false)=0:=by rw[hg];simp[cr,hs]
 unfold rU;rw[if_pos this]
def q2(p0 p1:Int):D:=.agg [.int .u16 p0,.int .u16 p1]
theorem wu{a b k:Int}(hk:1<=k)(ha:0<=a)(h:a<=b):w7 a k<=w7 b k:=by
 unfold w7;rw[Int.tdiv_eq_ediv_of_nonneg (by omega),Int.tdiv_eq_ediv_of_nonneg (by omega)];exact Int.ediv_le_ediv (by omega) (by omega)
theorem Dc{a k:Int}(hk:1<=k)(ha:0<=a):0<=w7 a k:=by
 unfold w7;rw[Int.tdiv_eq_ediv_of_nonneg (by omega)];exact Int.ediv_nonneg (by omega) (by omega)
theorem Eg{a b k:Int}(h0:0<=a)(h:a<=b)(hk:0<=k):0<=a*a*k/\a*a*k<=b*b*k:=
 ⟨Int.mul_nonneg (Int.mul_nonneg h0 h0) hk,Int.mul_le_mul_of_nonneg_right (Int.mul_le_mul h h h0 (by omega)) hk⟩
theorem zN{a b:Int}(h0:0<=a)(h:a<=b):gA a<=gA b:=by
 unfold gA;have h1:0<=a*a:=Int.mul_nonneg h0 h0;have h2:a*a<=b*b:=Int.mul_le_mul h h h0 (by omega);rw[Int.tdiv_eq_ediv_of_nonneg h1,Int.tdiv_eq_ediv_of_nonneg (by omega)];exact Int.ediv_le_ediv (by omega) h2
structure FX(t t':dL):Prop where
 d:0<=t.depth/\t.depth<=t'.depth
 w:0<=t.bf/\t.bf<=t'.bf
 c:0<=t.current/\t.current<=t'.current
 s:0<=t.aW/\t.aW<=t'.aW
 h:0<=t'.hold/\t'.hold<=t.hold
 len:t.dn.length=t'.dn.length
 th:∀ (i:Nat) (a b:Int),t.dn[i]?=some a->t'.dn[i]?=some b->0<=b/\b<=a
theorem Fv{s:r4}{t t':dL}{out:Int}(hs:0<=s.bf/\0<=s.current/\0<=s.aW/\0<=s.wF)(hw:0<=t.bf/\t.bf<=t'.bf)(hc:0<=t.current/\t.current<=t'.current)(RF:0<=t.aW/\t.aW<=t'.aW)(ho:0<=out) :
  nj s t out<=nj s t' out:=by
 unfold nj;have h1:=Eg hw.1 hw.2 hs.1;have h2:=Eg hc.1 hc.2 hs.2.1;have h3:0<=t.aW*s.aW/\t.aW*s.aW<=t'.aW*s.aW:=⟨Int.mul_nonneg RF.1 hs.2.2.1,Int.mul_le_mul_of_nonneg_right RF.2 hs.2.2.1⟩;have h4:0<=s.wF*out:=Int.mul_nonneg hs.2.2.2 ho;have h5:=Dc (a:=t.bf*t.bf*s.bf+t.current*t.current*s.current) (k:=100) (by omega) (by omega);have h6:=wu (a:=t.bf*t.bf*s.bf+t.current*t.current*s.current) (b:=t'.bf*t'.bf*s.bf+t'.current*t'.current*s.current) (k:=100) (by omega) (by omega) (by omega);refine wu (by omega) (Int.mul_nonneg (by omega) (by omega)) (Int.mul_le_mul_of_nonneg_right (by omega) (by omega))
theorem By:∀ {l b:List Row} {i:Int},(a5 kI b l i).2=0->(∀ x∈l,(pO b).holds<x.holds/\1<=x.holds)/\l.Pairwise (fun a b=>a.holds<b.holds)
 | [],b,i,_=>⟨by simp,List.Pairwise.nil⟩
 | x::r,b,i,h=>by
  simp only[a5]at h;by_cases h0:kI b x=0
  ·rw[if_pos h0]at h
   obtain⟨h1,h2⟩:=By h;unfold kI at h0;split at h0
   ·rename_i py
    simp only[Bool.and_eq_true,bq]at py;split at h0
    ·exact absurd h0 (by decide)
    ·rename_i dI
     have hl:pO (b ++ [x])=x:=by simp[pO]
     rw[hl]at h1;refine⟨fun y hy=>?_,List.pairwise_cons.2 ⟨fun y hy=>(h1 y hy).1,h2⟩⟩;rcases List.mem_cons.1 hy with rfl|hy
     ·omega
     ·have:=h1 y hy;omega
   ·exact absurd h0 (by decide)
  ·rw[if_neg h0]at h
   exact absurd h h0
theorem Ew{c:Case}(h:(bx c).2.2=0):c.chain.rows.Pairwise (fun a b=>a.holds<b.holds):=by
 have h':=xl h;unfold iM at h';split at h'
 ·simp only at h'
  split at h'
  ·split at h'
   ·rename_i h1;exact(By h1).2
   ·rename_i h1;exact absurd h' h1
  ·rename_i h1;exact absurd h' h1
 ·rename_i h1;exact absurd h' h1
theorem xh{l:List Row}(hp:l.Pairwise (fun a b=>a.holds<b.holds))(h0:∀ r∈l,0<=r.holds){p q:Row->Bool}(FU:∀ r∈l,p r=true->q r=true):∀ {n:Nat},n<=l.length ->
  (((jj l n).find? fun x=>p x.2).getD (0,⟨0,0⟩)).2.holds<=(((jj l n).find? fun x=>q x.2).getD (0,⟨0,0⟩)).2.holds
 | 0,_=>by simp[jj]
 | n+1,hn=>by
  have hx:l[n]?=some l[n]:=List.getElem?_eq_getElem (by omega);have hm:l[n]∈l:=List.getElem_mem ..;have ih:=xh hp h0 FU (n:=n) (by omega);simp only[jj,List.find?_cons,hx,Option.getD_some]
  cases hq:q l[n]with
  | true=>
   cases K3:p l[n]with
   | true=>simp
   | false=>
    simp only[Option.getD_some]
    cases hf:(jj l n).find? fun x=>p x.2 with
    | none=>simp only[Option.getD_none];exact h0 _ hm
    | some y=>
     simp only[Option.getD_some];have hy:=List.mem_of_find?_eq_some hf;have:∀ {k:Nat},k<=n -> ∀ z∈jj l k,z.2.holds<=l[n].holds:=by
      intro k
      induction k with
      | zero=>intro _ z hz;cases hz
      | succ k ih=>
       intro hk z hz;simp only[jj,List.mem_cons]at hz;rcases hz with rfl|hz
       ·have jc:l[k]?=some l[k]:=List.getElem?_eq_getElem (by omega)
        simp only[jc,Option.getD_some];have:=(List.pairwise_iff_getElem.1 hp) k n (by omega) (by omega) (by omega);omega
       ·exact ih (by omega) z hz
     exact this (Nat.le_refl _) y hy
  | false=>
   have K3:p l[n]=false:=by
    cases h:p l[n]with
    | false=>rfl
    | true=>rw[FU _ hm h]at hq;cases hq
   simp only[K3];exact ih
theorem H4{c:Case}(hR:gb c)(hr:c.chain.rows.Pairwise (fun a b=>a.holds<b.holds)){t t':dL}(hd:0<=t.depth/\t.depth<=t'.depth)(hs:0<=t.aW/\t.aW<=t'.aW)(out:Int) :
  (qy c t' out).holds<=(qy c t out).holds:=by
 unfold qy;refine xh hr (fun r h=>by have:=hR.rows r h;omega) (fun r h hp=>?_) (Nat.le_refl _);unfold vY at hp ⊢;have hp:=of_decide_eq_true hp;refine decide_eq_true (Int.le_trans ?_ hp);have h1:=wu (a:=t.aW) (b:=t'.aW) (k:=2) (by omega) hs.1 hs.2;exact Int.mul_le_mul_of_nonneg_left (by omega) (by have:=hR.rows r h;omega)
theorem tg{fC pull HU out:Int}(hp:pull<=HU):∀ {l:List bK} {ts SP:List Int} {n i:Int},ts.length=SP.length->(∀ (k:Nat) (a b:Int),ts[k]?=some a->SP[k]?=some b->0<=b/\b<=a) ->
  (mM fC HU out l SP n i).1=0->mM fC pull out l ts n i=(0,0)
 | [],_,_,_,_,_,_,_=>rfl
 | s::r,[],_,_,_,_,_,_=>rfl
 | s::r,t::ts,[],_,_,hl,_,_=>by simp at hl
 | s::r,t::ts,t'::SP,n,i,hl,hb,h=>by
  simp only[mM]at h ⊢;by_cases h1:n≥out
  ·rw[if_pos h1]
  ·rw[if_neg h1]at h ⊢
   have h0:=hb 0 t t' rfl rfl;have pz:=zN h0.1 h0.2;by_cases h2:gA t'<HU+fC*min (n+s.ff) out
   ·rw[if_pos h2]at h;exact absurd h (by simp)
   ·rw[if_neg h2]at h
    rw[if_neg (by omega)];exact tg hp (by simpa using hl) (fun k a b ha kR=>hb (k+1) a b (by simpa using ha) (by simpa using kR)) h
theorem Cy{c:Case}(hR:gb c)(hr:c.chain.rows.Pairwise (fun a b=>a.holds<b.holds)){t t':dL}(h:FX t t'){out:Int}(ho:0<=out)(hb:(ku c t' out).1=0):ku c t out=(0,0):=by
 unfold ku at hb ⊢;obtain⟨s1,s2,s3,s4⟩:=hR.dj;have hp:=Fv (s:=c.dj) (t:=t) (t':=t') (out:=out) ⟨s1.1,s2.1,s3.1,s4.1⟩ h.w h.c h.s ho;have hh:=H4 hR hr h.d h.s out;have hn:=Ed hR t' out;have hm:t'.hold*(qy c t' out).holds<=t.hold*(qy c t out).holds:=Int.mul_le_mul h.h.2 hh hn.2.1 (by have:=h.h;omega);split at hb
 ·exact absurd hb (by decide)
 ·rename_i h1
  rw[if_neg (by omega)];exact tg hp h.len h.th hb
theorem uL{c:Case}{th:List Span}{out:Int}:∀ {l:List bB} {i:Int},(nM c th out l i).1=0 ↔ ∀ w∈l,(jE c th out w).1=0
 | [],i=>by simp[nM]
 | w::r,i=>by
  simp only[nM,List.forall_mem_cons];by_cases h:(jE c th out w).1=0
  ·rw[if_neg (by simp[h]),uL (l:=r)];simp[h]
  ·rw[if_pos h];simp[h]
end Go.PX
