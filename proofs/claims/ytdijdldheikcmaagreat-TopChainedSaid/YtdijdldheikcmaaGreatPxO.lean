import Derived.Test.YtdijdldheikcmaaGreatPxN
import Derived.Test.YtdijdldheikcmaaGreatPxI
import Derived.Test.YtdijdldheikcmaaGreatPxL
set_option linter.all false
set_option maxRecDepth 10000
namespace Go.PX
open Go.Proofs
theorem Dv{g:Nat->Option DO}{cs:List V}{l:List D}(h:cR g cs=some l):dI g (.agg cs)=some (.agg l):=by simp[dI,h]
theorem Wk.GB{σ:Type}{e:Env}{h:ar}{s:σ}(b k sz:Nat)(A B:List D){l:List D}(hk:Nat.blt k 1000000=true)(hs:Nat.blt 0 sz=true)(hb:get h b=some (.box (.dd l)))(hl:l=A ++ .nils::B)(kW:Nat.beq b k=false) :
  Wk (⟨e,h,s⟩:St σ) ⟨cj (aB (aU k)) e,put ((k,.arr sz (.dd []))::cj (Obj.aB (aU k)) (cut h k)) b (.box (.vv (inj A ++ .sl k sz 0 0::inj B))),s⟩:=by
 have hk:=Nat.le_of_ble_eq_true hk;have hs:=Nat.le_of_ble_eq_true hs;have eX:b≠k:=by rintro rfl;simp at kW
 have h1:Wk (⟨e,h,s⟩:St σ) ⟨cj (aB (aU k)) e,(k,.arr sz (.dd []))::cj (Obj.aB (aU k)) (cut h k),s⟩:=by
  intro cx r m L F a w hg;exact⟨_,F,hg.jI k sz (by unfold pinned;omega) hs (.dd []) rfl,Tr.refl F w⟩
 refine h1.trans (Wk.Cc b (o:=.box (.dd l)) _ (by rw[eM,if_neg eX,bC,dz,if_neg eX,hb];rfl) (fun yv L F w h=>?_) fun L hb=>hb);obtain⟨c,T,hc,hr⟩:=h;have hr:ak yv L F w (inj l) c.toList:=hr;rw[hl,lU]at hr;exact⟨c,T,hc,ak.AS k sz hs hr⟩
def fg(c:Case)(th:List Span)(w:cb):dU:=⟨w.depth.hi,w.bk.hi,w.current.hi,w.bm.hi,c.chain.hold.lo,th.map Span.lo⟩
def ON(s:Span):List D:=[i64 s.lo]
theorem MB(c:Case)(th:List Span)(fr:List (D×D))(w:cb)(hl:th.length<1000000) :
  aW Tryz.prog 79 [mD c th fr,w.d] (fg c th w).d:=by
 refine aA Tryz.func79 rfl (ft:=Sd) 2 fun {σ} Y st=>?_;conv=>whnf
 refine aZ (T:=tys) ao (by exact ah mixed ao (by decide +kernel)) th (fun i (_:Unit)=>⟨[(0,.d (mD c th fr)),(4,.ptr 4 0),(30,.d (dc th)),(31,.d (i64 th.length)),(32,.d (i64 i))],
   [(4,.box (.vv [.d (i64 w.depth.hi),.d (i64 w.bk.hi),.d (i64 w.current.hi),.d (i64 w.bm.hi),.d (i64 c.chain.hold.lo),.sl 41 1 0 i])),(41,.arr 1 (.dd ((th.take i).map ON)))],st⟩)
  (fun i r _=>True) ()
  ((Wk.GB 4 41 1 [i64 w.depth.hi,i64 w.bk.hi,i64 w.current.hi,i64 w.bm.hi,i64 c.chain.hold.lo] [] rfl rfl rfl rfl rfl).trans av) trivial ?_ ?_
 ·intro i x r _ hx hi hr _
  have u5:th.take (i+1)=th.take i ++ [x]:=by rw[List.take_succ,hx];rfl
  have dN:(th.take i).length=i:=by simp;omega
  have EP:min i th.length=i:=by simpa using dN
  conv=>whnf
  refine ai (fun _=>?_) (fun h=>absurd hi (by simpa using h));conv=>whnf
  refine ax hx ?_;conv=>whnf
  refine aL rfl ?_;conv=>whnf
  refine m5.mk (by simp[aI.len,EP]) ?_;conv=>whnf
  refine bo (by simp[aI.len,aI.part,aI.cons,V.cells,EP];omega) ?_;conv=>whnf
  refine ab ?_;conv=>whnf
  refine⟨(),trivial,Wk.sub ⟨rfl,rfl,rfl,rfl,rfl,trivial⟩ ⟨?_,?_,trivial⟩⟩
  ·show some (Obj.box (.vv [.d (i64 w.depth.hi),.d (i64 w.bk.hi),.d (i64 w.current.hi),.d (i64 w.bm.hi),.d (i64 c.chain.hold.lo),.sl 41 1 0 (((((th.take i).map ON).drop 0).take i).length+1)]))=_
   rw[List.drop_zero,List.take_of_length_le (by simp;omega)];simp only[List.length_map,dN]
  ·show some (Obj.arr 1 (.dd ((((th.take i).map ON).drop 0).take i ++ [ON x])))=_
   rw[List.drop_zero,List.take_of_length_le (by simp;omega),u5];simp
 ·intro _ _
  conv=>whnf
  refine ai (fun h=>absurd h (by simp)) (fun _=>?_);conv=>whnf
  have KK:th.take th.length=th:=List.take_of_length_le (by simp);refine al 3 (ds:=[.agg (fg c th w).cells]) (aF (Dv (aF rfl (aF rfl (aF rfl (aF rfl (aF rfl (aF (gx (es':=(th.map Span.lo).map fun n=>[i64 n]) rfl ?_ (by simp)) rfl))))))) rfl) ⟨⟨rfl,rfl⟩,rfl⟩;rw[KK];simp[ON]
def qT(gH pull out:Int):List bH->List Int->Int->Int->Int×Int
 | s::r,t::ts,n,i=>if n≥out then (0,0) else if kg t<pull+gH*min (n+s.eh) out then (2,i) else qT gH pull out r ts (n+s.eh) (i+1)
 | _,_,_,_=>(0,0)
def qS(c:Case)(t:dU)(out:Int):Int×Int:=
 if ql c.ee t out*1000>t.hold*(vh c t out).holds then (1,0) else qT c.chain.gH (ql c.ee t out) out c.chain.au t.dq 0 0
theorem MC(c:Case)(th:List Span)(fr:List (D×D))(t:dU)(out:Int)(hc:fU c)(ht:ib c.ee t)(ho:0<=out/\out<=1000)(hl:t.dq.length=c.chain.au.length)(hb:∀ n∈t.dq,bd n) :
  aW Tryz.prog 80 [mD c th fr,t.d,i64 out] (.tup [i64 (qS c t out).1,i64 (qS c t out).2]):=by
 refine aA Tryz.func80 rfl (ft:=Se) 3 fun {σ} Y st=>?_;conv=>whnf
 obtain⟨_,_,_,_,_,_,hp⟩:=zz ht ho;have KB:=(HX hc t out).2;have UD:=dP 200000 1000 ht.Pj KB;have hlen:=hc.lens;have Kf:=hc.gH;refine aj (ds:=[lN c.ee t,i64 out]) (My c.ee t out ht ho) rfl rfl ?_;conv=>whnf
 unfold qS;generalize ql c.ee t out=pull at *;refine ab ?_;conv=>whnf
 refine aj (ds:=[mD c th fr,t.d,i64 out]) (Mn c th fr t out hc ht ho) rfl rfl ?_;conv=>whnf
 refine ab ?_;conv=>whnf
 refine ai (fun h1=>?_) (fun h1=>?_)
 ·have h1:pull*1000>t.hold*(vh c t out).holds:=by simpa using h1
  conv=>whnf
  simp only[h1,if_true];exact af
 have h1:¬ pull*1000>t.hold*(vh c t out).holds:=by simpa using h1
 simp only[h1,if_false];conv=>whnf
 refine aZ (T:=tys) ao (by exact ah mixed ao (by decide +kernel)) c.chain.au (fun i (n:Int)=>⟨[(0,.d (mD c th fr)),(2,.d (i64 out)),(4,.ptr 4 0),(8,.d (i64 pull)),(9,.d (i64 n)),(37,.d (fQ c.chain.au)),(38,.d (i64 c.chain.au.length)),(39,.d (i64 i))],
   [(4,.box (.dd t.cells))],st⟩)
  (fun i r n=>(0<=n/\n<=i*40)/\(∀ s∈r,DV s)/\qT c.chain.gH pull out c.chain.au t.dq 0 0=qT c.chain.gH pull out r (t.dq.drop i) n i) 0
  av ⟨by omega,fun s hs=>(hc.au s hs).1,rfl⟩ ?_ ?_
 ·intro i x r n hx hi hr ⟨hn,hm,he⟩
  have Af:=(hm x (by simp)).eh;have eC:i<t.dq.length:=by omega
  have TO:t.dq[i]?=some t.dq[i]:=List.getElem?_eq_getElem eC;have Lo:=hb _ (List.getElem_mem eC);rw[List.drop_eq_getElem_cons eC,qT]at he;generalize t.dq[i]=v at *;have Xg:i<7:=by omega
  have Kn:=dP (a:=c.chain.gH) (b:=min (n+x.eh) out) 200 1000 Kf (by omega);conv=>whnf
  refine ai (fun _=>?_) (fun h=>absurd hi (by simpa using h));conv=>whnf
  refine ax hx ?_;conv=>whnf
  refine ai (fun h2=>?_) (fun h2=>?_)
  ·have h2:n≥out:=by simpa using h2
   simp only[h2,if_true]at he;conv=>whnf
   rw[he];exact af
  have h2:¬ n≥out:=by simpa using h2
  simp only[h2,if_false]at he;conv=>whnf
  refine ab ?_;conv=>whnf
  refine ax TO ?_;conv=>whnf
  refine aj (JP v Lo) rfl rfl ?_;conv=>whnf
  refine ab ?_;conv=>whnf
  refine ab ?_;conv=>whnf
  refine ai (fun h3=>?_) (fun h3=>?_)
  ·have h3:kg v<pull+c.chain.gH*min (n+x.eh) out:=by simpa using h3
   simp only[h3,if_true]at he;conv=>whnf
   rw[he];exact af
  ·have h3:¬ kg v<pull+c.chain.gH*min (n+x.eh) out:=by simpa using h3
   simp only[h3,if_false]at he;conv=>whnf
   refine ab ?_;conv=>whnf
   exact⟨n+x.eh,⟨by omega,fun s hs=>hm s (by simp[hs]),he⟩,av⟩
 ·rintro n ⟨_,_,he⟩
  rw[show ∀ ts n i,qT c.chain.gH pull out [] ts n i=(0,0) from fun ts n i=>by cases ts<;>rfl]at he;conv=>whnf
  refine ai (fun h=>absurd h (by simp)) (fun _=>?_);conv=>whnf
  rw[he];exact af
theorem Ga{c:Case}{th:List Span}(h:jq c th){w:cb}(hw:w∈c.aE):ib c.ee (fg c th w):=by
 obtain⟨hd,UZ,Uz,UT⟩:=h.case.aE w hw
 obtain⟨s1,s2,s3,s4⟩:=h.case.ee
 have hh:=h.case.hold
 exact⟨s1,s2,s3,s4,by simp only[fg];omega,by simp only[fg];omega,by simp only[fg];omega,by simp only[fg];omega,by simp only[fg];omega⟩
def lV(c:Case)(th:List Span)(out:Int)(w:cb):Int×Int:=qS c (fg c th w) out
def s7(c:Case)(th:List Span)(out:Int):List cb->Int->Int×Int×Int
 | [],_=>(0,0,0)
 | w::r,i=>if (lV c th out w).1≠0 then ((lV c th out w).1,i,(lV c th out w).2) else s7 c th out r (i+1)
def lH(c:Case)(th:List Span)(out:Int):Int×Int×Int:=s7 c th out c.aE 0
theorem Iz(c:Case)(th:List Span)(fr:List (D×D))(w:cb)(out:Int)(h:jq c th)(hw:w∈c.aE)(ho:0<=out/\out<=1000) :
  aW Tryz.prog 80 [mD c th fr,(fg c th w).d,i64 out] (.tup [i64 (lV c th out w).1,i64 (lV c th out w).2]):=
 MC c th fr (fg c th w) out h.case (Ga h hw) ho (by simp[fg,h.len]) (by
  intro n hn;simp only[fg,List.mem_map]at hn;obtain⟨s,hs,rfl⟩:=hn;have:=(h.th s hs).1;exact⟨by omega,by omega⟩)
theorem Mz(c:Case)(th:List Span)(fr:List (D×D))(out:Int)(h:jq c th)(ho:0<=out/\out<=1000) :
  aW Tryz.prog 53 [mD c th fr,i64 out] (vj (lH c th out)):=by
 refine aA Tryz.func53 rfl (ft:=RN) 2 fun {σ} Y st=>?_;conv=>whnf
 have PS:=h.case.Lj
 have DM:=h.case.lens
 have KK:=h.len;refine aZ (T:=tys) ao (by exact ah mixed ao (by decide +kernel)) c.aE (fun i (_:Unit)=>⟨[(0,.d (mD c th fr)),(1,.d (i64 out)),(13,.d (nH c.aE)),(14,.d (i64 c.aE.length)),(15,.d (i64 i))],[],st⟩)
  (fun i r _=>(∀ w∈r,w∈c.aE)/\lH c th out=s7 c th out r i) ()
  av ⟨fun _ h=>h,rfl⟩ ?_ ?_
 ·intro i x r _ hx hi hr ⟨hm,he⟩
  have TT:=hm x (by simp);rw[s7]at he;conv=>whnf
  refine ai (fun _=>?_) (fun h=>absurd hi (by simpa using h));conv=>whnf
  refine ax hx ?_;conv=>whnf
  refine ae (ds:=[mD c th fr,x.d]) (MB c th fr x (by omega)) rfl rfl ?_;conv=>whnf
  refine ae (ds:=[mD c th fr,(fg c th x).d,i64 out]) (Iz c th fr x out h TT ho) rfl rfl ?_;conv=>whnf
  refine ai (fun h2=>?_) (fun h2=>?_)
  ·have h2:(lV c th out x).1≠0:=by simpa using h2
   rw[if_pos h2]at he;conv=>whnf
   rw[he];exact af
  ·have h2:¬ (lV c th out x).1≠0:=by simpa using h2
   rw[if_neg h2]at he;conv=>whnf
   refine ab ?_;conv=>whnf
   exact⟨(),⟨fun s hs=>hm s (by simp[hs]),he⟩,av⟩
 ·rintro _ ⟨_,he⟩
  rw[s7]at he;conv=>whnf
  refine ai (fun h=>absurd h (by simp)) (fun _=>?_);conv=>whnf
  rw[he];exact af
theorem Ev(lo hi:Int):aW Tryz.prog 71 [i64 lo,i64 hi,.nils] (.bool false):=by
 refine aA Tryz.func71 rfl (ft:=NC) 3 fun {σ} Y st=>?_;conv=>whnf
 refine Ah ?_;refine ag (GS [] 110 [.ref [i64 lo],.ref [i64 hi]] (fun n=>decide (n<lo)||decide (n>hi)) (by simp) (fun x _=>MD x lo hi)) rfl 1 rfl ?_;conv=>whnf
 exact af
def pS(c:Case)(out:Int)(bad:Bool):Int:=
 if (bJ c).2.2≠0 then (bJ c).2.2 else if bad then 4 else if bc out 1 (bK c.chain.au) then 0 else 7
theorem tV{c:Case}(h:fU c):∀ s∈c.chain.au,bd s.eh:=fun s hs=>by
 have:=(h.au s hs).1.eh;exact⟨by omega,by omega⟩
theorem vZ:∀ {l:List bH},(∀ s∈l,1<=s.eh/\s.eh<=40)->(l.length:Int)<=bK l/\bK l<=40*l.length
 | [],_=>by simp[bK]
 | s::r,h=>by
  have h1:=h s (by simp);have h2:=vZ (l:=r) fun x hx=>h x (by simp[hx]);simp only[bK,List.length_cons];omega
theorem qb{c:Case}(h:fU c):1<=bK c.chain.au/\bK c.chain.au<=280:=by
 have h1:=vZ fun s hs=>(h.au s hs).1.eh;have h2:=h.lens;omega
theorem jz{c:Case}{out:Int}{bad:Bool}(h:pS c out bad=0):fU c/\bad=false/\1<=out/\out<=bK c.chain.au/\out<=1000:=by
 unfold pS at h;split at h
 ·rename_i h1;exact absurd h h1
 ·rename_i h1
  have hR:=fj (c:=c) (by simpa using h1);have hl:=qb hR;split at h
  ·cases h
  ·rename_i h2
   split at h
   ·rename_i h3
    rw[bg]at h3;exact⟨hR,by simpa using h2,by omega,by omega,by omega⟩
   ·cases h
theorem GQ(c:Case)(out:Int)(d:D)(bad:Bool)(hd:aW Tryz.prog 71 [i64 0,i64 ((c.aE.length:Int)-1),d] (.bool bad)) :
  aW Tryz.prog 52 [c.d,i64 out,d] (i64 (pS c out bad)):=by
 refine aA Tryz.func52 rfl (ft:=RM) 3 fun {σ} Y st=>?_;conv=>whnf
 refine ae (Er c) rfl rfl ?_;conv=>whnf
 unfold pS;by_cases h0:(bJ c).2.2=0
 ·have hR:=fj h0
  have hw:=hR.Lj;rw[h0];conv=>whnf
  refine aK ((c.aE.length:Int)-1) (by simp) (wrap_i64 (by omega)) ?_;conv=>whnf
  refine ae (ds:=[i64 0,i64 ((c.aE.length:Int)-1),d]) hd rfl rfl ?_;conv=>whnf
  cases bad with
  | true=>
   conv=>whnf
   rw[if_neg (by simpa using h0),if_pos rfl];exact af
  | false=>
   have hk:=tV hR;rw[if_neg (by simpa using h0),if_neg (by simp)];conv=>whnf
   refine ae (JQ c.chain (by have:=hR.lens;omega) hk) rfl rfl ?_;conv=>whnf
   refine ag (cK 1 (bK c.chain.au) out) rfl 1 rfl ?_;conv=>whnf
   refine ai (fun h3=>?_) (fun h3=>?_)
   ·have h3:bc out 1 (bK c.chain.au)=false:=by simpa using h3
    conv=>whnf
    rw[if_neg (by simp[h3])];exact af
   ·have h3:bc out 1 (bK c.chain.au)=true:=by simpa using h3
    conv=>whnf
    rw[if_pos h3];exact af
 ·conv=>whnf
  refine ai (fun _=>?_) (fun h=>absurd h (by simpa using h0));conv=>whnf
  rw[if_pos (by simpa using h0)];exact af
theorem Mv(n lo hi:Int):aW Tryz.prog 22 [i64 n,i64 lo,i64 hi] (.bool (bc n lo hi)):=by
 refine g8 mixed ao Tryz.func22 rfl (ft:=Ri) 3 (by decide +kernel) rfl fun {σ} Y s=>?_;conv=>whnf
 refine ai (fun hb=>?_) (fun hb=>?_)
 ·conv=>whnf
  refine al 0 rfl ⟨⟨?_,rfl⟩,rfl⟩;simp[bF,bc]at hb ⊢;simp[hb]
 ·conv=>whnf
  refine al 0 rfl ⟨⟨?_,rfl⟩,rfl⟩;simp[bF,bc]at hb ⊢;omega
theorem ME(n lo hi:Int):aW Tryz.prog 130 [i64 n,.ref [i64 lo],.ref [i64 hi]] (.bool (decide (n<lo)||decide (n>hi))):=by
 refine g8 mixed ao Tryz.func130 rfl (ft:=M6) 3 (by decide +kernel) rfl fun {σ} Y s=>?_;conv=>whnf
 refine ai (fun hb=>?_) (fun hb=>?_)
 ·conv=>whnf
  refine al 0 rfl ⟨⟨?_,rfl⟩,rfl⟩;have hb:n<lo:=by simpa using hb
  simp[bF,hb]
 ·conv=>whnf
  refine al 0 rfl ⟨⟨?_,rfl⟩,rfl⟩;have hb:¬ n<lo:=by simpa using hb
  simp[bF,hb]
theorem Et(lo hi:Int)(l:List Int)(hl:l.length<4000000000000000000):aW Tryz.prog 86 [i64 lo,i64 hi,bx l] (.bool (l.any fun n=>decide (n<lo)||decide (n>hi))):=by
 refine g8 mixed ao Tryz.func86 rfl (ft:=Si) 3 (by decide +kernel) rfl fun {σ} Y s=>?_;conv=>whnf
 refine ag (GS l 130 [.ref [i64 lo],.ref [i64 hi]] (fun n=>decide (n<lo)||decide (n>hi)) hl fun x _=>ME x lo hi) rfl 1 rfl ?_;conv=>whnf
 exact af
theorem eL(lo hi:Int):aW Tryz.prog 58 [i64 lo,i64 hi] (Span.d ⟨lo,hi⟩):=by
 refine aA Tryz.func58 rfl (ft:=RU) 2 fun {σ} Y st=>?_;conv=>whnf
 exact af
theorem aN.I4{F:Nat->Nat}{w:World}{B:List D}:∀ {A:List D} {l:List Value},aN F w (A ++ .nils::B) l->aN F w (A ++ .vs []::B) l
 | [],l,h=>by
  obtain⟨x,l',rfl,hx,hr⟩:=h;have hx:x = .slice none 0 0:=hx;subst hx;exact⟨_,l',rfl,⟨none,0,0,rfl,rfl,Nat.le_refl _,fun h=>absurd rfl h⟩,hr⟩
 | a::A,l,h=>by
  obtain⟨x,l',rfl,hx,hr⟩:=h;exact⟨x,l',rfl,hx,aN.I4 hr⟩
theorem yi{P:Program}{σ:Type}{Y:Hd σ}{st:St σ}{d:Option Nat}{f:FuncId}(A B:List D){l:List D}{r:List V}{K:St σ->Prop}(hl:l=A ++ .nils::B)(hc:ef P Y st d f (.d (.agg (A ++ .vs []::B))::r) K):ef P Y st d f (.d (.agg l)::r) K:=by
 subst hl;refine yj (fun yv L F w l hv=>?_) hc;obtain⟨x,l',rfl,hx,hr⟩:=hv;obtain⟨a,rfl,ha⟩:=hx;exact⟨_,l',rfl,⟨a,rfl,aN.I4 ha⟩,hr⟩
def fC(c:Case)(i:Int):Bool:=!bc i 0 ((c.aE.length:Int)-1)
def oh(w:cb):dU:=⟨0,w.bk.hi,w.current.hi,w.bm.hi,0,[]⟩
def uw(c:Case)(i out:Int):Int×Int:=
 if pS c out (fC c i)=0 then (match c.aE[i.toNat]? with
  | some w=>(ql c.ee (oh w) out,0)
  | none=>(0,0)) else (0,pS c out (fC c i))
theorem sZ{c:Case}{i:Int}(h:fC c i=false):∃ w,0<=i/\c.aE[i.toNat]?=some w/\w∈c.aE:=by
 have h:bc i 0 ((c.aE.length:Int)-1)=true:=by simpa[fC]using h
 rw[bg]at h;have hl:i.toNat<c.aE.length:=by omega
 exact⟨c.aE[i.toNat],h.1,List.getElem?_eq_getElem hl,List.getElem_mem hl⟩
theorem HL{c:Case}(h:fU c){w:cb}(hw:w∈c.aE):ib c.ee (oh w):=by
 obtain⟨hd,UZ,Uz,UT⟩:=h.aE w hw;obtain⟨s1,s2,s3,s4⟩:=h.ee;exact⟨s1,s2,s3,s4,by simp only[oh];omega,by simp only[oh];omega,by simp only[oh];omega,by simp only[oh];omega,by simp only[oh];omega⟩
theorem QF(c:Case)(i out:Int):aW Tryz.prog 27 [c.d,i64 i,i64 out] (.tup [i64 (uw c i out).1,i64 (uw c i out).2]):=by
 refine aA Tryz.func27 rfl (ft:=Rm) 3 fun {σ} Y st=>?_;conv=>whnf
 refine ag (GQ c out (.vs [[i64 i]]) (fC c i) (cK 0 ((c.aE.length:Int)-1) i)) rfl 1 rfl ?_;conv=>whnf
 by_cases h0:pS c out (fC c i)=0
 ·obtain⟨hR,hb,ho⟩:=jz h0
  obtain⟨w,hi,hw,hm⟩:=sZ hb;have hE:uw c i out=(ql c.ee (oh w) out,0):=by simp[uw,h0,hw]
  rw[hE,h0];conv=>whnf
  refine bZ w.cells ⟨hi,by rw[List.getElem?_map,hw];rfl⟩ ?_;conv=>whnf
  refine yi (c.ee.cells ++ [i64 0,i64 w.bk.hi,i64 w.current.hi,i64 w.bm.hi,i64 0]) [] rfl ?_;refine ae (ds:=[lN c.ee (oh w),i64 out]) (My c.ee (oh w) out (HL hR hm) (by omega)) rfl rfl ?_;conv=>whnf
  exact af
 ·have hE:uw c i out=(0,pS c out (fC c i)):=by simp[uw,h0]
  rw[hE];conv=>whnf
  refine ai (fun _=>?_) (fun h=>absurd h (by simpa using h0));conv=>whnf
  exact af
theorem lY{c:Case}(h:fU c):jq c (aO c):=by
 refine⟨h,by simp[aO],fun s hs=>?_⟩;simp only[aO,List.mem_map]at hs;obtain⟨x,hx,rfl⟩:=hs;exact wc (h.look hx) (h.au x hx).2
def nO(c:Case)(out:Int):(Int×Int×Int)×Int:=
 if cg c (pS c out false)=0 then (lH c (aO c) out,0) else ((0,0,0),cg c (pS c out false))
def rJ(c:Case)(e:Int):D:=if cg c e=0 then Fb c else .nilp
theorem vH(c:Case)(e:Int)(hc:e=0->fU c):aW Tryz.prog 50 [c.d,i64 e] (.tup [rJ c e,i64 (cg c e)]):=by
 refine aW.cast (JO c e hc) ?_;unfold rJ cg;by_cases h:e=0
 ·simp[h]
 ·simp[h]
theorem GM(c:Case)(out:Int):aW Tryz.prog 9 [c.d,i64 out] (.tup [i64 (nO c out).1.1,i64 (nO c out).1.2.1,i64 (nO c out).1.2.2,i64 (nO c out).2]):=by
 refine aA Tryz.func9 rfl (ft:=Vz) 2 fun {σ} Y st=>?_;conv=>whnf
 refine aj (ds:=[c.d,i64 out,.nils]) (GQ c out .nils false (Ev 0 _)) rfl rfl ?_;conv=>whnf
 refine aj (ds:=[c.d,i64 (pS c out false)]) (vH c (pS c out false) (fun h=>(jz h).1)) rfl rfl ?_;unfold rJ;by_cases h1:cg c (pS c out false)=0
 ·obtain⟨h0,hs⟩:=fN h1
  obtain⟨hR,_,ho⟩:=jz h0;have hE:nO c out=(lH c (aO c) out,0):=by simp[nO,h1]
  rw[hE,if_pos h1,h1];conv=>whnf
  refine ae (ds:=[mD c (aO c) (bB c.chain.au 0),i64 out]) (Mz c (aO c) (bB c.chain.au 0) out (lY hR) (by omega)) rfl rfl ?_;conv=>whnf
  exact af
 ·have hE:nO c out=((0,0,0),cg c (pS c out false)):=by simp[nO,h1]
  rw[hE,if_neg h1];conv=>whnf
  refine ai (fun _=>?_) (fun h=>absurd h (by simpa using h1));conv=>whnf
  exact af
def xG:D:=.agg [i64 0,i64 0,i64 0,i64 0,i64 0,.nils]
def qp(c:Case)(i out:Int):D×(Int×Int)×Int:=
 if cg c (pS c out (fC c i))=0 then (match c.aE[i.toNat]? with
  | some w=>((fg c (aO c) w).d,lV c (aO c) out w,0)
  | none=>(xG,(0,0),0)) else (xG,(0,0),cg c (pS c out (fC c i)))
theorem QI(c:Case)(i out:Int):aW Tryz.prog 28 [c.d,i64 i,i64 out] (.tup [(qp c i out).1,i64 (qp c i out).2.1.1,i64 (qp c i out).2.1.2,i64 (qp c i out).2.2]):=by
 refine aA Tryz.func28 rfl (ft:=Rn) 3 fun {σ} Y st=>?_;conv=>whnf
 refine aq (GQ c out (.vs [[i64 i]]) (fC c i) (cK 0 ((c.aE.length:Int)-1) i)) rfl 1 rfl ?_;conv=>whnf
 refine aj (ds:=[c.d,i64 (pS c out (fC c i))]) (vH c (pS c out (fC c i)) (fun h=>(jz h).1)) rfl rfl ?_;unfold rJ;by_cases h1:cg c (pS c out (fC c i))=0
 ·obtain⟨h0,hs⟩:=fN h1
  obtain⟨hR,hb,ho⟩:=jz h0;obtain⟨w,hi,hw,hm⟩:=sZ hb;have hM:=lY hR;have hlen:(aO c).length<1000000:=by have:=hR.lens;rw[hM.len];omega
  have hE:qp c i out=((fg c (aO c) w).d,lV c (aO c) out w,0):=by simp[qp,h1,hw]
  rw[hE,if_pos h1,h1];conv=>whnf
  refine bZ w.cells ⟨hi,by rw[List.getElem?_map,hw];rfl⟩ ?_;conv=>whnf
  refine ae (ds:=[mD c (aO c) (bB c.chain.au 0),w.d]) (MB c (aO c) (bB c.chain.au 0) w hlen) rfl rfl ?_;conv=>whnf
  refine ae (ds:=[mD c (aO c) (bB c.chain.au 0),(fg c (aO c) w).d,i64 out]) (Iz c (aO c) (bB c.chain.au 0) w out hM hm (by omega)) rfl rfl ?_;conv=>whnf
  exact af
 ·have hE:qp c i out=(xG,(0,0),cg c (pS c out (fC c i))):=by simp[qp,h1]
  rw[hE,if_neg h1];conv=>whnf
  refine ai (fun _=>?_) (fun h=>absurd h (by simpa using h1));conv=>whnf
  exact af
def eF(c:Case)(w:cb):List Span:=[w.depth,w.bk,w.current,w.bm,c.chain.hold]++aO c
def gQ(t:dU):List Int:=[t.depth,t.bk,t.current,t.bm,t.hold]++t.dq
def ug:List Span->List Int->Bool
 | s::r,n::l=>!bc n s.lo s.hi||ug r l
 | _,_=>false
def Gs(c:Case)(i out:Int)(t:dU):(Int×Int)×Int:=
 if cg c (pS c out (fC c i))=0 then (
  if t.dq.length=c.chain.au.length then (match c.aE[i.toNat]? with
  | some w=>if ug (eF c w) (gQ t) then ((0,0),7) else (qS c t out,0)
  | none=>((0,0),0)) else ((0,0),3)) else ((0,0),cg c (pS c out (fC c i)))
theorem zr:∀ {l:List Span} {ts:List Int},l.length=ts.length->ug l ts=false -> ∀ n∈ts,∃ s∈l,s.lo<=n/\n<=s.hi
 | [],[],_,_,n,hn=>by cases hn
 | s::l,m::ts,hl,ho,n,hn=>by
  simp only[ug,Bool.or_eq_false_iff,Bool.not_eq_false',bg]at ho;simp only[List.mem_cons]at hn;rcases hn with rfl|hn
  ·exact⟨s,by simp,ho.1⟩
  ·obtain⟨s',h1,h2⟩:=zr (by simpa using hl) ho.2 n hn
   exact⟨s',by simp[h1],h2⟩
theorem D2{c:Case}(h:fU c){w:cb}(hw:w∈c.aE){t:dU}(hl:t.dq.length=c.chain.au.length)(ho:ug (eF c w) (gQ t)=false):ib c.ee t /\ ∀ n∈t.dq,bd n:=by
 obtain⟨hd,UZ,Uz,UT⟩:=h.aE w hw;obtain⟨s1,s2,s3,s4⟩:=h.ee;have hh:=h.hold;simp only[eF,gQ,List.cons_append,List.nil_append,ug,Bool.or_eq_false_iff,Bool.not_eq_false',bg]at ho;obtain⟨o1,o2,o3,o4,o5,o6⟩:=ho;refine⟨⟨s1,s2,s3,s4,by omega,by omega,by omega,by omega,by omega⟩,fun n hn=>?_⟩;obtain⟨s,hs,hn⟩:=zr (by simp[aO,hl]) o6 n hn;have:=(lY h).th s hs;exact⟨by omega,by omega⟩
theorem QJ(c:Case)(i out:Int)(t:dU):aW Tryz.prog 29 [c.d,i64 i,i64 out,t.d] (.tup [i64 (Gs c i out t).1.1,i64 (Gs c i out t).1.2,i64 (Gs c i out t).2]):=by
 refine aA Tryz.func29 rfl (ft:=Ro) 4 fun {σ} Y st=>?_;conv=>whnf
 refine aq (GQ c out (.vs [[i64 i]]) (fC c i) (cK 0 ((c.aE.length:Int)-1) i)) rfl 1 rfl ?_;conv=>whnf
 refine aj (ds:=[c.d,i64 (pS c out (fC c i))]) (vH c (pS c out (fC c i)) (fun h=>(jz h).1)) rfl rfl ?_;unfold rJ;by_cases h1:cg c (pS c out (fC c i))=0
 ·obtain⟨h0,hs⟩:=fN h1
  obtain⟨hR,hb,ho⟩:=jz h0;obtain⟨w,hi,hw,hm⟩:=sZ hb;have hM:=lY hR;have hlen:(aO c).length<1000000:=by have:=hR.lens;rw[hM.len];omega
  rw[if_pos h1];by_cases h2:t.dq.length=c.chain.au.length
  ·have hE:Gs c i out t=if ug (eF c w) (gQ t) then ((0,0),7) else (qS c t out,0):=by simp[Gs,h1,h2,hw]
   rw[hE,h1];conv=>whnf
   refine ai (fun h=>absurd h (by simp[h2])) (fun _=>?_);conv=>whnf
   refine bZ w.cells ⟨hi,by rw[List.getElem?_map,hw];rfl⟩ ?_;conv=>whnf
   have hk:∀ n,n=2->aI.ok n (.dd ((aO c).map Span.cells))=true:=fun n hn=>by
    subst hn;exact gj (fun x=>⟨rfl,rfl⟩) (aO c)
   refine m5.mk rfl ?_;conv=>whnf
   rw[hk]
   rotate_left
   ·rfl
   conv=>whnf
   refine bo (decide_eq_true (show(5+((aO c).map Span.cells).length)*16<=140737488355328 by simp;omega)) ?_;conv=>whnf
   have ji:∀ n,n=1->aI.ok n (.dd (t.dq.map fun n=>[i64 n]))=true:=fun n hn=>by
    subst hn;exact gj (fun x=>⟨rfl,rfl⟩) t.dq
   refine m5.mk rfl ?_;conv=>whnf
   rw[ji]
   rotate_left
   ·rfl
   conv=>whnf
   have nY:some (V.sl 60 2 0 (5+((aO c).map Span.cells).length))=some (V.sl 60 2 0 (eF c w).length):=by simp[eF];omega
   have uR:some (V.sl 74 1 0 (5+(t.dq.map fun n=>[i64 n]).length))=some (V.sl 74 1 0 (gQ t).length):=by simp[gQ];omega
   have CO:some (V.d (i64 ((5+(t.dq.map fun n=>[i64 n]).length:Nat):Int)))=some (V.d (i64 (gQ t).length)):=by simp[gQ];omega
   have u5:t.dq.length<=7:=by have:=hR.lens;omega
   refine bo (decide_eq_true (show(5+(t.dq.map fun n=>[i64 n]).length)*8<=140737488355328 by simp;omega)) ?_;conv=>whnf
   refine aZ (T:=tys) ao (by exact ah mixed ao (by decide +kernel)) (gQ t) (fun i (_:Unit)=>⟨[(2,.d (i64 out)),(7,.ptr 7 0),(11,.d (mD c (aO c) (bB c.chain.au 0))),(13,.sl 60 2 0 (eF c w).length),(74,.sl 74 1 0 (gQ t).length),(75,.d (i64 (gQ t).length)),(76,.d (i64 i))],
     [(7,.box (.dd t.cells)),(60,.arr 2 (.dd ((eF c w).map Span.cells))),(74,.arr 1 (.dd ((gQ t).map fun n=>[i64 n])))],st⟩)
    (fun i r _=>ug (eF c w) (gQ t)=ug ((eF c w).drop i) r) ()
    (Wk.sub ⟨rfl,rfl,rfl,nY,uR,CO,rfl,trivial⟩ ⟨rfl,rfl,rfl,trivial⟩) rfl ?_ ?_
   ·intro i x r _ hx hi hr he
    have GV:(eF c w).length=(gQ t).length:=by simp[eF,gQ,aO,h2]
    have UE:i<(eF c w).length:=by omega
    have Lo:(eF c w)[i]?=some (eF c w)[i]:=List.getElem?_eq_getElem UE;have C3:(gQ t).length<=12:=by simp[gQ];omega
    rw[List.drop_eq_getElem_cons UE,ug]at he;generalize (eF c w)[i]=b at *;conv=>whnf
    refine ai (fun _=>?_) (fun h=>absurd hi (by simpa using h));conv=>whnf
    refine bo (by simp;omega) ?_;conv=>whnf
    refine cD [i64 x] (by simp[hx]) ?_;conv=>whnf
    refine bo (by simp;omega) ?_;conv=>whnf
    refine cD b.cells (by simp[Lo]) ?_;conv=>whnf
    refine bo (by simp;omega) ?_;conv=>whnf
    refine cD b.cells (by simp[Lo]) ?_;conv=>whnf
    refine aq (cK b.lo b.hi x) rfl 1 rfl ?_;conv=>whnf
    refine ai (fun h3=>?_) (fun h3=>?_)
    ·have h3:bc x b.lo b.hi=false:=by simpa using h3
     simp only[h3,Bool.not_false,Bool.true_or]at he;conv=>whnf
     rw[if_pos he];exact af
    ·have h3:bc x b.lo b.hi=true:=by simpa using h3
     simp only[h3,Bool.not_true,Bool.false_or]at he;conv=>whnf
     refine ab ?_;conv=>whnf
     exact⟨(),he,av⟩
   ·rintro _ he
    have he:ug (eF c w) (gQ t)=false:=by rw[he];cases (eF c w).drop (gQ t).length<;>rfl
    obtain⟨hF,EF⟩:=D2 hR hm h2 he;rw[if_neg (by simp[he])];conv=>whnf
    refine ai (fun h=>absurd h (by simp)) (fun _=>?_);conv=>whnf
    refine ae (ds:=[mD c (aO c) (bB c.chain.au 0),t.d,i64 out]) (MC c (aO c) (bB c.chain.au 0) t out hR hF (by omega) h2 EF) rfl rfl ?_;conv=>whnf
    exact af
  ·have hE:Gs c i out t=((0,0),3):=by simp[Gs,h1,h2]
   rw[hE,h1];conv=>whnf
   refine ai (fun _=>?_) (fun h=>absurd h (by simp;omega));conv=>whnf
   exact af
 ·have hE:Gs c i out t=((0,0),cg c (pS c out (fC c i))):=by simp[Gs,h1]
  rw[hE,if_neg h1];conv=>whnf
  refine ai (fun _=>?_) (fun h=>absurd h (by simpa using h1));conv=>whnf
  exact af
def sn(ok:Int->Bool)(n:Int):Nat->Int->Int->List Span->List Span
 | 0,_,_,acc=>acc
 | r+1,k,a,acc=>
  if ok k&&decide (a=0) then sn ok n r (k+1) (k+1) acc
  else if !ok k&&decide (a>0) then (if ((acc.length:Int)+1)=n then acc ++ [⟨a,k⟩] else sn ok n r (k+1) 0 (acc ++ [⟨a,k⟩]))
  else sn ok n r (k+1) a acc
def dO(c:Case)(th:List Span)(k:Int):Bool:=decide (k<bK c.chain.au)&&decide ((lH c th (k+1)).1=0)
def dQ(c:Case)(th:List Span)(n:Int):List Span:=sn (dO c th) n (bK c.chain.au+1).toNat 0 0 []
theorem GR(c:Case)(th:List Span)(fr:List (D×D))(n:Int)(h:jq c th):aW Tryz.prog 51 [mD c th fr,i64 n] (dc (dQ c th n)):=by
 refine aA Tryz.func51 rfl (ft:=RL) 2 fun {σ} Y st=>?_;conv=>whnf
 have hR:=h.case
 have DJ:=qb hR;refine ae (JQ c.chain (by have:=hR.lens;omega) (tV hR)) rfl rfl ?_;conv=>whnf
 refine ab ?_;conv=>whnf
 obtain⟨lk,EO⟩:∃ x,x=bK c.chain.au:=⟨_,rfl⟩;rw[<- EO]at DJ;rw[<- EO];refine bV (T:=tys) ao (by exact ah mixed ao (by decide +kernel)) (α:=Int×Int×List Span)
  (fun x=>⟨[(0,.d (mD c th fr)),(1,.d (i64 n)),(4,.sl 56 2 0 x.2.2.length),(5,.d (i64 x.2.1)),(6,.d (i64 lk)),(19,.d (i64 (lk+1))),(20,.d (i64 x.1))],[(56,.arr 2 (.dd (x.2.2.map Span.cells)))],st⟩)
  (fun x=>(0<=x.1/\x.1<=lk+1)/\(0<=x.2.1/\x.2.1<=x.1)/\x.2.2.length<=x.1.toNat/\dQ c th n=sn (dO c th) n (lk+1-x.1).toNat x.1 x.2.1 x.2.2) (fun x=>(lk+1-x.1).toNat) (0,0,[])
  ((Wk.born 4 56 2 rfl rfl rfl).trans av) ⟨by simp only;omega,by simp only;omega,by simp,by simp only[dQ,EO,Int.sub_zero]⟩ ?_
 rintro ⟨k,a,acc⟩ ⟨hk,ha,VM,he⟩;simp only at hk ha VM he;conv=>whnf
 refine ai (fun hb=>?_) (fun hb=>?_)
 ·have hb:k<lk+1:=by simpa using hb
  have hm:(lk+1-k).toNat=(lk+1-(k+1)).toNat+1:=by omega
  rw[hm,sn]at he;have done:∀ a' nJ,(0<=a'/\a'<=k+1)->nJ.length<=(k+1).toNat->dQ c th n=sn (dO c th) n (lk+1-(k+1)).toNat (k+1) a' nJ ->
    ((lk+1-(k+1)).toNat<(lk+1-k).toNat)/\((0<=k+1/\k+1<=lk+1)/\(0<=a'/\a'<=k+1)/\nJ.length<=(k+1).toNat/\dQ c th n=sn (dO c th) n (lk+1-(k+1)).toNat (k+1) a' nJ):=
   fun a' nJ h1 h2 h3=>⟨by omega,⟨by omega,by omega⟩,h1,h2,h3⟩
  conv=>whnf
  refine ai (fun h1=>?_) (fun h1=>?_)
  ·have h1:k<lk:=by simpa using h1
   conv=>whnf
   refine ab ?_;conv=>whnf
   refine ae (Mz c th fr (k+1) h (by omega)) rfl rfl ?_;conv=>whnf
   by_cases h2:(lH c th (k+1)).1=0
   ·have ec:dO c th k=true:=by simp[dO,h2,<- EO,h1]
    simp only[ec,Bool.true_and,Bool.not_true,Bool.false_and,Bool.false_eq_true,if_false]at he;rw[h2];conv=>whnf
    refine ai (fun h3=>?_) (fun h3=>?_)
    ·have h3:a=0:=by simpa using h3
     simp only[h3,decide_true,if_true]at he;conv=>whnf
     refine ab ?_;conv=>whnf
     refine ab ?_;conv=>whnf
     obtain⟨d1,d2⟩:=done (k+1) acc (by omega) (by omega) he;exact⟨(k+1,k+1,acc),d1,d2,av⟩
    ·have h3:¬ a=0:=by simpa using h3
     simp only[h3,decide_false,Bool.false_eq_true,if_false]at he;conv=>whnf
     refine ab ?_;conv=>whnf
     obtain⟨d1,d2⟩:=done a acc (by omega) (by omega) he;exact⟨(k+1,a,acc),d1,d2,av⟩
   ·have ec:dO c th k=false:=by simp[dO,h2]
    rw[show decide ((lH c th (k+1)).1=0)=false from decide_eq_false h2];simp only[ec,Bool.false_and,Bool.not_false,Bool.true_and,Bool.false_eq_true,if_false]at he;conv=>whnf
    refine ai (fun h3=>?_) (fun h3=>?_)
    ·have h3:a>0:=by simpa using h3
     simp only[h3,decide_true,if_true]at he;conv=>whnf
     refine aL rfl ?_;conv=>whnf
     refine m5.mk (by simp[aI.len]) ?_;conv=>whnf
     refine bo (by simp[aI.len,aI.part,aI.cons,V.cells];omega) ?_;conv=>whnf
     refine ai (fun h4=>?_) (fun h4=>?_)
     ·have h4:(acc.length:Int)+1=n:=by simpa[aI.len,aI.part,aI.cons,V.cells]using h4
      rw[if_pos h4]at he;conv=>whnf
      rw[he];refine al 2 (ds:=[dc (acc ++ [⟨a,k⟩])]) (aF (gx (es':=(acc ++ [Span.mk a k]).map Span.cells) rfl ?_ ?_) rfl) ⟨⟨rfl,rfl⟩,rfl⟩
      ·show((((acc.map Span.cells).drop 0).take acc.length) ++ [Span.cells ⟨a,k⟩])=_
       rw[List.drop_zero,List.take_of_length_le (by simp)];simp
      ·show((((acc.map Span.cells).drop 0).take acc.length).length+1)=_
       rw[List.drop_zero,List.take_of_length_le (by simp)];simp
     ·have h4:¬ (acc.length:Int)+1=n:=by simpa[aI.len,aI.part,aI.cons,V.cells]using h4
      rw[if_neg h4]at he;conv=>whnf
      refine ab ?_;conv=>whnf
      obtain⟨d1,d2⟩:=done 0 (acc ++ [⟨a,k⟩]) (by omega) (by simp;omega) he;refine⟨(k+1,0,acc ++ [⟨a,k⟩]),d1,d2,Wk.sub ⟨rfl,rfl,?_,rfl,rfl,rfl,rfl,trivial⟩ ⟨?_,trivial⟩⟩
      ·show some (V.sl 56 2 0 ((((acc.map Span.cells).drop 0).take acc.length).length+1))=_
       rw[List.drop_zero,List.take_of_length_le (by simp)];simp
      ·show some (Obj.arr 2 (.dd ((((acc.map Span.cells).drop 0).take acc.length) ++ [Span.cells ⟨a,k⟩])))=_
       rw[List.drop_zero,List.take_of_length_le (by simp)];simp
    ·have h3:¬ a>0:=by simpa using h3
     simp only[h3,decide_false,Bool.false_eq_true,if_false]at he;conv=>whnf
     refine ab ?_;conv=>whnf
     obtain⟨d1,d2⟩:=done a acc (by omega) (by omega) he;exact⟨(k+1,a,acc),d1,d2,av⟩
  ·have h1:¬ k<lk:=by simpa using h1
   have ec:dO c th k=false:=by simp[dO,<- EO,h1]
   simp only[ec,Bool.false_and,Bool.not_false,Bool.true_and,Bool.false_eq_true,if_false]at he;conv=>whnf
   refine ai (fun h3=>?_) (fun h3=>?_)
   ·have h3:a>0:=by simpa using h3
    simp only[h3,decide_true,if_true]at he;conv=>whnf
    refine aL rfl ?_;conv=>whnf
    refine m5.mk (by simp[aI.len]) ?_;conv=>whnf
    refine bo (by simp[aI.len,aI.part,aI.cons,V.cells];omega) ?_;conv=>whnf
    refine ai (fun h4=>?_) (fun h4=>?_)
    ·have h4:(acc.length:Int)+1=n:=by simpa[aI.len,aI.part,aI.cons,V.cells]using h4
     rw[if_pos h4]at he;conv=>whnf
     rw[he];refine al 2 (ds:=[dc (acc ++ [⟨a,k⟩])]) (aF (gx (es':=(acc ++ [Span.mk a k]).map Span.cells) rfl ?_ ?_) rfl) ⟨⟨rfl,rfl⟩,rfl⟩
     ·show((((acc.map Span.cells).drop 0).take acc.length) ++ [Span.cells ⟨a,k⟩])=_
      rw[List.drop_zero,List.take_of_length_le (by simp)];simp
     ·show((((acc.map Span.cells).drop 0).take acc.length).length+1)=_
      rw[List.drop_zero,List.take_of_length_le (by simp)];simp
    ·have h4:¬ (acc.length:Int)+1=n:=by simpa[aI.len,aI.part,aI.cons,V.cells]using h4
     rw[if_neg h4]at he;conv=>whnf
     refine ab ?_;conv=>whnf
     obtain⟨d1,d2⟩:=done 0 (acc ++ [⟨a,k⟩]) (by omega) (by simp;omega) he;refine⟨(k+1,0,acc ++ [⟨a,k⟩]),d1,d2,Wk.sub ⟨rfl,rfl,?_,rfl,rfl,rfl,rfl,trivial⟩ ⟨?_,trivial⟩⟩
     ·show some (V.sl 56 2 0 ((((acc.map Span.cells).drop 0).take acc.length).length+1))=_
      rw[List.drop_zero,List.take_of_length_le (by simp)];simp
     ·show some (Obj.arr 2 (.dd ((((acc.map Span.cells).drop 0).take acc.length) ++ [Span.cells ⟨a,k⟩])))=_
      rw[List.drop_zero,List.take_of_length_le (by simp)];simp
   ·have h3:¬ a>0:=by simpa using h3
    simp only[h3,decide_false,Bool.false_eq_true,if_false]at he;conv=>whnf
    refine ab ?_;conv=>whnf
    obtain⟨d1,d2⟩:=done a acc (by omega) (by omega) he;exact⟨(k+1,a,acc),d1,d2,av⟩
 ·have hb:¬ k<lk+1:=by simpa using hb
  have hm:(lk+1-k).toNat=0:=by omega
  rw[hm,sn]at he;conv=>whnf
  rw[he];exact al 2 (ds:=[dc acc]) (aF (bR rfl (by simp)) rfl) ⟨⟨rfl,rfl⟩,rfl⟩
def fA(c:Case):Int×Int:=
 if cg c (bJ c).2.2=0 then (match dQ c (aO c) 1 with
  | []=>(0,9)
  | s::_=>(s.lo,0)) else (0,cg c (bJ c).2.2)
theorem JJ(c:Case):aW Tryz.prog 8 [c.d] (.tup [i64 (fA c).1,i64 (fA c).2]):=by
 refine aA Tryz.func8 rfl (ft:=Vy) 1 fun {σ} Y st=>?_;conv=>whnf
 refine ae (Er c) rfl rfl ?_;conv=>whnf
 refine ae (vH c (bJ c).2.2 (fun h=>fj h)) rfl rfl ?_;conv=>whnf
 unfold rJ;by_cases h1:cg c (bJ c).2.2=0
 ·obtain⟨h0,hs⟩:=fN h1
  have hR:=fj h0;rw[if_pos h1,h1];conv=>whnf
  refine ae (ds:=[mD c (aO c) (bB c.chain.au 0),i64 1]) (GR c (aO c) (bB c.chain.au 0) 1 (lY hR)) rfl rfl ?_
  cases hl:dQ c (aO c) 1 with
  | nil=>
   have hE:fA c=(0,9):=by simp[fA,h1,hl]
   rw[hE];conv=>whnf
   exact af
  | cons s r=>
   have hE:fA c=(s.lo,0):=by simp[fA,h1,hl]
   rw[hE];conv=>whnf
   exact af
 ·have hE:fA c=(0,cg c (bJ c).2.2):=by simp[fA,h1]
  rw[hE,if_neg h1];conv=>whnf
  refine ai (fun _=>?_) (fun h=>absurd h (by simpa using h1));conv=>whnf
  exact af
def jd(c:Case):List Span×Int:=
 if cg c (bJ c).2.2=0 then (match dQ c (aO c) (bK c.chain.au) with
  | []=>([],9)
  | s::r=>(s::r,0)) else ([],cg c (bJ c).2.2)
theorem QK(c:Case):aW Tryz.prog 31 [c.d] (.tup [dc (jd c).1,i64 (jd c).2]):=by
 refine aA Tryz.func31 rfl (ft:=Rq) 1 fun {σ} Y st=>?_;conv=>whnf
 refine ae (Er c) rfl rfl ?_;conv=>whnf
 refine ae (vH c (bJ c).2.2 (fun h=>fj h)) rfl rfl ?_;conv=>whnf
 unfold rJ;by_cases h1:cg c (bJ c).2.2=0
 ·obtain⟨h0,hs⟩:=fN h1
  have hR:=fj h0;rw[if_pos h1,h1];conv=>whnf
  refine ae (JQ c.chain (by have:=hR.lens;omega) (tV hR)) rfl rfl ?_;conv=>whnf
  refine ae (ds:=[mD c (aO c) (bB c.chain.au 0),i64 (bK c.chain.au)]) (GR c (aO c) (bB c.chain.au 0) (bK c.chain.au) (lY hR)) rfl rfl ?_
  cases hl:dQ c (aO c) (bK c.chain.au) with
  | nil=>
   have hE:jd c=([],9):=by simp[jd,h1,hl]
   rw[hE];conv=>whnf
   refine fV ?_;exact af
  | cons s r=>
   have hE:jd c=(s::r,0):=by simp[jd,h1,hl]
   rw[hE];conv=>whnf
   exact af
 ·have hE:jd c=([],cg c (bJ c).2.2):=by simp[jd,h1]
  rw[hE,if_neg h1];conv=>whnf
  refine ai (fun _=>?_) (fun h=>absurd h (by simpa using h1));conv=>whnf
  refine fV ?_;exact af
def so(g:FuncId)(aM:List D)(wf:List Int->Bool×Bool)(many left:Nat):Prop:=
 ∀ (start:Nat) (p:List Int) (x:Bool) (b:Bool),left<=many->start<=many+1->p.length+left<=many->(∀ i∈p,0<=i/\i<many) -> ∀ {σ:Type} (Y:Hd σ) (s:σ),
   DD Tryz.prog Y 121 (kS start left) (ml 121 g aM many 1000006 p.length p (.bool x) (.bool b)) s fun v h' s'=>s'=s /\ ∃ (q:List Int) (y:Bool) (b':Bool),h'=ml 121 g aM many 2000000 q.length q (.bool y) (.bool b') /\
    (match gC wf many left p start with
    | some (q',y')=>v = .d (.bool true)/\q=q'/\y=y'/\b'=true
    | none=>v = .d (.bool false)/\q=p)
def sq(g:FuncId)(aM:List D)(wf:List Int->Bool×Bool)(many:Nat):Prop:=
 ∀ q:List Int,(∀ i∈q,0<=i/\i<many)->q.length<=many->aW Tryz.prog g (bx q::aM) (.tup [.bool (wf q).1,.bool (wf q).2])
theorem xe{g:FuncId}{aM:List D}{wf:List Int->Bool×Bool}{many:Nat}(hm:many<=1000)(hw:sq g aM wf many):so g aM wf many 0:=by
 intro start p x b hl hf hp pd σ Y s;refine ek mixed ao Tryz.func121 rfl (ft:=BN) (args:=kS start 0) (show uQ BN Tryz.f121 8=true from by decide +kernel) ?_;conv=>whnf
 have Ae:(cZ p).length=p.length:=by simp[cZ]
 refine ag (ds:=bx p::aM) (hw p pd (by omega)) rfl 1 (aF (bR rfl (by simp[cZ])) (rl aM)) ?_;conv=>whnf
 refine bY [1000006] [.d (.bool (wf p).2)] (ml 121 g aM many 2000000 p.length p (.bool (wf p).1) (.bool (wf p).2)) rfl ⟨rfl,rfl,rfl,rfl,rfl,rfl,rfl,trivial⟩ rfl ?_;refine⟨rfl,p,(wf p).1,(wf p).2,rfl,?_⟩;simp only[gC];cases hb:(wf p).2<;>simp[AY]
theorem xd{g:FuncId}{aM:List D}{wf:List Int->Bool×Bool}{many left:Nat}(hm:many<=1000)(TY:so g aM wf many left):so g aM wf many (left+1):=by
 intro start p x b hl hf hp pd σ Y s;refine ek mixed ao Tryz.func121 rfl (ft:=BN) (args:=kS start (left+1)) (show uQ BN Tryz.f121 8=true from by decide +kernel) ?_;conv=>whnf
 refine bV (T:=tys) ao (by exact ah mixed ao (by decide +kernel)) (α:=Nat×Bool×Bool)
  (fun x=>⟨[(1,.d (i64 (left+1:Nat))),(2,.ptr 1000000 0),(3,.ptr 1000001 0),(4,.ptr 1000002 0),(5,.ptr 1000003 0),(6,.ptr 1000004 0),(7,.ptr 1000005 0),(11,.d (i64 x.1))],ml 121 g aM many 900000 p.length p (.bool x.2.1) (.bool x.2.2),s⟩)
  (fun x=>x.1<=many+1/\gC wf many (left+1) p start=(List.range' x.1 (many-left-x.1)).findSome? fun(i:Nat)=>gC wf many left (p ++ [(i:Int)]) (i+1)) (fun x=>many+1-x.1) (start,x,b)
  ((Wk.move 1000006 900000 rfl rfl).trans av) ⟨hf,rfl⟩ ?_
 clear hf x b;rintro ⟨i,x,b⟩ ⟨hi,he⟩;simp only at hi he;conv=>whnf
 refine ab ?_;conv=>whnf
 refine ai (fun h1=>?_) (fun h1=>?_)
 ·have h1:i<=many-(left+1):=by have:=of_decide_eq_true h1;omega
  obtain⟨m,yU⟩:∃ m,many-left-i=m+1:=⟨many-left-i-1,by omega⟩;rw[yU,List.range'_succ,List.findSome?_cons]at he;have qA:(cZ p).length=p.length:=by simp[cZ]
  conv=>whnf
  refine aL rfl ?_;conv=>whnf
  refine m5.mk (by simp[aI.len,qA]) ?_;conv=>whnf
  refine bo (by simp[aI.len,aI.part,aI.cons,V.cells,qA];omega) ?_;conv=>whnf
  refine aK (((i+1:Nat):Int)) (by(try dsimp only);omega) (wrap_i64 (by(try dsimp only);omega)) ?_;conv=>whnf
  refine aK ((left:Int)) (by(try dsimp only);omega) (wrap_i64 (by(try dsimp only);omega)) ?_;conv=>whnf
  have Ki:∀ j∈p ++ [(i:Int)],0<=j/\j<many:=by
   intro j hj;rcases List.mem_append.1 hj with hj|hj
   ·exact pd j hj
   ·rw[List.mem_singleton]at hj;subst hj;omega
  have ih:=TY (i+1) (p ++ [(i:Int)]) x b (by omega) (by omega) (by simp;omega) Ki Y.np s;refine pn ih [1000000,1000001,1000002,1000003,1000004,1000005,32] rfl ⟨_,_,rfl,rfl,_,_,rfl,(by
    show some (Obj.box (Cells.vv [V.sl 32 1 0 ((((cZ p).drop 0).take p.length).length+1)]))=some (Obj.box (Cells.vv [V.sl 32 1 0 (p ++ [(i:Int)]).length]));simp[cZ]),_,_,rfl,rfl,_,_,rfl,rfl,_,_,rfl,rfl,_,_,rfl,rfl,_,_,rfl,(by
    show some (Obj.arr 1 (aI.dd ((((cZ p).drop 0).take p.length) ++ [[i64 (i:Int)]])))=some (Obj.arr 1 (aI.dd (cZ (p ++ [(i:Int)]))));simp[cZ,List.take_of_length_le]),rfl⟩ rfl rfl ?_
  rintro v h1 s' ⟨rfl,q,y,b',rfl,gI⟩
  cases hF:gC wf many left (p ++ [(i:Int)]) (i+1) with
  | some r=>
   obtain⟨q',y'⟩:=r;rw[hF]at gI he;obtain⟨rfl,rfl,rfl,rfl⟩:=gI;refine⟨rfl,?_⟩;conv=>whnf
   refine bY [102432] [.d (.bool true)] (ml 121 g aM many 2000000 q.length q (.bool y) (.bool true)) rfl ⟨rfl,pB rfl ⟨⟨rfl,rfl,rfl,rfl⟩,trivial⟩,rfl,rfl,rfl,pB rfl ⟨⟨rfl,⟨rfl,rfl⟩,⟨rfl,rfl⟩,⟨rfl,rfl⟩,⟨rfl,rfl⟩,⟨rfl,rfl⟩,⟨rfl,rfl⟩,trivial⟩,trivial⟩,rfl,trivial⟩ rfl ?_;refine⟨rfl,q,y,true,rfl,?_⟩;rw[he];exact⟨rfl,rfl,rfl,rfl⟩
  | none=>
   rw[hF]at gI he;obtain⟨rfl,rfl⟩:=gI;refine⟨rfl,?_⟩;conv=>whnf
   refine aK (p.length:Int) (by simp) (wrap_i64 (by omega)) ?_;conv=>whnf
   refine bo (by simp;omega) ?_;conv=>whnf
   refine aK (((i+1:Nat):Int)) (by(try dsimp only);omega) (wrap_i64 (by(try dsimp only);omega)) ?_;conv=>whnf
   have sy:many-left-(i+1)=m:=by omega
   refine⟨(i+1,y,b'),by simp only;omega,⟨by simp only;omega,by simp only;rw[sy];exact he⟩,(Wk.move 102432 900000 rfl rfl).trans ((Wk.shrink 900000 p.length rfl).trans ?_)⟩;have TH:(cZ (p ++ [(i:Int)])).take p.length=cZ p:=by simp[cZ,List.take_left']
   refine Wk.sub ⟨rfl,rfl,rfl,rfl,rfl,rfl,rfl,rfl,trivial⟩ ⟨rfl,?_,rfl,rfl,rfl,rfl,?_,trivial⟩
   ·rfl
   ·show some (Obj.arr 1 (aI.dd ((cZ (p ++ [(i:Int)])).take p.length)))=_
    rw[TH]
 ·have h1:¬ (i:Int)<=(many:Int)-((left+1:Nat):Int):=of_decide_eq_false h1
  rw[show many-left-i=0 by omega]at he;conv=>whnf
  refine bY [900000] [.d (.bool false)] (ml 121 g aM many 2000000 p.length p (.bool x) (.bool b)) rfl ⟨rfl,rfl,rfl,rfl,rfl,rfl,rfl,trivial⟩ rfl ?_;refine⟨rfl,p,x,b,rfl,?_⟩;rw[he];exact⟨rfl,rfl⟩
theorem GK{g:FuncId}{aM:List D}{wf:List Int->Bool×Bool}{many:Nat}(hm:many<=1000)(hw:sq g aM wf many)(left:Nat):so g aM wf many left:=by
 induction left with
 | zero=>exact xe hm hw
 | succ n ih=>exact xd hm ih
theorem QW(g:FuncId)(aM:List D)(wf:List Int->Bool×Bool)(many:Nat)(hm:many<=1000)(hw:sq g aM wf many){σ:Type}(Y:Hd σ)(s:σ) :
  DD Tryz.prog Y 82 [.d (i64 many),.d (.clo g aM)] [] s fun v h' s'=>s'=s/\h' = []/\(match j5 wf many with
   | some (q,y)=>v = .d (.tup [bx q,.bool y,.bool true])
   | none=>∃ y,v = .d (.tup [bx [],.bool y,.bool false])):=by
 refine ek mixed ao Tryz.func82 rfl (ft:=NF) (args:=[.d (i64 many),.d (.clo g aM)]) (show uQ NF Tryz.f82 2=true from by decide +kernel) ?_;conv=>whnf
 refine ab ?_;conv=>whnf
 refine bV (T:=tys) ao (by exact ah mixed ao (by decide +kernel)) (α:=Nat×Bool×Bool)
  (fun x=>⟨[(2,.ptr 2 0),(3,.ptr 3 0),(4,.ptr 4 0),(5,.ptr 5 0),(6,.ptr 6 0),(7,.ptr 7 0),(11,.d (i64 (many+1:Nat))),(12,.d (i64 x.1))],
   [(2,.box (.dd [i64 many])),(3,.box (.dd [.clo g aM])),(4,.box (.vv [.sl 900000 1 0 0])),(5,.box (.dd [.bool x.2.1])),(6,.box (.dd [.bool x.2.2])),(7,.box (.vv [.clo 121 [.ptr 3 0,.ptr 4 0,.ptr 5 0,.ptr 6 0,.ptr 2 0,.ptr 7 0]])),(900000,.arr 1 (.dd []))],s⟩)
  (fun x=>x.1<=many+1/\j5 wf many=(List.range' x.1 (many+1-x.1)).findSome? fun(n:Nat)=>gC wf many n [] 0) (fun x=>many+1-x.1) (0,false,false)
  ((Wk.pA 4 900000 1 rfl rfl rfl rfl).trans av) ⟨by simp,rfl⟩ ?_
 rintro ⟨n,x,b⟩ ⟨hn,he⟩;simp only at hn he;conv=>whnf
 refine ai (fun h1=>?_) (fun h1=>?_)
 ·have h1:n<many+1:=by have:=of_decide_eq_true h1;omega
  obtain⟨m,yU⟩:∃ m,many+1-n=m+1:=⟨many-n,by omega⟩;have sy:many+1-(n+1)=m:=by omega
  rw[yU,List.range'_succ,List.findSome?_cons]at he;conv=>whnf
  refine Br (GK hm hw n 0 [] x b (by omega) (by omega) (by simp;omega) (by simp) Y.np s) [3,4,5,6,2,7,900000] rfl ⟨_,_,rfl,rfl,_,_,rfl,rfl,_,_,rfl,rfl,_,_,rfl,rfl,_,_,rfl,rfl,_,_,rfl,rfl,_,_,rfl,rfl,rfl⟩ rfl rfl ?_;rintro v h1 s' ⟨rfl,q,y,b',rfl,gI⟩
  cases hF:gC wf many n [] 0 with
  | some r=>
   obtain⟨q',y'⟩:=r;rw[hF]at gI he;obtain⟨rfl,rfl,rfl,rfl⟩:=gI;refine⟨rfl,?_⟩;conv=>whnf
   refine⟨⟨[(4,.ptr 4 0),(5,.ptr 5 0),(6,.ptr 6 0),(17,.d (.bool true))],[(4,.box (.dd [bx q])),(5,.box (.dd [.bool y])),(6,.box (.dd [.bool true]))],s'⟩,(Wk.Pw 1 [101088]).trans (Wk.sub ⟨rfl,rfl,rfl,rfl,trivial⟩ ⟨?_,rfl,rfl,trivial⟩),?_⟩
   ·exact BP (id:=101088) (sz:=1) (n:=q.length) rfl (bR (es:=cZ q) rfl (by simp[cZ]))
   conv=>whnf
   refine aj (MH q (by have:=qL hF;simp at this;omega)) rfl rfl ?_;conv=>whnf
   refine al 0 rfl ⟨rfl,rfl,?_⟩;rw[he];rfl
  | none=>
   rw[hF]at gI he;obtain⟨rfl,rfl⟩:=gI;refine⟨rfl,?_⟩;conv=>whnf
   refine⟨⟨[(2,.ptr 2 0),(3,.ptr 3 0),(4,.ptr 4 0),(5,.ptr 5 0),(6,.ptr 6 0),(7,.ptr 7 0),(11,.d (i64 (many+1:Nat))),(12,.d (i64 n)),(17,.d (.bool false))],
    [(2,.box (.dd [i64 many])),(3,.box (.dd [.clo g aM])),(4,.box (.vv [.sl 900000 1 0 0])),(5,.box (.dd [.bool y])),(6,.box (.dd [.bool b'])),(7,.box (.vv [.clo 121 [.ptr 3 0,.ptr 4 0,.ptr 5 0,.ptr 6 0,.ptr 2 0,.ptr 7 0]])),(900000,.arr 1 (.dd []))],s'⟩,
    (Wk.move 101088 900000 rfl rfl).trans av,?_⟩
   conv=>whnf
   refine ab ?_;conv=>whnf
   exact⟨(n+1,y,b'),by simp only;omega,⟨by simp only;omega,by simp only;rw[sy];exact he⟩,av⟩
 ·have h1:¬ n<many+1:=by have:=of_decide_eq_false h1;omega
  rw[show many+1-n=0 by omega]at he;conv=>whnf
  refine fV ?_;refine al 0 rfl ⟨rfl,rfl,?_⟩;rw[he];exact⟨x,rfl⟩
theorem Mj(p:List Span)(hp:p.length<1000000)(h0:p ≠ []):Cr Tryz.prog 122 [.d (dc p)] [] fun v h'=>v = .sl 2000000 2 0 p.length/\h' = [(2000000,.arr 2 (.dd (p.map Span.cells)))]:=by
 intro σ Y s;refine ek mixed ao Tryz.func122 rfl (ft:=IB) (args:=[.d (dc p)]) (show uQ IB Tryz.f122 1=true from by decide +kernel) ?_;conv=>whnf
 refine⟨fun b hb=>?_⟩
 cases b with
 | true=>exact absurd (hb (by cases p with
   | nil=>exact absurd rfl h0
   | cons a r=>simp)) (by simp)
 | false=>
  conv=>whnf
  refine m5.mk rfl ?_;conv=>whnf
  refine bo (by
   show(ig 2 (p.map Span.cells)&&true)=true;rw[gj (fun x=>⟨rfl,rfl⟩)];rfl) ?_
  conv=>whnf
  refine bo (by simp[aI.len,aI.part];omega) ?_;conv=>whnf
  refine bY [7] [.sl 2000000 2 0 p.length] [(2000000,.arr 2 (.dd (p.map Span.cells)))] ?_ ?_ rfl ⟨⟨rfl,rfl⟩,rfl⟩
  ·show [V.sl 7 2 0 p.length] = [V.sl 7 2 0 (0+(p.map Span.cells).length)]
   simp
  ·exact⟨rfl,trivial⟩
def sW{α:Type}(l m:List α)(i:Nat):Prop:=m.length=l.length /\ ∀ k,k<l.length->m[k]?=if k<i\/l.length<=k+i then l.reverse[k]? else l[k]?
theorem r3{α:Type}{p m:List α}{i j:Nat}{x y:α}(h:sW p m i)(hj:i+j+1=p.length)(oM:i<j)(hx:m[i]?=some x)(hy:m[j]?=some y):sW p ((m.set i y).set j x) (i+1):=by
 obtain⟨hm,hT⟩:=h;refine⟨by simp[hm],fun k hk=>?_⟩;have h1:=hT i (by omega);have h2:=hT j (by omega);rw[if_neg (by omega),hx]at h1;rw[if_neg (by omega),hy]at h2;by_cases yR:j=k
 ·subst yR
  rw[List.getElem?_set_self (by simp;omega),if_pos (by omega),List.getElem?_reverse (by omega),show p.length-1-j=i by omega,h1]
 ·rw[List.getElem?_set_ne yR]
  by_cases CV:i=k
  ·subst CV
   rw[List.getElem?_set_self (by omega),if_pos (by omega),List.getElem?_reverse (by omega),show p.length-1-i=j by omega,h2]
  ·rw[List.getElem?_set_ne CV,hT k hk]
   by_cases hc:k<i\/p.length<=k+i
   ·rw[if_pos hc,if_pos (by omega)]
   ·rw[if_neg hc,if_neg (by omega)]
theorem uM{α:Type}{p m:List α}{i:Nat}(h:sW p m i)(hi:p.length<=2*i+1):m=p.reverse:=by
 obtain⟨hm,hT⟩:=h;refine List.ext_getElem? fun k=>?_;by_cases hk:k<p.length
 ·rw[hT k hk]
  by_cases hc:k<i\/p.length<=k+i
  ·rw[if_pos hc]
  ·rw[if_neg hc,List.getElem?_reverse hk,show p.length-1-k=k by omega]
 ·rw[List.getElem?_eq_none (by omega),List.getElem?_eq_none (by simp;omega)]
theorem Ml(p:List Span)(hp:p.length<1000000):Cr Tryz.prog 124 [.sl 1000000 2 0 p.length] [(1000000,.arr 2 (.dd (p.map Span.cells)))] fun v h'=>v = .d (.tup [])/\h' = [(1000000,.arr 2 (.dd (p.reverse.map Span.cells)))]:=by
 intro σ Y s;refine ek mixed ao Tryz.func124 rfl (ft:=ID) (args:=[.sl 1000000 2 0 p.length]) (show uQ ID Tryz.f124 1=true from by decide +kernel) ?_;conv=>whnf
 refine ab ?_;conv=>whnf
 refine bV (T:=tys) ao (by exact ah mixed ao (by decide +kernel)) (α:=Nat×List Span)
  (fun x=>⟨[(0,.sl 1000000 2 0 p.length),(2,.d (i64 x.1)),(3,.d (i64 ((p.length:Int)-1-x.1)))],[(1000000,.arr 2 (.dd (x.2.map Span.cells)))],s⟩)
  (fun x=>2*x.1<=p.length+1/\sW p x.2 x.1) (fun x=>p.length-x.1) (0,p)
  (Wk.sub ⟨rfl,rfl,by simp[PX.get],trivial⟩ ⟨rfl,trivial⟩) ⟨by simp,rfl,fun k hk=>by simp;omega⟩ ?_
 rintro ⟨i,m⟩ ⟨hi,hm,hT⟩;simp only at hi hm hT;conv=>whnf
 refine ai (fun hb=>?_) (fun hb=>?_)
 ·have hb:(i:Int)<(p.length:Int)-1-i:=by simpa using hb
  obtain⟨j,hj⟩:∃ j:Nat,i+j+1=p.length:=⟨p.length-1-i,by omega⟩;have CT:((p.length:Int)-1-(i:Int)).toNat=j:=by omega
  have yV:m[i]?=some m[i]:=List.getElem?_eq_getElem (by omega);have Km:m[j]?=some m[j]:=List.getElem?_eq_getElem (by omega);generalize m[i]=x at *;generalize m[j]=y at *;obtain⟨ER,SH⟩:=r3 ⟨hm,hT⟩ hj (by omega) yV Km;conv=>whnf
  refine bo (by simp;omega) ?_;conv=>whnf
  refine cD y.cells (by simp[CT,Km]) ?_;conv=>whnf
  refine bo (by simp;omega) ?_;conv=>whnf
  refine cD x.cells (by simp[yV]) ?_;conv=>whnf
  refine bo (by simp;omega) ?_;conv=>whnf
  refine cD x.cells (by simp[yV]) ?_;conv=>whnf
  refine bo (by simp;omega) ?_;conv=>whnf
  refine cD y.cells (by
   show((m.map Span.cells).set (0+(i:Int).toNat) y.cells)[0+((p.length:Int)-1-(i:Int)).toNat]?=_;rw[CT,List.getElem?_set_ne (by simp;omega)];simp[Km]) ?_
  conv=>whnf
  refine aK (((i+1:Nat):Int)) (by(try dsimp only);omega) (wrap_i64 (by(try dsimp only);omega)) ?_;conv=>whnf
  refine aK ((p.length:Int)-1-((i+1:Nat):Int)) (by(try dsimp only);omega) (wrap_i64 (by(try dsimp only);omega)) ?_;conv=>whnf
  refine⟨(i+1,(m.set i y).set j x),by simp only;omega,⟨by simp only;omega,ER,SH⟩,Wk.sub ⟨rfl,rfl,rfl,trivial⟩ ⟨?_,trivial⟩⟩;show some (Obj.arr 2 (.dd (((m.map Span.cells).set (0+(i:Int).toNat) y.cells).set (0+((p.length:Int)-1-(i:Int)).toNat) x.cells)))=_;rw[CT];simp[List.map_set]
 ·have hb:¬ (i:Int)<(p.length:Int)-1-i:=by simpa using hb
  conv=>whnf
  rw[uM ⟨hm,hT⟩ (by omega)];exact bY [] [] [(1000000,.arr 2 (.dd (p.reverse.map Span.cells)))] rfl ⟨rfl,trivial⟩ rfl ⟨⟨rfl,rfl⟩,rfl⟩
theorem Mk(p:List bH)(hp:p.length<1000000)(h0:p ≠ []):Cr Tryz.prog 123 [.d (fQ p)] [] fun v h'=>v = .sl 2000000 8 0 p.length/\h' = [(2000000,.arr 8 (.dd (p.map bH.cells)))]:=by
 intro σ Y s;refine ek mixed ao Tryz.func123 rfl (ft:=IC) (args:=[.d (fQ p)]) (show uQ IC Tryz.f123 1=true from by decide +kernel) ?_;conv=>whnf
 refine⟨fun b hb=>?_⟩
 cases b with
 | true=>exact absurd (hb (by cases p with
   | nil=>exact absurd rfl h0
   | cons a r=>simp)) (by simp)
 | false=>
  conv=>whnf
  refine m5.mk rfl ?_;conv=>whnf
  refine bo (by
   show(ig 8 (p.map bH.cells)&&true)=true;rw[gj (fun x=>⟨rfl,rfl⟩)];rfl) ?_
  conv=>whnf
  refine bo (by simp[aI.len,aI.part];omega) ?_;conv=>whnf
  refine bY [7] [.sl 2000000 8 0 p.length] [(2000000,.arr 8 (.dd (p.map bH.cells)))] ?_ ?_ rfl ⟨⟨rfl,rfl⟩,rfl⟩
  ·show [V.sl 7 8 0 p.length] = [V.sl 7 8 0 (0+(p.map bH.cells).length)]
   simp
  ·exact⟨rfl,trivial⟩
theorem Mm(p:List bH)(hp:p.length<1000000):Cr Tryz.prog 125 [.sl 1000000 8 0 p.length] [(1000000,.arr 8 (.dd (p.map bH.cells)))] fun v h'=>v = .d (.tup [])/\h' = [(1000000,.arr 8 (.dd (p.reverse.map bH.cells)))]:=by
 intro σ Y s;refine ek mixed ao Tryz.func125 rfl (ft:=IE) (args:=[.sl 1000000 8 0 p.length]) (show uQ IE Tryz.f125 1=true from by decide +kernel) ?_;conv=>whnf
 refine ab ?_;conv=>whnf
 refine bV (T:=tys) ao (by exact ah mixed ao (by decide +kernel)) (α:=Nat×List bH)
  (fun x=>⟨[(0,.sl 1000000 8 0 p.length),(2,.d (i64 x.1)),(3,.d (i64 ((p.length:Int)-1-x.1)))],[(1000000,.arr 8 (.dd (x.2.map bH.cells)))],s⟩)
  (fun x=>2*x.1<=p.length+1/\sW p x.2 x.1) (fun x=>p.length-x.1) (0,p)
  (Wk.sub ⟨rfl,rfl,by simp[PX.get],trivial⟩ ⟨rfl,trivial⟩) ⟨by simp,rfl,fun k hk=>by simp;omega⟩ ?_
 rintro ⟨i,m⟩ ⟨hi,hm,hT⟩;simp only at hi hm hT;conv=>whnf
 refine ai (fun hb=>?_) (fun hb=>?_)
 ·have hb:(i:Int)<(p.length:Int)-1-i:=by simpa using hb
  obtain⟨j,hj⟩:∃ j:Nat,i+j+1=p.length:=⟨p.length-1-i,by omega⟩;have CT:((p.length:Int)-1-(i:Int)).toNat=j:=by omega
  have yV:m[i]?=some m[i]:=List.getElem?_eq_getElem (by omega);have Km:m[j]?=some m[j]:=List.getElem?_eq_getElem (by omega);generalize m[i]=x at *;generalize m[j]=y at *;obtain⟨ER,SH⟩:=r3 ⟨hm,hT⟩ hj (by omega) yV Km;conv=>whnf
  refine bo (by simp;omega) ?_;conv=>whnf
  refine cD y.cells (by simp[CT,Km]) ?_;conv=>whnf
  refine bo (by simp;omega) ?_;conv=>whnf
  refine cD x.cells (by simp[yV]) ?_;conv=>whnf
  refine bo (by simp;omega) ?_;conv=>whnf
  refine cD x.cells (by simp[yV]) ?_;conv=>whnf
  refine bo (by simp;omega) ?_;conv=>whnf
  refine cD y.cells (by
   show((m.map bH.cells).set (0+(i:Int).toNat) y.cells)[0+((p.length:Int)-1-(i:Int)).toNat]?=_;rw[CT,List.getElem?_set_ne (by simp;omega)];simp[Km]) ?_
  conv=>whnf
  refine aK (((i+1:Nat):Int)) (by(try dsimp only);omega) (wrap_i64 (by(try dsimp only);omega)) ?_;conv=>whnf
  refine aK ((p.length:Int)-1-((i+1:Nat):Int)) (by(try dsimp only);omega) (wrap_i64 (by(try dsimp only);omega)) ?_;conv=>whnf
  refine⟨(i+1,(m.set i y).set j x),by simp only;omega,⟨by simp only;omega,ER,SH⟩,Wk.sub ⟨rfl,rfl,rfl,trivial⟩ ⟨?_,trivial⟩⟩;show some (Obj.arr 8 (.dd (((m.map bH.cells).set (0+(i:Int).toNat) y.cells).set (0+((p.length:Int)-1-(i:Int)).toNat) x.cells)))=_;rw[CT];simp[List.map_set]
 ·have hb:¬ (i:Int)<(p.length:Int)-1-i:=by simpa using hb
  conv=>whnf
  rw[uM ⟨hm,hT⟩ (by omega)];exact bY [] [] [(1000000,.arr 8 (.dd (p.reverse.map bH.cells)))] rfl ⟨rfl,trivial⟩ rfl ⟨⟨rfl,rfl⟩,rfl⟩
def NG:FT:=⟨[0,1,2,6,7,9,29,30,31,32,46],[(2,⟨[101088,101536],[⟨[0],[]⟩,⟨[13],[]⟩,⟨[14],[]⟩,⟨[15],[]⟩,⟨[16],[]⟩,⟨[0],[0,1,2,3,4]⟩,⟨[18],[0,1,2,3,4]⟩,⟨[19],[0,1,2,3,4]⟩,⟨[20],[0,1,2,3,4]⟩,⟨[21],[0,1,2,3,4]⟩,⟨[22],[0,1,2,3,4]⟩,⟨[23],[]⟩,⟨[7],[]⟩,⟨[17,25],[]⟩,⟨[7],[]⟩,⟨[26],[]⟩,⟨[27],[]⟩,⟨[24,28],[]⟩]⟩),(6,⟨[],[⟨[7],[]⟩,⟨[35],[]⟩,⟨[9],[0,1]⟩,⟨[0],[0,1,2]⟩,⟨[38],[0,1,2]⟩,⟨[39],[0,1,2]⟩,⟨[40],[0,1,2]⟩,⟨[9],[0,1,2,3,4,5,6]⟩,⟨[41,42],[0,1,2]⟩,⟨[36,37],[]⟩,⟨[43,44],[]⟩]⟩)]⟩
def newAt(c:Case)(i:Int):Span:=match c.chain.au[i.toNat]? with
 | some s=>s.new
 | none=>⟨0,0⟩
def gN(c:Case)(th:List Span)(w:List Int):List Span:=w.foldl (fun t i=>t.set i.toNat (newAt c i)) th
def iE(c:Case)(rev:Bool):Case:=if rev then { c with chain:={ c.chain with au:=c.chain.au.reverse } } else c
def km(th:List Span)(rev:Bool):List Span:=if rev then th.reverse else th
theorem pq{P:Program}{e:Env}{h:ar}{d:Option Nat}{f:FuncId}{args:List V}{args0:List V}{v0:V}{h1:ar}(hf:Cr P f args0 [] fun v h'=>v=v0/\h'=h1)(ct:oX (dM [] (d.getD 0)) args0=args)
  (hB:gT [] d v0 h1=true) {K:List Wr->Prop} (hk:K (cX [] d v0 h1)):cN P e h d f args K:=
 yk hf [] ct rfl hB hk
theorem MA(c:Case)(th:List Span)(w:List Int)(rev:Bool)(h:jq c th)(hw:∀ i∈w,0<=i/\i<c.chain.au.length)(PS:w.length<1000000) :
  aW Tryz.prog 84 [mD c th (bB c.chain.au 0),bx w,.bool rev] (mD (iE c rev) (km (gN c th w) rev) (bB c.chain.au 0)):=by
 refine aA Tryz.func84 rfl (ft:=NG) 3 fun {σ} Y st=>?_;have Ls:=h.case.lens
 have dN:=h.len;conv=>whnf
 refine pq (args0:=[.d (dc th)]) (Mj th (by omega) (by intro h0;subst h0;simp at dN;omega)) rfl rfl ?_;conv=>whnf
 refine pq (args0:=[.d (fQ c.chain.au)]) (Mk c.chain.au (by omega) (by intro h0;rw[h0]at Ls;simp at Ls)) rfl rfl ?_;conv=>whnf
 have Xc:th.length=c.chain.au.length:=dN;refine aZ (T:=tys) ao (by exact ah mixed ao (by decide +kernel)) w (fun i (t:List Span)=>⟨[(0,.d (mD c th (bB c.chain.au 0))),(2,.d (.bool rev)),(7,.ptr 7 0),(29,.d (bx w)),(30,.d (i64 w.length)),(31,.d (i64 i))],
   [(7,.box (.vv (.sl 101536 8 0 c.chain.au.length::inj c.cells.tail ++ [.sl 101088 2 0 t.length,.d (.mv (bB c.chain.au 0))]))),(101088,.arr 2 (.dd (t.map Span.cells))),(101536,.arr 8 (.dd (c.chain.au.map bH.cells)))],st⟩)
  (fun i r t=>(∀ n∈r,0<=n/\n<c.chain.au.length)/\t.length=th.length/\gN c th w=r.foldl (fun t i=>t.set i.toNat (newAt c i)) t) th
  av ⟨hw,rfl,rfl⟩ ?_ ?_
 ·intro i x r t hx hi hr ⟨hm,KK,he⟩
  obtain⟨x0,x1⟩:=hm x (by simp);have Af:x.toNat<c.chain.au.length:=by omega
  have UU:c.chain.au[x.toNat]?=some c.chain.au[x.toNat]:=List.getElem?_eq_getElem Af;have TO:t[x.toNat]?=some t[x.toNat]:=List.getElem?_eq_getElem (by omega);have Gh:=rC c.chain.au 0 x.toNat 0 _ UU;have pW:newAt c x=c.chain.au[x.toNat].new:=by simp[newAt,UU]
  rw[List.foldl_cons,pW]at he;rw[show(0:Int)+(x.toNat:Int)=x by omega]at Gh;generalize c.chain.au[x.toNat]=s at *;generalize t[x.toNat]=u at *;conv=>whnf
  refine ai (fun _=>?_) (fun h=>absurd hi (by simpa using h));conv=>whnf
  refine ax hx ?_;conv=>whnf
  refine⟨_,Gh,?_⟩;conv=>whnf
  refine bo (by simp;omega) ?_;conv=>whnf
  refine cD u.cells (by simp[TO]) ?_;conv=>whnf
  refine ab ?_;conv=>whnf
  refine⟨t.set x.toNat s.new,⟨fun n hn=>hm n (by simp[hn]),by simp[KK],he⟩,Wk.sub ⟨rfl,rfl,rfl,rfl,rfl,rfl,trivial⟩ ⟨?_,?_,rfl,trivial⟩⟩
  ·simp only[List.length_set];rfl
  ·show some (Obj.arr 2 (.dd ((t.map Span.cells).set (0+x.toNat) s.new.cells)))=_
   rw[List.map_set,Nat.zero_add]
 ·intro t ⟨_,KK,he⟩
  have he:gN c th w=t:=he;rw[he];conv=>whnf
  refine ai (fun h=>absurd h (by simp)) (fun _=>?_);conv=>whnf
  cases rev with
  | false=>
   conv=>whnf
   refine al 2 (ds:=[mD (iE c false) (km t false) (bB c.chain.au 0)]) (aF (rm rfl (aF (gx (es':=c.chain.au.map bH.cells) rfl rfl (by simp)) (nG (a:=c.cells.tail) (aF (gx (es':=t.map Span.cells) rfl rfl (by simp)) rfl)))) rfl) ⟨⟨rfl,rfl⟩,rfl⟩
  | true=>
   conv=>whnf
   refine jn (Ml t (by omega)) [101088] rfl ⟨_,_,rfl,rfl,rfl⟩ rfl ?_;conv=>whnf
   refine jn (Mm c.chain.au (by omega)) [101536] rfl ⟨_,_,rfl,rfl,rfl⟩ rfl ?_;conv=>whnf
   refine al 2 (ds:=[mD (iE c true) (km t true) (bB c.chain.au 0)]) (aF (rm rfl (aF (gx (es':=c.chain.au.reverse.map bH.cells) rfl rfl (by simp)) (nG (a:=c.cells.tail) (aF (gx (es':=t.reverse.map Span.cells) rfl rfl (by simp)) rfl)))) rfl) ⟨⟨rfl,rfl⟩,rfl⟩
theorem fU.Ih{c:Case}(h:fU c)(rev:Bool):fU (iE c rev):=by
 cases rev with
 | false=>exact h
 | true=>exact⟨by simpa[iE]using h.lens,h.O0,h.dm,h.gH,h.err,h.hold,fun s hs=>h.au s (by simpa[iE]using hs),h.rows,h.ee,h.day,h.Lj,h.aE⟩
theorem wh{c:Case}{th:List Span}(h:jq c th):∀ (w:List Int) (t:List Span),t.length=th.length->(∀ s∈t,(0<=s.lo/\s.lo<=1000000)/\(0<=s.hi/\s.hi<=1000000)) ->
  (w.foldl (fun t i=>t.set i.toNat (newAt c i)) t).length=th.length /\ ∀ s∈w.foldl (fun t i=>t.set i.toNat (newAt c i)) t,(0<=s.lo/\s.lo<=1000000)/\(0<=s.hi/\s.hi<=1000000)
 | [],t,hl,ht=>⟨hl,ht⟩
 | i::r,t,hl,ht=>by
  rw[List.foldl_cons];refine wh h r _ (by simp[hl]) fun s hs=>?_;rcases List.mem_or_eq_of_mem_set hs with hs|rfl
  ·exact ht s hs
  ·unfold newAt
   split
   ·rename_i x hx
    have:=(h.case.au x (List.mem_of_getElem? hx)).1.new;omega
   ·exact⟨by simp,by simp⟩
theorem jq.Ih{c:Case}{th:List Span}(h:jq c th)(w:List Int)(rev:Bool):jq (iE c rev) (km (gN c th w) rev):=by
 obtain⟨h1,h2⟩:=wh h w th rfl h.th;refine⟨h.case.Ih rev,?_,fun s hs=>h2 s ?_⟩
 ·cases rev<;>simp[iE,km,gN,h1,h.len]
 ·cases rev with
  | false=>exact hs
  | true=>exact List.mem_reverse.1 hs
def iM(c:Case)(th:List Span)(q:List Int):Bool×Bool:=
 if (dQ (iE c false) (km (gN c th q) false) 1).length>0 then (false,true)
 else if (dQ (iE c true) (km (gN c th q) true) 1).length>0 then (true,true) else (false,false)
theorem QX(c:Case)(th:List Span)(q:List Int)(h:jq c th)(hw:∀ i∈q,0<=i/\i<c.chain.au.length)(PS:q.length<1000000) :
  aW Tryz.prog 83 [bx q,.ref [mD c th (bB c.chain.au 0)]] (.tup [.bool (iM c th q).1,.bool (iM c th q).2]):=by
 refine aA Tryz.func83 rfl (ft:=Sg) 2 fun {σ} Y st=>?_;conv=>whnf
 refine bV (T:=tys) ao (by exact ah mixed ao (by decide +kernel)) (α:=Nat)
  (fun x=>⟨[(0,.d (bx q)),(1,.d (.ref [mD c th (bB c.chain.au 0)])),(7,.sl 7 1 0 2),(8,.d (i64 2)),(9,.d (i64 x))],[(7,.arr 1 (.dd [[.bool false],[.bool true]]))],st⟩)
  (fun x=>x=0\/(x=1/\¬ (dQ (iE c false) (km (gN c th q) false) 1).length>0)\/(x=2/\iM c th q=(false,false))) (fun x=>2-x) 0
  av (.inl rfl) ?_
 intro n hn;rcases hn with rfl|⟨rfl,h1⟩|⟨rfl,h1⟩
 ·conv=>whnf
  refine ae (ds:=[mD c th (bB c.chain.au 0),bx q,.bool false]) (MA c th q false h hw PS) rfl rfl ?_;conv=>whnf
  refine ae (ds:=[mD (iE c false) (km (gN c th q) false) (bB c.chain.au 0),i64 1]) (GR (iE c false) (km (gN c th q) false) (bB c.chain.au 0) 1 (h.Ih q false)) rfl rfl ?_;obtain⟨l,hl⟩:∃ x,x=dQ (iE c false) (km (gN c th q) false) 1:=⟨_,rfl⟩;rw[<- hl];conv=>whnf
  refine ai (fun h2=>?_) (fun h2=>?_)
  ·have h2:l.length>0:=by have:=of_decide_eq_true h2;simpa using this
   have hE:iM c th q=(false,true):=by rw[iM,<- hl,if_pos h2]
   rw[hE];conv=>whnf
   exact af
  ·have h2:¬ l.length>0:=by have:=of_decide_eq_false h2;simpa using this
   conv=>whnf
   refine ab ?_;conv=>whnf
   exact⟨1,by simp,.inr (.inl ⟨rfl,hl▸h2⟩),av⟩
 ·conv=>whnf
  refine ae (ds:=[mD c th (bB c.chain.au 0),bx q,.bool true]) (MA c th q true h hw PS) rfl rfl ?_;conv=>whnf
  refine ae (ds:=[mD (iE c true) (km (gN c th q) true) (bB c.chain.au 0),i64 1]) (GR (iE c true) (km (gN c th q) true) (bB c.chain.au 0) 1 (h.Ih q true)) rfl rfl ?_;obtain⟨l,hl⟩:∃ x,x=dQ (iE c true) (km (gN c th q) true) 1:=⟨_,rfl⟩;rw[<- hl];conv=>whnf
  refine ai (fun h2=>?_) (fun h2=>?_)
  ·have h2:l.length>0:=by have:=of_decide_eq_true h2;simpa using this
   have hE:iM c th q=(true,true):=by rw[iM,<- hl,if_neg h1,if_pos h2]
   rw[hE];conv=>whnf
   exact af
  ·have h2:¬ l.length>0:=by have:=of_decide_eq_false h2;simpa using this
   conv=>whnf
   refine ab ?_;conv=>whnf
   exact⟨2,by simp,.inr (.inr ⟨rfl,by rw[iM,<- hl,if_neg h1,if_neg h2]⟩),av⟩
 ·conv=>whnf
  rw[h1];exact af
def kE(c:Case):(List Int×Bool)×Int:=
 if cg c (bJ c).2.2=0 then (match j5 (iM c (aO c)) c.chain.au.length with
  | some (q,y)=>((q,y),0)
  | none=>(([],false),9)) else (([],false),cg c (bJ c).2.2)
theorem QG(c:Case):aW Tryz.prog 32 [c.d] (.tup [bx (kE c).1.1,.bool (kE c).1.2,i64 (kE c).2]):=by
 refine aA Tryz.func32 rfl (ft:=Rr) 1 fun {σ} Y st=>?_;conv=>whnf
 refine ae (Er c) rfl rfl ?_;conv=>whnf
 refine ae (vH c (bJ c).2.2 (fun h=>fj h)) rfl rfl ?_;conv=>whnf
 unfold rJ;by_cases h1:cg c (bJ c).2.2=0
 ·obtain⟨h0,hs⟩:=fN h1
  have hR:=fj h0;have hM:=lY hR;have hlen:=hR.lens;rw[if_pos h1,h1];conv=>whnf
  have od:sq 83 [.ref [mD c (aO c) (bB c.chain.au 0)]] (iM c (aO c)) c.chain.au.length:=fun q hq Xo=>QX c (aO c) q hM hq (by omega);refine vk 1 [5] ?_;refine vm (e':=[(2,.d .nils),(3,.d (.bool false)),(4,.d (i64 0))]) (h':=[]) (args':=[.d (i64 c.chain.au.length),.d (.clo 83 [.ref [mD c (aO c) (bB c.chain.au 0)]])]) ⟨rfl,rfl,rfl,trivial⟩ trivial (by simp only[List.length_map];rfl) ?_;refine pn (QW 83 [.ref [mD c (aO c) (bB c.chain.au 0)]] (iM c (aO c)) c.chain.au.length (by omega) od Y st) [] rfl rfl rfl rfl ?_;rintro v xp s' ⟨rfl,rfl,hv⟩
  cases hF:j5 (iM c (aO c)) c.chain.au.length with
  | some r=>
   obtain⟨q,y⟩:=r;rw[hF]at hv;simp only at hv;subst hv;have hE:kE c=((q,y),0):=by simp[kE,h1,hF]
   rw[hE];refine⟨rfl,?_⟩;conv=>whnf
   exact af
  | none=>
   rw[hF]at hv;obtain⟨y,rfl⟩:=hv;have hE:kE c=(([],false),9):=by simp[kE,h1,hF]
   rw[hE];refine⟨rfl,?_⟩;conv=>whnf
   refine fV ?_;exact af
 ·have hE:kE c=(([],false),cg c (bJ c).2.2):=by simp[kE,h1]
  rw[hE,if_neg h1];conv=>whnf
  refine ai (fun _=>?_) (fun h=>absurd h (by simpa using h1));conv=>whnf
  refine fV ?_;exact af
def Hu(b:Bool):bH:=⟨⟨#[108,111,119]⟩,10,0,⟨20000,21000⟩,⟨2,4⟩,⟨100,20200⟩::(if b then [⟨200,18000⟩] else [])⟩
def BT:bH:=⟨⟨#[104,105,103,104]⟩,10,0,⟨18000,18000⟩,⟨5,5⟩,[]⟩
def bz(b:Bool):Case:=⟨⟨[Hu b,BT],10,20,100,⟨9000,12000⟩,[⟨30,500⟩,⟨60,1000⟩]⟩,⟨200,300,10,5⟩,1000,[⟨⟨20,30⟩,⟨20,40⟩,⟨0,20⟩,⟨0,5⟩⟩,⟨⟨20,30⟩,⟨0,10⟩,⟨0,10⟩,⟨10,15⟩⟩]⟩
set_option maxHeartbeats 2000000 in
theorem qM(b:Bool):aW Tryz.prog 24 [.bool b] (bz b).d:=by
 refine aW.fb (r:=.agg ((.vs [(Hu b).cells,BT.cells.take 7 ++ [.nils]])::(bz b).cells.tail)) ?_ (by cases b<;>rfl)
 cases b with
 | false=>
  refine aA Tryz.func24 rfl (ft:=NB) 1 fun {σ} Y st=>?_;conv=>whnf
  refine ae (gD 20000 21000) rfl rfl ?_;conv=>whnf
  refine ae (gD 2 4) rfl rfl ?_;conv=>whnf
  refine ae (gD 18000 18000) rfl rfl ?_;conv=>whnf
  refine ae (gD 5 5) rfl rfl ?_;conv=>whnf
  refine aj (gD 9000 12000) rfl rfl ?_;conv=>whnf
  refine aj (gD 20 30) rfl rfl ?_;conv=>whnf
  refine aj (gD 20 40) rfl rfl ?_;conv=>whnf
  refine aj (gD 0 20) rfl rfl ?_;conv=>whnf
  refine aj (gD 0 5) rfl rfl ?_;conv=>whnf
  refine aj (gD 20 30) rfl rfl ?_;conv=>whnf
  refine aj (gD 0 10) rfl rfl ?_;conv=>whnf
  refine aj (gD 0 10) rfl rfl ?_;conv=>whnf
  refine aj (gD 10 15) rfl rfl ?_;conv=>whnf
  exact al 4 (ds:=[.agg ((.vs [(Hu false).cells,BT.cells.take 7 ++ [.nils]])::(bz false).cells.tail)]) rfl ⟨⟨rfl,rfl⟩,rfl⟩
 | true=>
  refine aA Tryz.func24 rfl (ft:=NB) 1 fun {σ} Y st=>?_;conv=>whnf
  refine ae (gD 20000 21000) rfl rfl ?_;conv=>whnf
  refine ae (gD 2 4) rfl rfl ?_;conv=>whnf
  refine aL rfl ?_;conv=>whnf
  refine aL rfl ?_;conv=>whnf
  refine ae (gD 18000 18000) rfl rfl ?_;conv=>whnf
  refine ae (gD 5 5) rfl rfl ?_;conv=>whnf
  refine aj (gD 9000 12000) rfl rfl ?_;conv=>whnf
  refine aj (gD 20 30) rfl rfl ?_;conv=>whnf
  refine aj (gD 20 40) rfl rfl ?_;conv=>whnf
  refine aj (gD 0 20) rfl rfl ?_;conv=>whnf
  refine aj (gD 0 5) rfl rfl ?_;conv=>whnf
  refine aj (gD 20 30) rfl rfl ?_;conv=>whnf
  refine aj (gD 0 10) rfl rfl ?_;conv=>whnf
  refine aj (gD 0 10) rfl rfl ?_;conv=>whnf
  refine aj (gD 10 15) rfl rfl ?_;conv=>whnf
  exact al 4 (ds:=[.agg ((.vs [(Hu true).cells,BT.cells.take 7 ++ [.nils]])::(bz true).cells.tail)]) rfl ⟨⟨rfl,rfl⟩,rfl⟩
def kJ:dU:=⟨30,40,20,5,9000,[16500,13000]⟩
theorem Mx:aW Tryz.prog 30 [] kJ.d:=by
 refine aA Tryz.func30 rfl (ft:=Rp) 0 fun {σ} Y st=>?_;conv=>whnf
 exact al 2 (ds:=[kJ.d]) rfl ⟨⟨rfl,rfl⟩,rfl⟩
theorem U5:ni (bz false) 0 1000=(⟨16500,18500⟩,0):=by decide +kernel
theorem U6:pF (bz true) 0 = [1]:=by decide +kernel
theorem P9:gr (bz true) 0=0:=by decide +kernel
theorem U7:lG (bz false) 0=(⟨13612,17112⟩,0):=by decide +kernel
theorem U8:uw (bz false) 0 18=(4851,0):=by decide +kernel
theorem U9:nO (bz false) 10=((1,0,0),0):=by decide +kernel
theorem Va:nO (bz false) 20=((0,0,0),0):=by decide +kernel
theorem Vb:qp (bz false) 0 20=(kJ.d,(0,0),0):=by rfl
theorem Vc:Gs (bz false) 0 20 kJ=((0,0),0):=by decide +kernel
theorem Vd:jd (bz false)=([⟨20,20⟩],0):=by decide +kernel
theorem P5:fA (bz false)=(20,0):=by decide +kernel
theorem P6:kE (bz false)=(([],false),0):=by decide +kernel
theorem P7:fA (bz true)=(0,8):=by decide +kernel
theorem P8:ni (bz true) 0 5=(⟨0,0⟩,9):=by decide +kernel
def uC(a b:dU):Bool:=decide (a.depth=b.depth)&&(decide (a.bk=b.bk)&&(decide (a.current=b.current)&&(decide (a.bm=b.bm)&&(decide (a.hold=b.hold)&&decide (a.dq=b.dq)))))
theorem QV(a b:dU)(h:a.dq.length<1000000):aW Tryz.prog 35 [a.d,b.d] (.bool (uC a b)):=by
 refine aA Tryz.func35 rfl (ft:=Rv) 2 fun {σ} Y st=>?_;conv=>whnf
 by_cases h1:a.depth=b.depth
 ·rw[decide_eq_true h1]
  conv=>whnf
  by_cases h2:a.bk=b.bk
  ·rw[decide_eq_true h2]
   conv=>whnf
   by_cases h3:a.current=b.current
   ·rw[decide_eq_true h3]
    conv=>whnf
    by_cases h4:a.bm=b.bm
    ·rw[decide_eq_true h4]
     conv=>whnf
     by_cases h5:a.hold=b.hold
     ·rw[decide_eq_true h5]
      conv=>whnf
      refine ae (ds:=[bx a.dq,bx b.dq]) (JI a.dq b.dq h) rfl rfl ?_;conv=>whnf
      refine al 0 rfl ⟨⟨?_,rfl⟩,rfl⟩;simp[uC,bF,h1,h2,h3,h4,h5]
     ·rw[decide_eq_false h5]
      conv=>whnf
      refine al 0 rfl ⟨⟨?_,rfl⟩,rfl⟩;simp[uC,bF,h1,h2,h3,h4,h5]
    ·rw[decide_eq_false h4]
     conv=>whnf
     refine al 0 rfl ⟨⟨?_,rfl⟩,rfl⟩;simp[uC,bF,h1,h2,h3,h4]
   ·rw[decide_eq_false h3]
    conv=>whnf
    refine al 0 rfl ⟨⟨?_,rfl⟩,rfl⟩;simp[uC,bF,h1,h2,h3]
  ·rw[decide_eq_false h2]
   conv=>whnf
   refine al 0 rfl ⟨⟨?_,rfl⟩,rfl⟩;simp[uC,bF,h1,h2]
 ·rw[decide_eq_false h1]
  conv=>whnf
  refine al 0 rfl ⟨⟨?_,rfl⟩,rfl⟩;simp[uC,bF,h1]
theorem QE:aW Tryz.prog 6 [] (.bool true):=by
 refine aA Tryz.func6 rfl (ft:=Vw) 0 fun {σ} Y st=>?_;conv=>whnf
 refine ae (qM false) rfl rfl ?_;conv=>whnf
 refine ae (ds:=[(bz false).d,i64 0,i64 1000]) (Mu (bz false) 0 1000) rfl rfl ?_;rw[U5];conv=>whnf
 refine ae (qM true) rfl rfl ?_;conv=>whnf
 refine ae (ds:=[(bz true).d,i64 0]) (QC (bz true) 0) rfl rfl ?_;rw[U6,P9];conv=>whnf
 refine ae (qM false) rfl rfl ?_;conv=>whnf
 refine ae (ds:=[(bz false).d,i64 0]) (QD (bz false) 0) rfl rfl ?_;rw[U7];conv=>whnf
 refine ae (qM false) rfl rfl ?_;conv=>whnf
 refine ae (ds:=[(bz false).d,i64 0,i64 18]) (QF (bz false) 0 18) rfl rfl ?_;rw[U8];conv=>whnf
 refine ae (qM false) rfl rfl ?_;conv=>whnf
 refine ae (ds:=[(bz false).d,i64 10]) (GM (bz false) 10) rfl rfl ?_;rw[U9];conv=>whnf
 refine ae (qM false) rfl rfl ?_;conv=>whnf
 refine ae (ds:=[(bz false).d,i64 20]) (GM (bz false) 20) rfl rfl ?_;rw[Va];conv=>whnf
 refine ae (qM false) rfl rfl ?_;conv=>whnf
 refine ae (ds:=[(bz false).d,i64 0,i64 20]) (QI (bz false) 0 20) rfl rfl ?_;rw[Vb];conv=>whnf
 refine ae (qM false) rfl rfl ?_;conv=>whnf
 refine ae (Mx) rfl rfl ?_;conv=>whnf
 refine ae (ds:=[(bz false).d,i64 0,i64 20,kJ.d]) (QJ (bz false) 0 20 kJ) rfl rfl ?_;rw[Vc];conv=>whnf
 refine ae (qM false) rfl rfl ?_;conv=>whnf
 refine ae (ds:=[(bz false).d]) (QK (bz false)) rfl rfl ?_;rw[Vd];conv=>whnf
 refine ae (qM false) rfl rfl ?_;conv=>whnf
 refine ae (ds:=[(bz false).d]) (JJ (bz false)) rfl rfl ?_;rw[P5];conv=>whnf
 refine ae (qM false) rfl rfl ?_;conv=>whnf
 refine ae (ds:=[(bz false).d]) (QG (bz false)) rfl rfl ?_;rw[P6];conv=>whnf
 refine ae (qM true) rfl rfl ?_;conv=>whnf
 refine ae (ds:=[(bz true).d]) (JJ (bz true)) rfl rfl ?_;rw[P7];conv=>whnf
 refine ae (qM true) rfl rfl ?_;conv=>whnf
 refine ae (ds:=[(bz true).d,i64 0,i64 5]) (Mu (bz true) 0 5) rfl rfl ?_;rw[P8];conv=>whnf
 refine aj (gD 16500 18500) rfl rfl ?_;conv=>whnf
 refine aq (JI [1] [1] (by simp)) rfl 1 rfl ?_;conv=>whnf
 refine aj (gD 13612 17112) rfl rfl ?_;conv=>whnf
 refine aj (Mx) rfl rfl ?_;conv=>whnf
 refine aj (ds:=[kJ.d,kJ.d]) (QV kJ kJ (by decide)) rfl rfl ?_;conv=>whnf
 refine aj (gD 20 20) rfl rfl ?_;conv=>whnf
 refine aq (QL [⟨20,20⟩] [⟨20,20⟩] (by simp)) rfl 1 rfl ?_;conv=>whnf
 exact af
def uG(c:Case):Int:=cg c (bJ c).2.2
end Go.PX
