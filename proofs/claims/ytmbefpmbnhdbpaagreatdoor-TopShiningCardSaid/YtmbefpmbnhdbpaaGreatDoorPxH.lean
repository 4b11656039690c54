import Derived.Test.YtmbefpmbnhdbpaaGreatDoorPxG
import Derived.IntWalk
import Derived.RangeFuncNested
set_option linter.all false
namespace Go.PX
open Go.RowKit
theorem Fx{tb:List Nat}{d:Option Nat}{v:V}{h':Heap}(h:fU tb d v h'=true):gh (c8 tb d v h')=true:=by
 simp only[fU,Bool.and_eq_true]at h;exact h.2
theorem vQ{l:List Nat}(h:l.Nodup){i j a:Nat}(hi:l[i]?=some a)(hj:l[j]?=some a):i=j:=by
 obtain⟨AZ,G3⟩:=List.getElem?_eq_some_iff.1 hi;obtain⟨Rc,hj2⟩:=List.getElem?_eq_some_iff.1 hj;have hp:=List.pairwise_iff_getElem.1 h;rcases Nat.lt_trichotomy i j with dh|heq|YV
 ·exact absurd (G3.trans hj2.symm) (hp i j AZ Rc dh)
 ·exact heq
 ·exact absurd (hj2.trans G3.symm) (hp j i Rc AZ YV)
def mY(L L':Loc)(NL:List Nat)(c:Nat):Loc:=⟨fun x=>if x∈NL then L'.ρ (x-c+2000000) else L.ρ x,fun x=>if x∈NL then L'.κ (x-c+2000000) else L.κ x⟩
theorem Ht{L L':Loc}{NL:List Nat}{c x:Nat}(hx:x∉NL):(mY L L' NL c).ρ x=L.ρ x/\(mY L L' NL c).κ x=L.κ x:=⟨if_neg hx,if_neg hx⟩
theorem Hs{L L':Loc}{NL:List Nat}{c x:Nat}(hx:x∈NL):(mY L L' NL c).ρ x=L'.ρ (x-c+2000000)/\(mY L L' NL c).κ x=L'.κ (x-c+2000000):=⟨if_pos hx,if_pos hx⟩
theorem I9{h st h0:Heap}{R:Nat->Nat}{tb:List Nat}(hh:dR h st)(fB:jS R h 1000000 tb h0)(oe:∀ k id,tb[k]?=some id->R (1000000+k)=id) :
  ∀ i o,get h0 i=some o -> ∃ k id,i=1000000+k/\tb[k]?=some id/\R i=id/\get st id=some (kO R o):=by
 intro i o hi;obtain⟨k,id,h1,h2,h3⟩:=xa fB i o hi;exact⟨k,id,h1,h2,by rw[h1];exact oe k id h2,hh _ _ h3⟩
theorem U6{σ:Type}:∀ (ws:List Wr) (st st':St σ),st.env=st'.env->st.heap=st'.heap->ef (aL st ws)=ef (aL st' ws)
 | [],⟨e,h,s⟩,⟨e',h',s'⟩,h1,h2=>by
  simp only at h1 h2;subst h1;subst h2;rfl
 | w::r,⟨e,h,s⟩,⟨e',h',s'⟩,h1,h2=>by
  simp only at h1 h2;subst h1;subst h2;rw[aL,aL];exact U6 r _ _ (by cases w<;>rfl) (by cases w<;>rfl)
theorem fZ{L L2:Loc}{y:Nat}{o:Obj}(h:L2.κ y=L.κ y)(hb:aS L2 y o):aS L y o:=by
 cases o with
 | arr sz es=>intro e;exact hb (h.trans e)
 | box c=>exact trivial
 | map cY=>exact trivial
 | iter s n=>exact trivial
 | buf t s=>exact trivial
 | tb t l=>exact trivial
 | mit v n l u=>exact trivial
def yl(R:Nat->Nat)(L:Loc)(h0:Heap)(b:Nat):Prop:=∃ i o,get h0 i=some o/\aS ⟨fun i=>L.ρ (R i),fun i=>L.κ (R i)⟩ i o/\L.ρ (R i)=b
theorem pk{σ:Type}{cx:Cx σ}{r:Option Nat}{m:List Nat}{L:Loc}{F:Nat->Nat}{st:St σ}{a:Act}{w:World}{tb:List Nat}{d:Option Nat}{v:V}{h':Heap}(hB:fU tb d v h'=true){R:Nat->Nat}(hR:fj tb (d.getD 0)=R)
  {h h0:Heap} (hh:dR h st.heap) (fB:jS R h 1000000 tb h0) (hg:Good cx r m L F st a w) (hd:∀ k,d=some k->k<a.tmps.size) {s':σ} {x:Value} {w':World} {L':Loc} {F':Nat->Nat}
  (uo:cx.HG s' w' F') (s6:∀ b,cx.C s' b->b<w'.heap.size) (EM:∀ b,b<w.heap.size->¬ yl R L h0 b->¬ cx.C st.s b->¬ cx.C s' b)
  (iL:∀ b,b<w.heap.size->¬ yl R L h0 b->¬ cx.C st.s b->w'.heap[b]?=w.heap[b]?/\F' b=F b) (zb:∀ b,w'.heap.size<=b->F' b=0)
  (xG:∀ i o,get h' i=some o->bU cx.yv L' F' w' i o)
  (E1:∀ i o,get h' i=some o->aS L' i o->F' (L'.ρ i)=0/\¬ cx.C s' (L'.ρ i)/\(L'.ρ i<w.heap.size->yl R L h0 (L'.ρ i)))
  (SZ:∀ i j o p,get h' i=some o->get h' j=some p->aS L' i o->aS L' j p->L'.ρ i=L'.ρ j->i=j)
  (hv:br cx.yv L' F' w' v x) (tr:Tr F w F' w') (jF:nz ⟨fun i=>L.ρ (R i),fun i=>L.κ (R i)⟩ L') :
  ∃ L2,Good cx r m L2 F' (aL ⟨st.env,st.heap,s'⟩ (c8 tb d v h')) (a.put d x) w':=by
 have MT:=Fx hB;simp only[fU,Bool.and_eq_true]at hB;obtain⟨⟨⟨⟨⟨⟨⟨⟨⟨b1,b2⟩,b3⟩,b4⟩,b5⟩,b6⟩,b7⟩,b8⟩,b9⟩,_⟩:=hB;have rT:=gp b1;have b4:=iD b4;have b5:=sP b5;have b6:=sP b6;have b7:∀ i∈dZ h',i<2000064:=fun i hi=>Nat.le_of_ble_eq_true (List.all_eq_true.1 b7 i hi);have b8:=Nat.le_of_ble_eq_true b8;have b9:=Nat.le_of_ble_eq_true b9;rw[hR]at b4;have oe:∀ k id,tb[k]?=some id->R (1000000+k)=id:=fun k id hk=>by rw[<- hR];exact o8 hk b9
 have UP:∀ i,2000000<=i->R i=100000+64*d.getD 0+(i-2000000):=fun i hi=>by rw[<- hR];exact JC hi
 obtain⟨vn,Q8⟩:∃ vn,vn=yl R L h0:=⟨_,rfl⟩;rw[<- Q8]at EM iL E1;have Ov:∀ b,vn b ↔ ∃ i o,get h0 i=some o/\aS ⟨fun i=>L.ρ (R i),fun i=>L.κ (R i)⟩ i o/\L.ρ (R i)=b:=fun b=>by rw[Q8];exact Iff.rfl
 have SW:=I9 hh fB oe;have Mz:∀ i o,get h0 i=some o->bU cx.yv ⟨fun i=>L.ρ (R i),fun i=>L.κ (R i)⟩ F w i o:=fun i o hi=>by
  obtain⟨k,id,rfl,h2,h3,h4⟩:=SW i o hi;have:=hg.heap.obj id _ h4;rw[<- h3]at this;exact(bU.oc (R:=R) (L:=⟨fun i=>L.ρ (R i),fun i=>L.κ (R i)⟩) (L':=L) (1000000+k) o (fun _ _=>⟨rfl,rfl⟩) ⟨rfl,rfl⟩).1 this
 let NL:=(dZ h').map R
 obtain⟨L2,YP⟩:∃ L2,L2=mY L L' NL (100000+64*d.getD 0):=⟨_,rfl⟩;have qg:∀ x,x∉NL->L2.ρ x=L.ρ x/\L2.κ x=L.κ x:=fun x hx=>by rw[YP];exact Ht hx
 have UL:∀ i,i∈dZ h'->L2.ρ (R i)=L'.ρ i/\L2.κ (R i)=L'.κ i:=by
  intro i hi;have AY:=pC hi;have hm:R i∈NL:=List.mem_map.2 ⟨i,hi,rfl⟩;have:R i-(100000+64*d.getD 0)+2000000=i:=by rw[UP i AY];omega
  have h2:=Hs (L:=L) (L':=L') (c:=100000+64*d.getD 0) hm;rw[this]at h2;rw[YP];exact h2
 have RX:∀ i,1000000<=i->i<1000000+tb.length->L2.ρ (R i)=L'.ρ i/\L2.κ (R i)=L'.κ i:=by
  intro i h1 h2;obtain⟨k,nq⟩:∃ k,i=1000000+k:=⟨i-1000000,by omega⟩;have dh:k<tb.length:=by omega
  obtain⟨y,hk⟩:∃ y,tb[k]?=some y:=⟨_,List.getElem?_eq_getElem dh⟩;have hRi:R i=y:=by rw[nq];exact oe _ _ hk
  have hn:R i∉NL:=by rw[hRi];exact b4 _ (List.mem_of_getElem? hk)
  obtain⟨p1,p2⟩:=jF i ⟨h1,by omega⟩;exact⟨(qg _ hn).1.trans p1.symm,(qg _ hn).2.trans p2.symm⟩
 have vm:∀ i,((1000000<=i/\i<1000000+tb.length)\/i∈dZ h')->L2.ρ (R i)=L'.ρ i/\L2.κ (R i)=L'.κ i:=fun i hi=>hi.elim (fun h=>RX i h.1 h.2) (UL i);have dX:=hg.sU NL;have Xi:=Ix NL st (fun _=>False) (fun _ h=>h.elim);have qc:(sU st NL).s=st.s:=QL _ _;have Wz:∀ (ws:List Wr),ef (aL (⟨st.env,st.heap,s'⟩:St σ) ws)=ef (aL st ws):=fun ws=>U6 ws _ _ rfl rfl;have Lg:ef (aL st (c8 tb d v h'))=cV (ef (sU st NL)) (c8 tb d v h'):=by
  rw[EI _ _ MT,H8,hR]
 have Sz:∀ x∈NL,100000<=x/\x<1000000:=by
  intro x hx;obtain⟨i,hi,rfl⟩:=List.mem_map.1 hx;have h1:=pC hi;have h2:=b7 i hi;rw[UP i h1];omega
 have De:c8 tb d v h'=rf R h' (dZ h')++(mU R h' 1000000 tb++bw d (oc R v)):=by rw[<- hR];rfl
 have aaM:∀ t u,get (aL (⟨st.env,st.heap,s'⟩:St σ) (c8 tb d v h')).env t=some u->(d=some t/\u=oc R v)\/(d≠some t/\get (sU st NL).env t=some u):=by
  intro t u Y4;have ht:(ef (aL (⟨st.env,st.heap,s'⟩:St σ) (c8 tb d v h'))).env t=some u:=Y4;clear Y4;rw[Wz,Lg,De,lK,lK]at ht
  cases d with
  | none=>
   simp only[bw,cV,zD,Dp]at ht;exact .inr ⟨by simp,ht⟩
  | some d=>
   simp only[bw,cV,gU,zD,Dp]at ht;split at ht
   ·rename_i e1;cases ht;exact .inl ⟨by rw[e1],rfl⟩
   ·rename_i e1;exact .inr ⟨by simpa using Ne.symm e1,ht⟩
 have EY:∀ y o,get (aL (⟨st.env,st.heap,s'⟩:St σ) (c8 tb d v h')).heap y=some o->(∃ i o0,((1000000<=i/\i<1000000+tb.length)\/i∈dZ h')/\y=R i/\get h' i=some o0/\o=kO R o0)\/(y∉tb/\y∉NL/\get (sU st NL).heap y=some o):=by
  intro y o hy;have hy:(ef (aL (⟨st.env,st.heap,s'⟩:St σ) (c8 tb d v h'))).heap y=some o:=hy;rw[Wz,Lg,De,lK,lK]at hy;have hy:(cV (cV (ef (sU st NL)) (rf R h' (dZ h'))) (mU R h' 1000000 tb)).heap y=some o:=by
   cases d with
   | none=>exact hy
   | some d=>exact hy
  rcases BQ R h' tb 1000000 _ y o hy with⟨k,o0,k1,k2,k3⟩|⟨k1,k2⟩
  ·have hk:k<tb.length:=(List.getElem?_eq_some_iff.1 k1).1
   exact .inl ⟨1000000+k,o0,.inl ⟨by omega,by omega⟩,(oe k y k1).symm,k2,k3⟩
  ·rcases Fv R h' (dZ h') _ y o (fun i hi=>xg hi) k2 with⟨i,o0,j1,j2,j3,j4⟩|⟨j1,j2⟩
   ·exact .inl ⟨i,o0,.inr j1,j2,j3,j4⟩
   ·exact .inr ⟨k1,j1,j2⟩
 have rest:∀ y o,y∉tb->y∉NL->get (sU st NL).heap y=some o->aS L y o->¬ vn (L.ρ y):=by
  intro y o h1 h2 hy hb WN;obtain⟨i,o',hi,mf,qe⟩:=(Ov _).1 WN;obtain⟨k,id,g1,g2,g3,g4⟩:=SW i o' hi;have WD:id∉NL:=b4 _ (List.mem_of_getElem? g2);have aaH:get (sU st NL).heap id=some (qR NL (kO R o')):=by
   rw[oi,if_neg WD,g4];rfl
  have nW:aS L id (kO R o'):=by rw[<- g3];exact(cE (R:=R) (L:=⟨fun i=>L.ρ (R i),fun i=>L.κ (R i)⟩) (L':=L) i o' rfl).2 mf
  have Ph:∀ (l:List Nat) (p:Obj),aS L id p->aS L id (qR l p):=by
   intro l
   induction l with
   | nil=>exact fun p hp=>hp
   | cons i r ih=>exact fun p hp=>ih _ ((fh L i id p).2 hp)
  have:=dX.heap.inj id y _ o aaH hy (Ph NL _ nW) hb (by rw[<- g3];exact qe);subst this;exact h1 (List.mem_of_getElem? g2)
 have mM:(aL (⟨st.env,st.heap,s'⟩:St σ) (c8 tb d v h')).s=s':=dG _ _;have trk:Tr F w F' w':=tr;refine⟨L2,⟨by rw[mM];exact uo,fun b hb=>s6 b (by rw[<- mM];exact hb),zb,?_,?_,?_⟩,?_,?_,?_,hg.xe,?_,?_,?_⟩
 ·intro y o hy
  rcases EY y o hy with⟨i,o0,hi,rfl,h2,rfl⟩|⟨h1,h2,h3⟩
  ·have:=xG i o0 h2
   refine(bU.oc (R:=R) (L:=L') (L':=L2) i o0 (fun j hj=>vm j (b5 j ((aI h2).2 j (eH j o0 hj)))) (vm i hi)).2 this
  ·refine bU.mono tr y o (fun j hj=>qg j fun hm=>(Xi j (.inl hm)).heap y o h3 hj) (qg y h2) (fun hb=>?_) (dX.heap.obj y o h3)
   exact(iL _ ((dX.heap.obj y o h3).lt hb) (rest y o h1 h2 h3 hb) (by rw[<- qc];exact(dX.heap.own y o h3 hb).2)).1
 ·intro y o hy hb
  rcases EY y o hy with⟨i,o0,hi,rfl,h2,rfl⟩|⟨h1,h2,h3⟩
  ·have lO:aS L' i o0:=(cE (R:=R) (L:=L') (L':=L2) i o0 (vm i hi).2).1 hb
   obtain⟨k1,k2,_⟩:=E1 i o0 h2 lO;rw[(vm i hi).1];exact⟨k1,by rw[mM];exact k2⟩
  ·have lO:aS L y o:=fZ (qg y h2).2 hb
   obtain⟨k1,k2⟩:=dX.heap.own y o h3 lO;rw[(qg y h2).1];rw[qc]at k2;have dh:=(dX.heap.obj y o h3).lt lO;have hr:=rest y o h1 h2 h3 lO;exact⟨(iL _ dh hr k2).2.trans k1,by rw[mM];exact EM _ dh hr k2⟩
 ·intro y z o p hy hz IP YS OD
  have out:∀ y o,y∉tb->y∉NL->get (sU st NL).heap y=some o->aS L2 y o->aS L y o/\(L.ρ y<w.heap.size/\¬ vn (L.ρ y))/\L2.ρ y=L.ρ y:=by
   intro y o h1 h2 h3 hb;have lO:aS L y o:=fZ (qg y h2).2 hb;exact⟨lO,⟨(dX.heap.obj y o h3).lt lO,rest y o h1 h2 h3 lO⟩,(qg y h2).1⟩
  rcases EY y o hy with⟨i,o0,hi,rfl,h2,rfl⟩|⟨h1,h2,h3⟩<;>rcases EY z p hz with⟨j,p0,hj,rfl,g2,rfl⟩|⟨g1,g2,g3⟩
  ·have nW:aS L' i o0:=(cE (R:=R) (L:=L') (L':=L2) i o0 (vm i hi).2).1 IP
   have nr:aS L' j p0:=(cE (R:=R) (L:=L') (L':=L2) j p0 (vm j hj).2).1 YS;rw[(vm i hi).1,(vm j hj).1]at OD;rw[SZ i j o0 p0 h2 g2 nW nr OD]
  ·exfalso
   have nW:aS L' i o0:=(cE (R:=R) (L:=L') (L':=L2) i o0 (vm i hi).2).1 IP;obtain⟨q1,q2,q3⟩:=out z p g1 g2 g3 YS;rw[(vm i hi).1,q3]at OD;exact q2.2 (by rw[<- OD];exact(E1 i o0 h2 nW).2.2 (by rw[OD];exact q2.1))
  ·exfalso
   have nr:aS L' j p0:=(cE (R:=R) (L:=L') (L':=L2) j p0 (vm j hj).2).1 YS;obtain⟨q1,q2,q3⟩:=out y o h1 h2 h3 IP;rw[(vm j hj).1,q3]at OD;exact q2.2 (by rw[OD];exact(E1 j p0 g2 nr).2.2 (by rw[<- OD];exact q2.1))
  ·obtain⟨q1,q2,q3⟩:=out y o h1 h2 h3 IP
   obtain⟨q4,q5,q6⟩:=out z p g1 g2 g3 YS;rw[q3,q6]at OD;exact dX.heap.inj y z o p h3 g3 q1 q4 OD
 ·intro t u ht
  rcases aaM t u ht with⟨rfl,rfl⟩|⟨h1,h2⟩
  ·refine⟨x,?_,?_⟩
   ·simp[Act.put,Array.getElem?_setIfInBounds,hd t rfl]
   ·exact(br.oc (R:=R) (L:=L') (L':=L2) v x fun j hj=>vm j (b6 j (jy j v hj))).2 hv
  ·obtain⟨y,hy,E6⟩:=dX.env t u h2
   refine⟨y,?_,br.mono tr u y (fun j hj=>qg j fun hm=>(Xi j (.inl hm)).env t u h2 hj) E6⟩
   cases d with
   | none=>exact hy
   | some d=>
    simp only[Act.put];rw[Array.getElem?_setIfInBounds_ne (by rintro rfl;exact h1 rfl)];exact hy
 ·cases d with
  | none=>exact hg.tZ
  | some d=>exact hg.tZ
 ·intro b hb
  obtain⟨k1,k2⟩:=hg.pB b hb;have pq:¬ vn b:=?_
  ·refine⟨?_,by rw[mM];exact EM b (bP k1) pq k2⟩
   rw[(iL b (bP k1) pq k2).1];exact k1
  intro WN;obtain⟨i,o,hi,iU,rfl⟩:=(Ov _).1 WN;have:=Mz i o hi
  cases o with
  | box c=>obtain⟨c',T,hc,_⟩:=this;rw[k1]at hc;cases hc
  | arr sz es=>
   obtain⟨_,_,h⟩:=this;rcases h with⟨_,hk⟩|⟨c,T,hc,_⟩
   ·exact iU hk
   ·rw[k1]at hc;cases hc
  | map cY=>obtain⟨en,c,hc,_⟩:=this;rw[k1]at hc;cases hc
  | iter s n=>have hc:w.heap[L.ρ (R i)]?=_:=this;rw[k1]at hc;cases hc
  | buf t s=>obtain⟨_,hc,_⟩:=this;rw[k1]at hc;cases hc
  | tb t l=>obtain⟨_,hc,_⟩:=this;rw[k1]at hc;cases hc
  | mit v n l u=>obtain⟨_,_,_,hc,_⟩:=this;rw[k1]at hc;cases hc
 ·intro l hl
  obtain⟨lp,⟨k1,k0⟩,k2⟩:=hg.lk l hl;have pq:¬ vn l:=?_
  ·refine⟨lp,⟨?_,k0⟩,by rw[mM];exact EM l (bP k1) pq k2⟩
   rw[(iL l (bP k1) pq k2).1];exact k1
  intro WN;obtain⟨i,o,hi,iU,rfl⟩:=(Ov _).1 WN;have:=Mz i o hi
  cases o with
  | box c=>obtain⟨c',T,hc,_⟩:=this;rw[k1]at hc;cases hc
  | arr sz es=>
   obtain⟨_,_,h⟩:=this;rcases h with⟨_,hk⟩|⟨c,T,hc,_⟩
   ·exact iU hk
   ·rw[k1]at hc;cases hc
  | map cY=>obtain⟨en,c,hc,_⟩:=this;rw[k1]at hc;cases hc
  | iter s n=>have hc:w.heap[L.ρ (R i)]?=_:=this;rw[k1]at hc;cases hc
  | buf t s=>obtain⟨_,hc,_⟩:=this;rw[k1]at hc;cases hc
  | tb t l=>obtain⟨_,hc,_⟩:=this;rw[k1]at hc;cases hc
  | mit v n l u=>obtain⟨_,_,_,hc,_⟩:=this;rw[k1]at hc;cases hc
 ·intro i hi
  have hn:i∉NL:=fun hm=>by have:=Sz i hm;unfold pinned at hi;omega
  rw[(qg i hn).1,(qg i hn).2];exact hg.jF i hi
 ·rw[fM];exact hg.ve
theorem vD{σ:Type}{cx:Cx σ}{r:Option Nat}{m:List Nat}{L:Loc}{F:Nat->Nat}{st:St σ}{a:Act}{w:World}{tb:List Nat}{R:Nat->Nat}{h h0:Heap}(hh:dR h st.heap)(fB:jS R h 1000000 tb h0)
  (oe:∀ k id,tb[k]?=some id->R (1000000+k)=id) (rT:tb.Nodup) (hg:Good cx r m L F st a w) :
  a7 cx ⟨fun i=>L.ρ (R i),fun i=>L.κ (R i)⟩ F h0 st.s w:=by
 have SW:=I9 hh fB oe;refine⟨hg.heap.hg,hg.heap.hP,hg.heap.fresh,fun i o hi=>?_,fun i o hi iU=>?_,fun i j o p hi hj mf jt qe=>?_⟩
 ·obtain⟨k,id,rfl,h2,h3,h4⟩:=SW i o hi
  have:=hg.heap.obj id _ h4;rw[<- h3]at this;exact(bU.oc (R:=R) (L:=⟨fun i=>L.ρ (R i),fun i=>L.κ (R i)⟩) (L':=L) (1000000+k) o (fun _ _=>⟨rfl,rfl⟩) ⟨rfl,rfl⟩).1 this
 ·obtain⟨k,id,h1,h2,h3,h4⟩:=SW i o hi
  have lO:aS L id (kO R o):=by rw[<- h3];exact(cE (R:=R) (L:=⟨fun i=>L.ρ (R i),fun i=>L.κ (R i)⟩) (L':=L) i o rfl).2 iU
  obtain⟨k1,k2⟩:=hg.heap.own id _ h4 lO;rw[<- h3]at k1 k2;exact⟨k1,k2⟩
 ·obtain⟨k,id,h1,h2,h3,h4⟩:=SW i o hi
  obtain⟨k',pz,BI,h2',YH,h4'⟩:=SW j p hj;have nW:aS L id (kO R o):=by rw[<- h3];exact(cE (R:=R) (L:=⟨fun i=>L.ρ (R i),fun i=>L.κ (R i)⟩) (L':=L) i o rfl).2 mf
  have nr:aS L pz (kO R p):=by rw[<- YH];exact(cE (R:=R) (L:=⟨fun i=>L.ρ (R i),fun i=>L.κ (R i)⟩) (L':=L) j p rfl).2 jt
  have qe:L.ρ (R i)=L.ρ (R j):=qe;have:=hg.heap.inj id pz _ _ h4 h4' nW nr (by rw[<- h3,<- YH];exact qe);subst this;rw[h1,BI,vQ rT h2 h2']
def Dl{σ:Type}(cx:Cx σ)(s0:σ)(w:World)(F:Nat->Nat)(vn:Nat->Prop):Cx σ where
 C:=fun s b=>cx.C s b\/(b<w.heap.size/\¬ vn b)
 HG:=fun s w' F'=>cx.HG s w' F'/\w.heap.size<=w'.heap.size/\(∀ b,b<w.heap.size->¬ cx.C s0 b->¬ cx.C s b) /\ ∀ b,b<w.heap.size->¬ vn b->¬ cx.C s0 b->w'.heap[b]?=w.heap[b]?/\F' b=F b
 yv:=cx.yv
 B7:=cx.B7
 pρ:=cx.pρ
 pκ:=cx.pκ
 gE:=by
  rintro s w1 F1 w2 F2 ⟨h1,h0,h2,h3⟩ tr hf hk;refine⟨cx.gE h1 tr hf fun b hb=>hk b (.inl hb),Nat.le_trans h0 tr.size,h2,fun b hb hl hc=>?_⟩;obtain⟨k1,k2⟩:=hk b (.inr ⟨hb,hl⟩);obtain⟨k3,k4⟩:=h3 b hb hl hc;exact⟨k1.trans k3,k2.trans k4⟩
theorem mT{σ:Type}{P:Program}{Y:Hd σ}{cx:Cx σ}{s0:σ}{w:World}{F:Nat->Nat}{vn:Nat->Prop}(hY:cC P Y cx):cC P Y (Dl cx s0 w F vn):=by
 refine⟨?_,fun s w F hh=>hY.laid s w F hh.1⟩;intro l hl args h s Q hy L1 F1 aT w1 hh hr;obtain⟨uo,dD,EM,iL⟩:=hh.hg;obtain⟨fn,tmps,xR,body,h1,h2⟩:=hY.yld l hl args h s Q hy L1 F1 aT w1 ⟨uo,fun b hb=>hh.hP b (.inl hb),hh.fresh,hh.obj,fun id o ho hb=>⟨(hh.own id o ho hb).1,fun hC=>(hh.own id o ho hb).2 (.inl hC)⟩,hh.inj⟩ hr;refine⟨fn,tmps,xR,body,h1,h2.mono ?_⟩;rintro e w' ⟨x,he,v,h',s',L',F',hq,nn,hv,tr,jF,k1,k2,k3⟩;have gN:∀ b,b<w.heap.size->¬ vn b->b<w1.heap.size /\ ∀ id o,get h id=some o->aS L1 id o->L1.ρ id≠b:=fun b hb hl=>
  ⟨hh.hP b (.inr ⟨hb,hl⟩),fun id o ho iU e=>(hh.own id o ho iU).2 (.inr ⟨by rw[e];exact hb,by rw[e];exact hl⟩)⟩
 refine⟨x,he,v,h',s',L',F',hq,⟨⟨nn.hg,Nat.le_trans dD tr.size,fun b hb hc=>k1 b (Nat.lt_of_lt_of_le hb dD) (EM b hb hc),fun b hb hl hc=>?_⟩,fun b hb=>?_,nn.fresh,nn.obj,fun id o ho hb=>⟨(nn.own id o ho hb).1,fun hC=>?_⟩,nn.inj⟩,hv,tr,jF,fun b hb hC Mw=>?_,fun b hb hC=>k2 b hb (fun h=>hC (.inl h)),k3⟩
 ·obtain⟨p1,p2⟩:=gN b hb hl
  obtain⟨q1,q2⟩:=iL b hb hl hc;obtain⟨r1,r2⟩:=k2 b p1 (EM b hb hc) p2;exact⟨r1.trans q1,r2.trans q2⟩
 ·rcases hb with hb|⟨hb,hl⟩
  ·exact nn.hP b hb
  ·exact Nat.lt_of_lt_of_le (gN b hb hl).1 tr.size
 ·rcases hC with hC|⟨c1,c2⟩
  ·exact(nn.own id o ho hb).2 hC
  ·obtain⟨p1,p2⟩:=gN _ c1 c2
   obtain⟨pz,o',J5,lO,e⟩:=k3 id o ho hb p1;exact p2 pz o' J5 lO e
 ·rcases Mw with Mw|Mw
  ·exact k1 b hb (fun h=>hC (.inl h)) Mw
  ·exact hC (.inr Mw)
theorem En{σ:Type}{P:Program}{Y:Hd σ}{f:FuncId}{args0:List V}{h0:Heap}{Q:V->Heap->σ->Prop}{cx:Cx σ}{r:Option Nat}{m:List Nat}{L:Loc}{F:Nat->Nat}{st:St σ}{a:Act}{w:World}(hf:Lu P Y f args0 h0 st.s Q)
  (tb:List Nat) {h:Heap} {d:Option Nat} {args:List V} (dM:sq (fj tb (d.getD 0)) args0=args) (fB:jS (fj tb (d.getD 0)) h 1000000 tb h0) (rT:nodupB tb=true) (ze:Nat.ble tb.length 1000=true)
  (hY:cC P Y cx) (hh:dR h st.heap) (hg:Good cx r m L F st a w) (hd:∀ k,d=some k->k<a.tmps.size) {aT:Array Value} (hr:aq cx.yv L F w args aT.toList) :
  CallsIn Fence.wide 0 P f aT w fun e w'=>∃ x,e = .returned x /\ ∃ v h' s',Q v h' s'/\(fU tb d v h'=true -> ∃ L2 F',Good cx r m L2 F' (aL ⟨st.env,st.heap,s'⟩ (c8 tb d v h')) (a.put d x) w'/\Tr F w F' w'):=by
 have rT:=gp rT;have ze:=Nat.le_of_ble_eq_true ze;obtain⟨R,hR⟩:∃ R,R=fj tb (d.getD 0):=⟨_,rfl⟩;have oe:∀ k id,tb[k]?=some id->R (1000000+k)=id:=fun k id hk=>by rw[hR];exact o8 hk ze
 rw[<- hR]at dM fB;subst dM;have hH:=vD hh fB oe rT hg;have EO:a7 (Dl cx st.s w F (yl R L h0)) ⟨fun i=>L.ρ (R i),fun i=>L.κ (R i)⟩ F h0 st.s w:=
  ⟨⟨hg.heap.hg,Nat.le_refl _,fun b hb hc=>hc,fun b hb hl hc=>⟨rfl,rfl⟩⟩,fun b hb=>hb.elim (hg.heap.hP b) (fun h=>h.1),hH.fresh,hH.obj,fun i o hi iU=>⟨(hH.own i o hi iU).1,fun hC=>hC.elim (hH.own i o hi iU).2 fun hC=>hC.2 ⟨i,o,hi,iU,rfl⟩⟩,hH.inj⟩
 have vC:aq cx.yv ⟨fun i=>L.ρ (R i),fun i=>L.κ (R i)⟩ F w args0 aT.toList:=(aq.oc (R:=R) args0 _ fun _ _=>⟨rfl,rfl⟩).1 hr;have eh:=hf.run _ (mT hY) _ F aT w EO vC;refine eh.mono ?_;rintro en w' ⟨x,rfl,v,h',s',L',F',hq,rP,hv,tr,jF⟩;refine⟨x,rfl,v,h',s',hq,fun hB=>?_⟩;obtain⟨uo,_,EM,iL⟩:=rP.hg;obtain⟨L2,iK⟩:=pk hB hR.symm hh fB hg hd uo (fun b hb=>rP.hP b (.inl hb)) (fun b hb hl hc=>EM b hb hc) iL rP.fresh rP.obj
  (fun i o hi hb=>⟨(rP.own i o hi hb).1,fun hC=>(rP.own i o hi hb).2 (.inl hC),fun dh=>Classical.byContradiction fun hl=>(rP.own i o hi hb).2 (.inr ⟨dh,hl⟩)⟩)
  rP.inj hv tr jF
 exact⟨L2,F',iK,tr⟩
theorem tu{P:Program}{f:FuncId}{args0:List V}{h0:Heap}{v0:V}{h1:Heap}(hf:tH P f args0 h0 fun v h'=>v=v0/\h'=h1)(tb:List Nat){e:Env}{h:Heap}{d:Option Nat}{args:List V}
  (dM:sq (fj tb (d.getD 0)) args0=args) (fB:jS (fj tb (d.getD 0)) h 1000000 tb h0) (hB:fU tb d v0 h1=true):ny P e h d f args (c8 tb d v0 h1):=by
 refine⟨(hf (σ:=Unit) { y:=fun _ _ _ _=>False } ()).enter,?_⟩;intro σ cx E0 r m L F st a w aT he hh hg hd hr;have Sw:=hB;simp only[fU,Bool.and_eq_true]at Sw;obtain⟨⟨⟨⟨⟨⟨⟨⟨⟨b1,b2⟩,b3⟩,b4⟩,b5⟩,b6⟩,b7⟩,b8⟩,b9⟩,_⟩:=Sw;refine(En (hf ({ y:=fun _ _ _ _=>False }:Hd σ) st.s) tb dM fB b1 b9 ⟨fun _ _ _ _ _ _ hy=>hy.elim,E0⟩ hh hg hd hr).mono ?_;rintro en w' ⟨x,rfl,v,h',s',⟨⟨rfl,rfl⟩,rfl⟩,hk⟩;obtain⟨L2,F',iK,tr⟩:=hk hB;exact⟨x,rfl,L2,F',iK,tr⟩
theorem LY{σ:Type}{P:Program}{Y:Hd σ}{f:FuncId}{args0:List V}{h0:Heap}{s:σ}{Q:V->Heap->σ->Prop}(hf:Lu P Y f args0 h0 s Q)(tb:List Nat){e:Env}{h:Heap}{d:Option Nat}{args:List V}{K:St σ->Prop}
  (dM:sq (fj tb (d.getD 0)) args0=args) (fB:jS (fj tb (d.getD 0)) h 1000000 tb h0) (rT:nodupB tb=true) (ze:Nat.ble tb.length 1000=true)
  (hq:∀ v h1 s',Q v h1 s'->fU tb d v h1=true/\K (aL ⟨e,h,s'⟩ (c8 tb d v h1))):eg P Y ⟨e,h,s⟩ d f args K:=by
 refine⟨hf.enter,fun cx hY r m L F a w aT hg hd hr=>?_⟩;refine(En (st:=⟨e,h,s⟩) hf tb dM fB rT ze hY (fun _ _ h=>h) hg hd hr).mono ?_;rintro en w' ⟨x,rfl,v,h',s',hv,hk⟩;obtain⟨hB,hK⟩:=hq _ _ _ hv;obtain⟨L2,F',iK,tr⟩:=hk hB;exact .inl ⟨x,rfl,_,L2,F',hK,iK,tr⟩
theorem DT{σ:Type}{P:Program}{Y:Hd σ}{args0:List V}{h0:Heap}{s:σ}{Q:V->Heap->σ->Prop}(tb:List Nat){e:Env}{h:Heap}{d:Option Nat}{args:List V}{K:St σ->Prop}(hy:Y.y args0 h0 s Q)
  (dM:sq (fj tb (d.getD 0)) args0=args) (fB:jS (fj tb (d.getD 0)) h 1000000 tb h0) (rT:nodupB tb=true) (ze:Nat.ble tb.length 1000=true)
  (hq:∀ v h1 s',Q v h1 s'->fU tb d v h1=true/\K (aL ⟨e,h,s'⟩ (c8 tb d v h1))):GD P Y ⟨e,h,s⟩ d args K:=by
 refine⟨fun cx hY l hl r m L F a w aT hg hd hr=>?_⟩;have rT:=gp rT;have ze:=Nat.le_of_ble_eq_true ze;obtain⟨R,hR⟩:∃ R,R=fj tb (d.getD 0):=⟨_,rfl⟩;have oe:∀ k id,tb[k]?=some id->R (1000000+k)=id:=fun k id hk=>by rw[hR];exact o8 hk ze
 rw[<- hR]at dM fB;subst dM;have hH:=vD (st:=⟨e,h,s⟩) (fun _ _ h=>h) fB oe rT hg;obtain⟨fn,tmps,xR,body,h1,h2⟩:=hY.yld l hl args0 h0 s Q hy ⟨fun i=>L.ρ (R i),fun i=>L.κ (R i)⟩ F aT w hH ((aq.oc (R:=R) args0 _ fun _ _=>⟨rfl,rfl⟩).1 hr);refine⟨fn,tmps,xR,body,h1,h2.mono ?_⟩;rintro en w' ⟨x,rfl,v,h',s',L',F',hv,rP,E5,tr,jF,k1,k2,k3⟩;obtain⟨hB,hK⟩:=hq _ _ _ hv;have pq:∀ b,¬ yl R L h0 b -> ∀ id o,get h0 id=some o->aS ⟨fun i=>L.ρ (R i),fun i=>L.κ (R i)⟩ id o->L.ρ (R id)≠b:=fun b hb id o ho iU e=>hb ⟨id,o,ho,iU,e⟩;obtain⟨L2,iK⟩:=pk (st:=⟨e,h,s⟩) hB hR.symm (fun _ _ h=>h) fB hg hd rP.hg rP.hP (fun b hb hl hc=>k1 b hb hc) (fun b hb hl hc=>k2 b hb hc (pq b hl)) rP.fresh rP.obj
  (fun i o hi hb=>⟨(rP.own i o hi hb).1,(rP.own i o hi hb).2,fun dh=>by
   obtain⟨pz,o',J5,lO,e'⟩:=k3 i o hi hb dh;exact⟨pz,o',J5,lO,e'⟩⟩)
  rP.inj E5 tr jF
 exact⟨x,rfl,_,L2,F',hK,iK,tr⟩
section
variable {P : Program} {T : fA} {σ : Type} {Y : Hd σ} {e : Env} {h : Heap} {s : σ} {d : Option Nat} {f : FuncId} {args : List V}
theorem rI{ws:List Wr}(ho:ny P e h d f args ws){K:St σ->Prop}(hk:bz ws e h fun e h=>K ⟨e,h,s⟩):eg P Y ⟨e,h,s⟩ d f args K:=by
 refine⟨ho.1,fun cx hY r m L F a w aT hg hd hr=>(ho.2 cx hY.laid r m L F ⟨e,h,s⟩ a w aT (fun _ _ h=>h) (fun _ _ h=>h) hg hd hr).mono ?_⟩;rintro en w' ⟨x,rfl,L',F',dN,tr⟩;rw[cO s]at hk;have hs:(aL (⟨e,h,s⟩:St σ) ws).s=s:=dG _ _;refine .inl ⟨x,rfl,_,L',F',?_,dN,tr⟩;generalize aL (⟨e,h,s⟩:St σ) ws=st at hk hs;obtain⟨e1,h1,s1⟩:=st;simp only at hs;subst hs;exact hk
theorem bH{args0:List V}{h0:Heap}{v0:V}{h1:Heap}(hf:tH P f args0 h0 fun v h'=>v=v0/\h'=h1)(tb:List Nat)(dM:sq (fj tb (d.getD 0)) args0=args)
  (fB:jS (fj tb (d.getD 0)) h 1000000 tb h0) (hB:fU tb d v0 h1=true) {K:St σ->Prop} (hk:bz (c8 tb d v0 h1) e h fun e h=>K ⟨e,h,s⟩):eg P Y ⟨e,h,s⟩ d f args K:=
 rI (tu hf tb dM fB hB) hk
theorem wE{args0:List V}{h0:Heap}{v0:V}{h1:Heap}(hf:tH P f args0 h0 fun v h'=>v=v0/\h'=h1)(tb:List Nat)(dM:sq (fj tb (d.getD 0)) args0=args)
  (fB:jS (fj tb (d.getD 0)) h 1000000 tb h0) (hB:fU tb d v0 h1=true) {K:List Wr->Prop} (hk:K (c8 tb d v0 h1)):ga P e h d f args K:=
 ⟨_,hk,tu hf tb dM fB hB⟩
end
inductive DO where
 | box (l:List D)
 | arr (sz:Nat) (l:List (List D))
 | map (l:List (D×D))
mutual
def dP(g:Nat->Option DO):V->Option D
 | .d v=>some v
 | .agg cs=>match cS g cs with
  | some l=>some (.agg l)
  | none=>none
 | .tup cs=>match cS g cs with
  | some l=>some (.tup l)
  | none=>none
 | .clo f cs=>match cS g cs with
  | some l=>some (.clo f l)
  | none=>none
 | .ptr id off=>match g id with
  | some (.box l)=>some (.ref (l.drop off))
  | _=>none
 | .sl id sz off len=>match g id with
  | some (.arr m l)=>match Nat.beq m sz,Nat.ble (off+len) l.length with
   | true,true=>some (.vs ((l.drop off).take len))
   | _,_=>none
  | _=>none
 | .mp id=>match g id with
  | some (.map cY)=>some (.mv cY)
  | _=>none
 | .ep _ _ _ _=>none
 | .it _=>none
 | .yld=>none
 | .unk=>none
def cS(g:Nat->Option DO):List V->Option (List D)
 | []=>some []
 | v::r=>match dP g v,cS g r with
  | some a,some l=>some (a::l)
  | _,_=>none
end
def iR(g:Nat->Option DO):List (List V)->Option (List (List D))
 | []=>some []
 | v::r=>match cS g v,iR g r with
  | some a,some l=>some (a::l)
  | _,_=>none
def fp(h:Heap):Nat->Nat->Option DO
 | 0,_=>none
 | n+1,id=>match get h id with
  | some (.box (.dd l))=>some (.box l)
  | some (.box (.vv l))=>match cS (fp h n) l with
   | some l=>some (.box l)
   | none=>none
  | some (.arr sz (.dd l))=>some (.arr sz l)
  | some (.arr sz (.vv l))=>match iR (fp h n) l with
   | some l=>some (.arr sz l)
   | none=>none
  | some (.map cY)=>some (.map cY)
  | _=>none
def tX(w:World)(b:Nat):Nat:=
 match w.heap[b]? with
 | some (.cells c _ _)=>c.size
 | some (.map _ _)=>1
 | _=>0
open Classical in
noncomputable def fO(L:Loc)(F:Nat->Nat)(h:Heap)(w:World):Nat->Nat:=fun b=>if ∃ id o,get h id=some o/\aS L id o/\L.ρ id=b then tX w b else F b
section
variable {σ : Type} {cx : Cx σ} {L : Loc} {F : Nat -> Nat} {h : Heap} {s : σ} {w : World}
theorem ot{id:Nat}{o:Obj}(hi:get h id=some o)(hb:aS L id o):fO L F h w (L.ρ id)=tX w (L.ρ id):=if_pos ⟨id,o,hi,hb,rfl⟩
theorem iF{b:Nat}(hb:¬ ∃ id o,get h id=some o/\aS L id o/\L.ρ id=b):fO L F h w b=F b:=if_neg hb
theorem JR(hh:a7 cx L F h s w)(b:Nat):F b<=fO L F h w b:=by
 by_cases hb:∃ id o,get h id=some o/\aS L id o/\L.ρ id=b
 ·obtain⟨id,o,hi,iU,rfl⟩:=hb
  rw[(hh.own id o hi iU).1];exact Nat.zero_le _
 ·rw[iF hb];exact Nat.le_refl _
theorem qC(hh:a7 cx L F h s w){b:Nat}(hC:cx.C s b):fO L F h w b=F b:=
 iF fun⟨id,o,hi,hb,e⟩=>(hh.own id o hi hb).2 (by rw[e];exact hC)
theorem gK(hh:a7 cx L F h s w):Tr F w (fO L F h w) w:=
 ⟨rfl,rfl,rfl,Nat.le_refl _,JR hh,fun _ _ _=>rfl,fun _ _ _ _ h=>h⟩
theorem gz(hh:a7 cx L F h s w)(b:Nat)(hb:w.heap.size<=b):fO L F h w b=0:=by
 by_cases h1:∃ id o,get h id=some o/\aS L id o/\L.ρ id=b
 ·obtain⟨id,o,hi,iU,rfl⟩:=h1
  have:=(hh.obj id o hi).lt iU;omega
 ·rw[iF h1];exact hh.fresh b hb
theorem vy(hh:a7 cx L F h s w):a7 cx L (fO L F h w) [] s w:=
 ⟨cx.gE hh.hg (gK hh) (gz hh) fun b hb=>⟨rfl,qC hh hb⟩,hh.hP,gz hh,(fun id o hi=>by cases hi),(fun id o hi=>by cases hi),(fun i j o p hi=>by cases hi)⟩
def yo(yv:Option Nat)(L:Loc)(F:Nat->Nat)(w:World)(id:Nat):DO->Prop
 | .box l=>dm F w (L.ρ id) 0 l
 | .arr sz l=>dE sz l/\((l = []/\L.κ id=0)\/(dm F w (L.ρ id) 0 l.flatten))
 | .map cY=>∃ en c,0<F (L.ρ id)/\w.heap[L.ρ id]?=some (.map en c)/\cf F w cY en.toList
theorem dU.of_flat{F:Nat->Nat}{w:World}{b sz:Nat}:∀ {es:List (List D)} {off:Nat},dE sz es->dm F w b off es.flatten->dU F w b off sz es
 | [],_,_,_=>trivial
 | e::r,off,hl,h=>by
  have he:=hl e (List.mem_cons_self ..);have Ts:∀ {a c:List D} {off:Nat},dm F w b off (a++c)->dm F w b off a/\dm F w b (off+a.length) c:=by
   intro a
   induction a with
   | nil=>exact fun h=>⟨trivial,h⟩
   | cons x r ih=>
    intro c off h;obtain⟨h1,h2,h3⟩:=h;obtain⟨h4,h5⟩:=ih h3;refine⟨⟨h1,h2,h4⟩,?_⟩
    rwa [show off+(x::r).length=off+1+r.length by simp;omega]
  rw[List.flatten_cons]at h;obtain⟨h1,h2⟩:=Ts h;rw[he]at h2;exact⟨he,h1,dU.of_flat (fun x hx=>hl x (List.mem_cons_of_mem _ hx)) h2⟩
theorem dm.rh{F:Nat->Nat}{w:World}{b:Nat}:∀ {cs:List D} {off:Nat} {l:List Value},bt F w cs l->(∀ i x,l[i]?=some x->off+i<F b/\w.cell? ⟨b,off+i,none⟩=some x)->dm F w b off cs
 | [],_,_,_,_=>trivial
 | c::r,off,_,h,hc=>by
  obtain⟨x,l',rfl,h1,h2⟩:=h;obtain⟨k1,k2⟩:=hc 0 x (by simp);refine⟨by simpa using k1,⟨x,by simpa using k2,h1⟩,dm.rh h2 fun i y hy=>?_⟩;have:=hc (i+1) y (by simpa using hy)
  rwa [show off+(i+1)=off+1+i by omega]at this
mutual
theorem Jp{g:Nat->Option DO}{F1:Nat->Nat}{yv:Option Nat}{L:Loc}{F:Nat->Nat}{w:World}(tr:Tr F w F1 w)(hg:∀ id o,g id=some o->yo yv L F1 w id o):∀ (v:V) (x:Value) (d:D),dP g v=some d->br yv L F w v x->bR F1 w d x
 | .d v,x,d,hv,hr=>by
  simp only[dP,Option.some.injEq]at hv;subst hv;exact bR.mono tr _ _ hr
 | .agg cs,x,d,hv,hr=>by
  simp only[dP]at hv;split at hv
  ·rename_i l hl
   cases hv;obtain⟨a,rfl,ha⟩:=hr;exact⟨a,rfl,jY tr hg cs _ l hl ha⟩
  ·cases hv
 | .tup cs,x,d,hv,hr=>by
  simp only[dP]at hv;split at hv
  ·rename_i l hl
   cases hv;obtain⟨a,rfl,ha⟩:=hr;exact⟨a,rfl,jY tr hg cs _ l hl ha⟩
  ·cases hv
 | .clo f cs,x,d,hv,hr=>by
  simp only[dP]at hv;split at hv
  ·rename_i l hl
   cases hv;obtain⟨a,rfl,ha⟩:=hr;exact⟨a,rfl,jY tr hg cs _ l hl ha⟩
  ·cases hv
 | .ptr id off,x,d,hv,hr=>by
  simp only[dP]at hv;split at hv
  ·rename_i l hl
   cases hv;have tJ:dm F1 w (L.ρ id) 0 l:=hg id _ hl;have tJ:=dm.drop off tJ;rw[Nat.zero_add]at tJ;exact⟨L.ρ id,off,hr,tJ⟩
  ·cases hv
 | .sl id sz off len,x,d,hv,hr=>by
  simp only[dP]at hv;split at hv;case h_2=>cases hv
  rename_i m l hl;split at hv;case h_2=>cases hv
  rename_i hm hlen;cases hv;have hm:=Nat.eq_of_beq_eq_true hm;subst hm;have hlen:=Nat.le_of_ble_eq_true hlen;obtain⟨a,cap,rfl,h1,h2,h3⟩:=hr;obtain⟨Ut,S8⟩:=hg id _ hl;refine⟨a,len,cap,rfl,by rw[List.length_take,List.length_drop];omega,h1,fun er=>?_⟩;have IW:len≠0:=by
   rintro rfl;simp at er
  rcases h3 with⟨h3,_⟩|⟨h3,h4⟩
  ·exact absurd h3 IW
  rcases S8 with⟨rfl,_⟩|tJ
  ·simp at er
  ·refine⟨L.ρ id,off*m,m,h3,h2,?_⟩
   have fP:=dU.of_flat Ut tJ;have fP:=dU.drop off fP;rw[Nat.zero_add]at fP;exact dU.take len fP
 | .mp id,x,d,hv,hr=>by
  simp only[dP]at hv;split at hv
  ·rename_i l hl
   cases hv;obtain⟨en,c,h1,h2,h3⟩:=hg id _ hl;exact⟨L.ρ id,en,c,hr,h1,h2,h3⟩
  ·cases hv
 | .ep _ _ _ _,_,_,hv,_=>by simp[dP]at hv
 | .it _,_,_,hv,_=>by simp[dP]at hv
 | .yld,_,_,hv,_=>by simp[dP]at hv
 | .unk,_,_,hv,_=>by simp[dP]at hv
theorem jY{g:Nat->Option DO}{F1:Nat->Nat}{yv:Option Nat}{L:Loc}{F:Nat->Nat}{w:World}(tr:Tr F w F1 w)(hg:∀ id o,g id=some o->yo yv L F1 w id o):∀ (vs:List V) (l:List Value) (ds:List D),cS g vs=some ds->aq yv L F w vs l->bt F1 w ds l
 | [],l,ds,hv,hr=>by
  simp only[cS,Option.some.injEq]at hv;subst hv;exact hr
 | v::r,l,ds,hv,hr=>by
  simp only[cS]at hv;split at hv
  ·rename_i a m h1 h2
   cases hv;obtain⟨x,l',rfl,h3,h4⟩:=hr;exact⟨x,l',rfl,Jp tr hg v x a h1 h3,jY tr hg r l' m h2 h4⟩
  ·cases hv
end
theorem rD{g:Nat->Option DO}:∀ {es:List (List V)} {l:List (List D)},iR g es=some l->cS g es.flatten=some l.flatten/\l.length=es.length /\ ∀ sz,dE sz es->dE sz l
 | [],l,h=>by
  simp only[iR,Option.some.injEq]at h;subst h;exact⟨rfl,rfl,fun _ _ _ he=>by cases he⟩
 | e::r,l,h=>by
  simp only[iR]at h;split at h
  ·rename_i a m h1 h2
   cases h;obtain⟨k1,k2,k3⟩:=rD h2;have app:∀ {a b:List V} {x y:List D},cS g a=some x->cS g b=some y->cS g (a++b)=some (x++y)/\x.length=a.length:=by
    intro a
    induction a with
    | nil=>intro b x y h1 h2;simp only[cS,Option.some.injEq]at h1;subst h1;exact⟨h2,rfl⟩
    | cons v r ih=>
     intro b x y h1 h2;simp only[cS]at h1;split at h1
     ·rename_i p q h3 h4
      cases h1;obtain⟨k1,k2⟩:=ih h4 h2;refine⟨?_,by simp[k2]⟩;simp only[List.cons_append,cS,h3,k1]
     ·cases h1
   obtain⟨j1,j2⟩:=app h1 k1;refine⟨by simpa using j1,by simp[k2],fun sz hl x hx=>?_⟩;rcases List.mem_cons.1 hx with rfl|hx
   ·rw[j2];exact hl e (List.mem_cons_self ..)
   ·exact k3 sz (fun y hy=>hl y (List.mem_cons_of_mem _ hy)) x hx
  ·cases h
theorem pa{w:World}{b:Nat}{c:Array Value}{T:TypeId}(h:w.heap[b]?=some (.cells c T (0,0))){i:Nat}{x:Value}(hx:c.toList[i]?=some x):i<tX w b/\w.cell? ⟨b,i,none⟩=some x:=by
 have hx:c[i]?=some x:=by simpa using hx
 have hi:=(Array.getElem?_eq_some_iff.1 hx).1;refine⟨by simp only[tX,h];exact hi,?_⟩;rw[cell_of_row _ _ _ _ _ _ h];simpa using hx
theorem pD(hh:a7 cx L F h s w):∀ (n:Nat) (id:Nat) (o:DO),fp h n id=some o->yo cx.yv L (fO L F h w) w id o
 | 0,_,_,ho=>by cases ho
 | n+1,id,o,ho=>by
  have tr:=gK hh;simp only[fp]at ho;split at ho
  ·rename_i l hi
   cases ho;obtain⟨c,T,hc,hr⟩:=hh.obj id _ hi;have hr:bt F w l c.toList:=aq.inj.1 hr;refine dm.rh (bt.mono tr _ _ hr) fun i x hx=>?_;rw[Nat.zero_add,ot hi trivial];exact pa hc hx
  ·rename_i l hi
   split at ho
   ·rename_i l' hl
    cases ho;obtain⟨c,T,hc,hr⟩:=hh.obj id _ hi;have hr:=jY tr (pD hh n) l _ l' hl hr;refine dm.rh hr fun i x hx=>?_;rw[Nat.zero_add,ot hi trivial];exact pa hc hx
   ·cases ho
  ·rename_i sz l hi
   cases ho;obtain⟨h1,h2,h3⟩:=hh.obj id _ hi;have Ut:dE sz l:=fun e he=>by
    have:=h2 (inj e) (by rw[bx.bJ,cc];exact List.mem_map_of_mem he)
    rwa [eR]at this
   refine⟨Ut,?_⟩;rcases h3 with⟨h3,h4⟩|⟨c,T,hc,hk,hn,hr⟩
   ·left
    rw[bx.bJ,cc,List.map_eq_nil_iff]at h3;exact⟨h3,h4⟩
   ·by_cases A0:L.κ id=0
    ·left
     refine⟨?_,A0⟩;rw[hk,A0]at hn;rw[bx.bJ,cc,List.length_map]at hn;have:l.length=0:=by
      rcases Nat.eq_zero_or_pos l.length with h|h
      ·exact h
      ·have:=Nat.mul_pos h h1;omega
     exact List.length_eq_zero_iff.1 this
    ·right
     rw[bx.bJ,eG]at hr;have hr:=aq.inj.1 hr;refine dm.rh (bt.mono tr _ _ hr) fun i x hx=>?_;rw[Nat.zero_add,ot hi A0];rw[List.getElem?_take]at hx;split at hx
     ·exact pa hc hx
     ·cases hx
  ·rename_i sz l hi
   split at ho;case h_2=>cases ho
   rename_i l' hl;cases ho;obtain⟨h1,h2,h3⟩:=hh.obj id _ hi;obtain⟨j1,j2,j3⟩:=rD hl;refine⟨j3 sz h2,?_⟩;rcases h3 with⟨h3,h4⟩|⟨c,T,hc,hk,hn,hr⟩
   ·left
    have h3:l = []:=h3;subst h3;exact⟨List.length_eq_zero_iff.1 j2,h4⟩
   ·by_cases A0:L.κ id=0
    ·left
     refine⟨?_,A0⟩;rw[hk,A0]at hn;have:l.length=0:=by
      rcases Nat.eq_zero_or_pos l.length with h|h
      ·exact h
      ·have:=Nat.mul_pos h h1
       have hn:l.length*sz<=0:=hn;omega
     exact List.length_eq_zero_iff.1 (by rw[j2];exact this)
    ·right
     have hr:=jY tr (pD hh n) l.flatten _ l'.flatten j1 hr;refine dm.rh hr fun i x hx=>?_;rw[Nat.zero_add,ot hi A0];rw[List.getElem?_take]at hx;split at hx
     ·exact pa hc hx
     ·cases hx
  ·rename_i cY hi
   cases ho;obtain⟨en,c,hc,hr⟩:=hh.obj id _ hi;refine⟨en,c,?_,hc,cf.mono tr _ _ hr.1⟩;rw[ot hi trivial];simp[tX,hc]
  ·cases ho
end
end Go.PX
namespace Go.PX
open Go.RowKit
def j9(ds:List D):D:=
 match ds with
 | [x]=>x
 | l=>.tup l
theorem Dy{F:Nat->Nat}{w:World}{ds:List D}{aT:List Value}(h:bt F w ds aT):bR F w (j9 ds) (Jj aT):=by
 cases ds with
 | nil=>
  have:aT = []:=h;subst this;exact⟨#[],rfl,rfl⟩
 | cons a r=>
  obtain⟨x,l,rfl,hx,hl⟩:=h
  cases r with
  | nil=>
   have:l = []:=hl;subst this;exact hx
  | cons b r=>
   obtain⟨y,l',rfl,hy,lH⟩:=hl;refine⟨(x::y::l').toArray,rfl,?_⟩;exact⟨x,y::l',rfl,hx,y,l',rfl,hy,lH⟩
theorem aO{σ:Type}{l:List V}{h:Heap}{s:σ}{Q:V->Heap->σ->Prop}(n:Nat){ds:List D}(hv:cS (fp h n) l=some ds)(hq:Q (.d (j9 ds)) [] s):p9 l h s Q:=by
 refine⟨fun cx L F aT w hh hr=>?_⟩;have tr:=gK hh;exact⟨_,[],L,fO L F h w,hq,vy hh,Dy (jY tr (pD hh n) l aT ds hv hr),tr,fun _ _=>⟨rfl,rfl⟩⟩
theorem ai{σ:Type}{l:List V}{h:Heap}{s:σ}{r:D}{ds:List D}(hv:cS (fp h 0) l=some ds:=by exact rfl)(hr:V.d (j9 ds)=V.d r:=by exact rfl):p9 l h s fun v h' s'=>(v = .d r/\h' = [])/\s'=s:=aO 0 hv ⟨⟨hr,rfl⟩,rfl⟩
def TY(l:List V):V:=
 match l with
 | [x]=>x
 | l=>xd l
def gm(nk:List Nat)(i:Nat):Nat:=
 match Nat.blt i 2000000 with
 | true=>i
 | false=>match nk[i-2000000]? with
  | some k=>k
  | none=>0
def GV(R:Nat->Nat)(h:Heap):Heap->Prop
 | []=>True
 | (i,o)::r=>get h (R i)=some (kO R o)/\GV R h r
theorem kJ{R:Nat->Nat}{h:Heap}:∀ {h1:Heap},GV R h h1 -> ∀ i o,get h1 i=some o->get h (R i)=some (kO R o)
 | [],_,i,o,hi=>by cases hi
 | (k,p)::r,hh,i,o,hi=>by
  simp only[get]at hi;split at hi
  ·rename_i he
   have:=Nat.eq_of_beq_eq_true he;subst this;cases hi;exact hh.1
  ·exact kJ hh.2 i o hi
def dY:Heap->List Nat
 | []=>[]
 | (i,_)::r=>i::dY r
theorem mQ:∀ {h:Heap} {i:Nat} {o:Obj},get h i=some o->i∈dY h
 | [],i,o,h=>by cases h
 | (k,p)::r,i,o,h=>by
  simp only[get]at h;split at h
  ·rename_i he
   have:=Nat.eq_of_beq_eq_true he;subst this;simp[dY]
  ·simp[dY,mQ h]
theorem aK{σ:Type}{l:List V}{h:Heap}{s:σ}{Q:V->Heap->σ->Prop}(nk:List Nat)(l1:List V)(h1:Heap)(hl:sq (gm nk) l1=l)(ML:GV (gm nk) h h1)(vj:nodupB ((dY h1).map (gm nk))=true)
  (hq:Q (TY l1) h1 s):p9 l h s Q:=by
 refine⟨fun cx L F aT w hh hr=>?_⟩;have hR:∀ i,pinned i->gm nk i=i:=fun i hi=>by
  unfold gm;rw[show Nat.blt i 2000000=true from Nat.ble_eq_true_of_le hi.2]
 generalize gm nk=R at hl ML vj hR;subst hl;have SZ:∀ i j,i∈dY h1->j∈dY h1->R i=R j->i=j:=by
  have hn:=gp vj;intro i j hi hj qe;obtain⟨a,ha⟩:=List.mem_iff_getElem?.1 hi;obtain⟨b,hb⟩:=List.mem_iff_getElem?.1 hj;have k1:((dY h1).map R)[a]?=some (R i):=by rw[List.getElem?_map,ha];rfl
  have k2:((dY h1).map R)[b]?=some (R i):=by rw[List.getElem?_map,hb,qe];rfl
  have:=vQ hn k1 k2;subst this;rw[ha]at hb;exact Option.some.inj hb
 have Tf:aq cx.yv ⟨fun i=>L.ρ (R i),fun i=>L.κ (R i)⟩ F w l1 aT:=(aq.oc (R:=R) l1 _ fun _ _=>⟨rfl,rfl⟩).1 hr;refine⟨_,h1,⟨fun i=>L.ρ (R i),fun i=>L.κ (R i)⟩,F,hq,⟨hh.hg,hh.hP,hh.fresh,fun i o hi=>?_,fun i o hi hb=>?_,fun i j o p hi hj mf jt qe=>?_⟩,?_,Tr.refl F w,fun i hi=>by
  show L.ρ (R i)=L.ρ i/\L.κ (R i)=L.κ i;rw[hR i hi];exact⟨rfl,rfl⟩⟩
 ·exact(bU.oc (R:=R) (L:=⟨fun i=>L.ρ (R i),fun i=>L.κ (R i)⟩) (L':=L) i o (fun _ _=>⟨rfl,rfl⟩) ⟨rfl,rfl⟩).1 (hh.obj _ _ (kJ ML i o hi))
 ·exact hh.own _ _ (kJ ML i o hi) ((cE (R:=R) (L:=⟨fun i=>L.ρ (R i),fun i=>L.κ (R i)⟩) (L':=L) i o rfl).2 hb)
 ·refine SZ i j (mQ hi) (mQ hj) ?_
  exact hh.inj _ _ _ _ (kJ ML i o hi) (kJ ML j p hj) ((cE (R:=R) (L:=⟨fun i=>L.ρ (R i),fun i=>L.κ (R i)⟩) (L':=L) i o rfl).2 mf)
   ((cE (R:=R) (L:=⟨fun i=>L.ρ (R i),fun i=>L.κ (R i)⟩) (L':=L) j p rfl).2 jt) qe
 ·cases l1 with
  | nil=>
   have:aT = []:=Tf;subst this;exact⟨#[],rfl,rfl⟩
  | cons v r=>
   cases r with
   | nil=>
    obtain⟨x,l,rfl,hx,hl⟩:=Tf;have:l = []:=hl;subst this;exact hx
   | cons u r=>
    obtain⟨x,l,rfl,hx,y,l',rfl,hy,lH⟩:=Tf;have cR:aq cx.yv ⟨fun i=>L.ρ (R i),fun i=>L.κ (R i)⟩ F w (v::u::r) (x::y::l'):=⟨x,_,rfl,hx,y,l',rfl,hy,lH⟩;show br _ _ _ _ (xd (v::u::r)) (.tuple (x::y::l').toArray);unfold xd;split
    ·rename_i ds JY
     refine⟨_,rfl,?_⟩;rw[lM JY]at cR;exact aq.inj.1 cR
    ·exact⟨_,rfl,cR⟩
mutual
def lY:D->Bool
 | .bool _=>true
 | .int _ _=>true
 | .str _=>true
 | .agg cs=>nf cs
 | .tup cs=>nf cs
 | .vs _=>false
 | .nils=>true
 | .ref _=>false
 | .nilp=>true
 | .mv _=>false
 | .nilm=>true
 | .clo _ cs=>nf cs
 | .mth _ cs=>nf cs
 | .nilf=>true
 | .ifc _ v=>lY v
 | .nili=>true
def nf:List D->Bool
 | []=>true
 | v::r=>lY v&&nf r
end
mutual
theorem bR.free{F F':Nat->Nat}{w w':World}:∀ (v:D) (x:Value),lY v=true->bR F w v x->bR F' w' v x
 | .bool _,_,_,h=>h
 | .int _ _,_,_,h=>h
 | .str _,_,_,h=>h
 | .agg cs,_,hf,h=>by
  obtain⟨l,rfl,hl⟩:=h;exact⟨l,rfl,bt.free cs _ hf hl⟩
 | .tup cs,_,hf,h=>by
  obtain⟨l,rfl,hl⟩:=h;exact⟨l,rfl,bt.free cs _ hf hl⟩
 | .vs _,_,hf,_=>by simp[lY]at hf
 | .nils,_,_,h=>h
 | .ref _,_,hf,_=>by simp[lY]at hf
 | .nilp,_,_,h=>h
 | .mv _,_,hf,_=>by simp[lY]at hf
 | .nilm,_,_,h=>h
 | .clo _ cs,_,hf,h=>by
  obtain⟨l,rfl,hl⟩:=h;exact⟨l,rfl,bt.free cs _ hf hl⟩
 | .mth _ cs,_,hf,h=>by
  obtain⟨l,rfl,hl⟩:=h;exact⟨l,rfl,bt.free cs _ hf hl⟩
 | .nilf,_,_,h=>h
 | .ifc _ v,_,hf,h=>by
  obtain⟨y,rfl,hy⟩:=h;exact⟨y,rfl,bR.free v y hf hy⟩
 | .nili,_,_,h=>h
theorem bt.free{F F':Nat->Nat}{w w':World}:∀ (vs:List D) (l:List Value),nf vs=true->bt F w vs l->bt F' w' vs l
 | [],_,_,h=>h
 | v::r,_,hf,h=>by
  simp only[nf,Bool.and_eq_true]at hf;obtain⟨x,l',rfl,hx,hl⟩:=h;exact⟨x,l',rfl,bR.free v x hf.1 hx,bt.free r l' hf.2 hl⟩
end
def bq(P:Program)(f:FuncId)(ds:List D)(r:D):Prop:=tH P f (inj ds) [] fun v h'=>v = .d r/\h' = []
section
variable {P : Program} {σ : Type} {cx : Cx σ} {r : Option Nat} {m : List Nat} {L : Loc} {F : Nat -> Nat} {st : St σ} {a : Act} {w : World}
theorem Good.Hx(hg:Good cx r m L F st a w){F':Nat->Nat}{w':World}(tr:Tr F w F' w')(hk:∀ b,b<w.heap.size->w'.heap[b]?=w.heap[b]?/\F' b=F b)(hf:∀ b,w'.heap.size<=b->F' b=0):Good cx r m L F' st a w':=by
 refine⟨⟨cx.gE hg.heap.hg tr hf fun b hb=>hk b (hg.heap.hP b hb),fun b hb=>Nat.lt_of_lt_of_le (hg.heap.hP b hb) tr.size,hf,fun id o hi=>?_,fun id o hi hb=>?_,hg.heap.inj⟩,fun t v ht=>?_,hg.tZ,fun b hb=>?_,hg.xe,fun l hl=>?_,hg.jF,hg.ve⟩
 ·exact bU.mono tr id o (fun _ _=>⟨rfl,rfl⟩) ⟨rfl,rfl⟩ (fun hb=>(hk _ ((hg.heap.obj id o hi).lt hb)).1) (hg.heap.obj id o hi)
 ·rw[(hk _ ((hg.heap.obj id o hi).lt hb)).2];exact hg.heap.own id o hi hb
 ·obtain⟨x,hx,hr⟩:=hg.env t v ht
  exact⟨x,hx,br.mono tr v x (fun _ _=>⟨rfl,rfl⟩) hr⟩
 ·obtain⟨k1,k2⟩:=hg.pB b hb
  exact⟨by rw[(hk b (bP k1)).1];exact k1,k2⟩
 ·obtain⟨lp,k1⟩:=hg.lk l hl
  exact⟨lp,⟨by rw[(hk l (bP k1.1.1)).1];exact k1.1.1,k1.1.2⟩,k1.2⟩
theorem uW{f:FuncId}{ds:List D}{res:D}(hf:bq P f ds res)(jv:lY res=true)(n:Nat){e:Env}{h:Heap}{d:Option Nat}{args:List V}(hv:cS (fp h n) args=some ds) :
  ny P e h d f args (bw d (.d res)):=by
 refine⟨(hf (σ:=Unit) { y:=fun _ _ _ _=>False } ()).enter,?_⟩;intro σ cx E0 r m L F st a w aT he hh hg hd hr;have gL:a7 cx L F h st.s w:=(hg.sub (e:=st.env) (h:=h) (fun _ _ h=>h) hh).heap;have qd:=gK gL;generalize hF1:fO L F h w=F1 at qd;have AU:∀ b,cx.C st.s b->F1 b=F b:=fun b hb=>by rw[<- hF1];exact qC gL hb
 have Xj:bt F1 w ds aT.toList:=by
  rw[<- hF1];exact jY (gK gL) (pD gL n) args _ ds hv hr
 let GL:Cx σ:={
  C:=fun s b=>cx.C s b\/b<w.heap.size
  HG:=fun s w' F'=>cx.HG s w' F' /\ ∀ b,b<w.heap.size->w'.heap[b]?=w.heap[b]?/\F' b=F1 b
  yv:=cx.yv
  B7:=cx.B7
  pρ:=cx.pρ
  pκ:=cx.pκ
  gE:=by
   rintro s w1 F1' w2 F2 ⟨h1,h2⟩ tr hf hk;refine⟨cx.gE h1 tr hf fun b hb=>hk b (.inl hb),fun b hb=>?_⟩;obtain⟨k1,k2⟩:=hk b (.inr hb);obtain⟨k3,k4⟩:=h2 b hb;exact⟨k1.trans k3,k2.trans k4⟩ }
 have EO:a7 GL L F1 [] st.s w:=by
  refine⟨⟨cx.gE hg.heap.hg qd (by rw[<- hF1];exact gz gL) fun b hb=>⟨rfl,AU b hb⟩,fun _ _=>⟨rfl,rfl⟩⟩,fun b hb=>hb.elim (hg.heap.hP b) id,?_,(fun _ _ hi=>by cases hi),(fun _ _ hi=>by cases hi),(fun _ _ _ _ hi=>by cases hi)⟩;rw[<- hF1];exact gz gL
 have eh:=(hf ({ y:=fun _ _ _ _=>False }:Hd σ) st.s).run GL ⟨fun _ _ _ _ _ _ hy=>hy.elim,fun s w F hh=>E0 s w F hh.1⟩ L F1 aT w EO (aq.inj.2 Xj);refine eh.mono ?_;rintro en w' ⟨x,rfl,v,h',s',L',F',⟨⟨rfl,rfl⟩,rfl⟩,hH,M7,tr,jF⟩;obtain⟨uo,iL⟩:=hH.hg
 let F2:Nat->Nat:=fun b=>if b<w.heap.size then F b else F' b
 have Q6:∀ b,b<w.heap.size->F2 b=F b:=fun b hb=>if_pos hb;have V8:∀ b,w.heap.size<=b->F2 b=F' b:=fun b hb=>if_neg (by omega);have V9:∀ b o,o<F b->b<w.heap.size:=fun b o ho=>by
  rcases Nat.lt_or_ge b w.heap.size with h|h
  ·exact h
  ·rw[hg.heap.fresh b h]at ho;omega
 have AK:Tr F w F2 w':=by
  refine⟨tr.os,tr.tape,tr.output,tr.size,fun b=>?_,fun b o ho=>kj (iL b (V9 b o ho)).1,fun b en c hb hm=>by rw[(iL b (V9 b 0 hb)).1];exact hm⟩;rcases Nat.lt_or_ge b w.heap.size with h|h
  ·rw[Q6 b h];exact Nat.le_refl _
  ·rw[hg.heap.fresh b h];exact Nat.zero_le _
 have iK:=hg.Hx AK (fun b hb=>⟨(iL b hb).1,Q6 b hb⟩) (fun b hb=>by
  rw[V8 b (Nat.le_trans tr.size hb)];exact hH.fresh b hb)
 exact⟨x,rfl,L,F2,iK.bw hd (bR.free res x jv M7),AK⟩
theorem aA{Y:Hd σ}{f:FuncId}{ds:List D}{res:D}(hf:bq P f ds res)(jv:lY res=true)(n:Nat){e:Env}{h:Heap}{s:σ}{d:Option Nat}{args:List V}(hv:cS (fp h n) args=some ds)
  {K:St σ->Prop} (hk:bz (bw d (.d res)) e h fun e h=>K ⟨e,h,s⟩):eg P Y ⟨e,h,s⟩ d f args K:=rI (uW hf jv n hv) hk
theorem a8{f:FuncId}{ds:List D}{res:D}(hf:bq P f ds res)(jv:lY res=true)(n:Nat){e:Env}{h:Heap}{d:Option Nat}{args:List V}(hv:cS (fp h n) args=some ds)
  {K:List Wr->Prop} (hk:K (bw d (.d res))):ga P e h d f args K:=⟨_,hk,uW hf jv n hv⟩
theorem vU{f:FuncId}{ds:List D}{res:D}(hf:bq P f ds res){e:Env}{h:Heap}{d:Option Nat}{args:List V}(hv:args=inj ds)(hd:Nat.ble (d.getD 0) 10000=true):ny P e h d f args (bw d (.d res)):=by
 have S4:sq (fj [] (d.getD 0)) (inj ds)=args:=by rw[hv];exact zJ _ _
 have hB:fU [] d (.d res) []=true:=by
  cases d with
  | none=>rfl
  | some d=>
   simp only[fU,dZ,nodupB,cB,Bk,cQ,List.map_nil,mB,List.all_nil,List.length_nil,hd,Bool.and_true,Bool.true_and,c8,rf,mU,List.nil_append,bw,gh,ca];rfl
 exact tu hf [] S4 rfl hB
theorem af{Y:Hd σ}{f:FuncId}{ds:List D}{res:D}(hf:bq P f ds res){e:Env}{h:Heap}{s:σ}{d:Option Nat}{args:List V}(hv:args=inj ds)(hd:Nat.ble (d.getD 0) 10000=true)
  {K:St σ->Prop} (hk:bz (bw d (.d res)) e h fun e h=>K ⟨e,h,s⟩):eg P Y ⟨e,h,s⟩ d f args K:=rI (vU hf hv hd) hk
theorem ax{f:FuncId}{ds:List D}{res:D}(hf:bq P f ds res){e:Env}{h:Heap}{d:Option Nat}{args:List V}(hv:args=inj ds)(hd:Nat.ble (d.getD 0) 10000=true)
  {K:List Wr->Prop} (hk:K (bw d (.d res))):ga P e h d f args K:=⟨_,hk,vU hf hv hd⟩
end
end Go.PX
namespace Go.PX
open Go.RowKit
theorem zC{p:Nat->Prop}:∀ (n:Nat),p n -> ∃ m,p m /\ ∀ k,p k->m<=k:=by
 intro n
 induction n using Nat.strongRecOn with
 | _ n ih=>
  intro hn;by_cases h:∃ k,k<n/\p k
  ·obtain⟨k,hk,hp⟩:=h;exact ih k hk hp
  ·exact⟨n,hn,fun k hk=>Nat.le_of_not_lt fun dh=>h ⟨k,dh,hk⟩⟩
open Classical in
noncomputable def Cc(p:Nat->Prop):Nat:=if h:∃ n,p n then (zC h.choose h.choose_spec).choose else 0
theorem Cd{p:Nat->Prop}(h:∃ n,p n):p (Cc p):=by
 unfold Cc;rw[dif_pos h];exact(zC h.choose h.choose_spec).choose_spec.1
theorem FZ{p:Nat->Prop}{k:Nat}(hk:p k):Cc p<=k:=by
 have h:∃ n,p n:=⟨k,hk⟩;unfold Cc;rw[dif_pos h];exact(zC h.choose h.choose_spec).choose_spec.2 k hk
def Wk{σ:Type}(st st':St σ):Prop:=
 ∀ (cx:Cx σ) (r:Option Nat) (m:List Nat) (L:Loc) (F:Nat->Nat) (a:Act) (w:World),Good cx r m L F st a w -> ∃ L' F',Good cx r m L' F' st' a w/\Tr F w F' w
theorem Wk.trans{σ:Type}{st st' Qw:St σ}(h:Wk st st')(k:Wk st' Qw):Wk st Qw:=fun cx r m L F a w hg=>by
 obtain⟨L',F',h1,h2⟩:=h cx r m L F a w hg;obtain⟨Lx,Ij,h3,h4⟩:=k cx r m L' F' a w h1;exact⟨Lx,Ij,h3,Tr.trans h2 h4⟩
def DL(e:Env):Env->Prop
 | []=>True
 | (k,v)::r=>get e k=some v/\DL e r
def pM(e:Heap):Heap->Prop
 | []=>True
 | (k,v)::r=>get e k=some v/\pM e r
theorem Gf{e:Env}:∀ {e':Env},DL e e'->dR e' e
 | [],_,s,v,h=>by cases h
 | (k,u)::r,hs,s,v,h=>by
  simp only[get]at h;split at h
  ·rename_i he
   have:=Nat.eq_of_beq_eq_true he;subst this;cases h;exact hs.1
  ·exact Gf hs.2 s v h
theorem jE{e:Heap}:∀ {e':Heap},pM e e'->dR e' e
 | [],_,s,v,h=>by cases h
 | (k,u)::r,hs,s,v,h=>by
  simp only[get]at h;split at h
  ·rename_i he
   have:=Nat.eq_of_beq_eq_true he;subst this;cases h;exact hs.1
  ·exact jE hs.2 s v h
theorem Wk.sub{σ:Type}{e e':Env}{h h':Heap}{s:σ}(he:DL e e')(hh:pM h h'):Wk (⟨e,h,s⟩:St σ) ⟨e',h',s⟩:=
 fun cx r m L F a w hg=>⟨L,F,hg.sub (Gf he) (jE hh),Tr.refl F w⟩
theorem aw{σ:Type}{e e':Env}{h h':Heap}{s:σ}(he:DL e e':=by repeat' first|exact trivial|refine⟨?_,?_⟩|rfl|simp[PX.get])(hh:pM h h':=by repeat' first|exact trivial|refine⟨?_,?_⟩|rfl|simp[PX.get]):Wk (⟨e,h,s⟩:St σ) ⟨e',h',s⟩:=Wk.sub he hh
theorem Wk.move{σ:Type}{e:Env}{h:Heap}{s:σ}(i j:Nat)(hj:Nat.blt j 1000000=true)(qe:Nat.beq i j=false) :
  Wk (⟨e,h,s⟩:St σ) ⟨dv (aJ (iY i j)) (dv (aJ (bp j)) e),oC i j (dv (Obj.aJ (bp j)) (cut h j)),s⟩:=by
 intro cx r m L F a w hg;have hj:=Nat.le_of_ble_eq_true hj;have qe:i≠j:=by rintro rfl;simp at qe
 have h1:Good cx r m L F ⟨e,cut h j,s⟩ a w:=hg.del j;have h2:=h1.kill j;have hu:=zz (e:=e) (h:=h) j (x:=j) (.inl rfl);exact⟨_,F,h2.move (by unfold pinned;omega) qe hu,Tr.refl F w⟩
mutual
def iJ(g:Nat->Option DO):V->V
 | .d v=>.d v
 | .agg cs=>sD (jB g cs)
 | .tup cs=>xd (jB g cs)
 | .clo f cs=>match xB (jB g cs) with
  | some l=>.d (.clo f l)
  | none=>.clo f (jB g cs)
 | .ptr i o=>match dP g (.ptr i o) with
  | some v=>.d v
  | none=>.ptr i o
 | .ep i n j o=>.ep i n j o
 | .sl i n o l=>match dP g (.sl i n o l) with
  | some v=>.d v
  | none=>.sl i n o l
 | .mp i=>match dP g (.mp i) with
  | some v=>.d v
  | none=>.mp i
 | .it i=>.it i
 | .yld=>.yld
 | .unk=>.unk
def jB(g:Nat->Option DO):List V->List V
 | []=>[]
 | v::r=>iJ g v::jB g r
end
def lz(g:Nat->Option DO):List (List V)->List (List V)
 | []=>[]
 | v::r=>jB g v::lz g r
def Es:List (List V)->Option (List (List D))
 | []=>some []
 | v::r=>match xB v,Es r with
  | some a,some l=>some (a::l)
  | _,_=>none
def uZ(g:Nat->Option DO):Obj->Obj
 | .box (.vv l)=>match xB (jB g l) with
  | some l=>.box (.dd l)
  | none=>.box (.vv (jB g l))
 | .tb t l=>.tb t (jB g l)
 | .arr n (.vv l)=>match Es (lz g l) with
  | some l=>.arr n (.dd l)
  | none=>.arr n (.vv (lz g l))
 | o=>o
def lL{α:Type}(t:xA α):List Nat->xA α
 | []=>t
 | i::r=>lL (cut t i) r
theorem mI{α:Type}:∀ (l:List Nat) (t:xA α) (x:Nat),get (lL t l) x=if x∈l then none else get t x
 | [],t,x=>by simp[lL]
 | i::r,t,x=>by
  rw[lL,mI r,e5];by_cases h1:x∈r
  ·simp[h1]
  ·by_cases h2:x=i
   ·simp[h2]
   ·simp[h1,h2]
section
variable {yv : Option Nat} {L : Loc} {F F1 : Nat -> Nat} {w : World} {g : Nat -> Option DO}
theorem br.Om(tr:Tr F w F1 w)(hg:∀ id o,g id=some o->yo yv L F1 w id o){v:V}{x:Value}(hr:br yv L F w v x):br yv L F1 w (match dP g v with
  | some d=>.d d
  | none=>v) x:=by
 split
 ·rename_i d hd
  exact Jp tr hg v x d hd hr
 ·exact br.mono tr v x (fun _ _=>⟨rfl,rfl⟩) hr
theorem br.xd{cs:List V}{l:Array Value}(h:aq yv L F w cs l.toList):br yv L F w (xd cs) (.tuple l):=by
 unfold PX.xd;split
 ·rename_i ds JY
  rw[lM JY]at h;exact⟨l,rfl,aq.inj.1 h⟩
 ·exact⟨l,rfl,h⟩
mutual
theorem br.iJ(tr:Tr F w F1 w)(hg:∀ id o,g id=some o->yo yv L F1 w id o):∀ (v:V) (x:Value),br yv L F w v x->br yv L F1 w (iJ g v) x
 | .d v,x,h=>by simp only[PX.iJ];exact bR.mono tr v x h
 | .agg cs,x,h=>by
  obtain⟨l,rfl,hl⟩:=h;simp only[PX.iJ];exact br.sD (aq.iJ tr hg cs _ hl)
 | .tup cs,x,h=>by
  obtain⟨l,rfl,hl⟩:=h;simp only[PX.iJ];exact br.xd (aq.iJ tr hg cs _ hl)
 | .clo f cs,x,h=>by
  obtain⟨l,rfl,hl⟩:=h;simp only[PX.iJ];have:=aq.iJ tr hg cs _ hl;split
  ·rename_i ds JY
   rw[lM JY]at this;exact⟨l,rfl,aq.inj.1 this⟩
  ·exact⟨l,rfl,this⟩
 | .ptr i o,x,h=>by simp only[PX.iJ];exact br.Om tr hg h
 | .ep i n j o,x,h=>by simp only[PX.iJ];exact br.mono tr _ x (fun _ _=>⟨rfl,rfl⟩) h
 | .sl i n o l,x,h=>by simp only[PX.iJ];exact br.Om tr hg h
 | .mp i,x,h=>by simp only[PX.iJ];exact br.Om tr hg h
 | .it i,x,h=>by simp only[PX.iJ];exact br.mono tr _ x (fun _ _=>⟨rfl,rfl⟩) h
 | .yld,x,h=>by simp only[PX.iJ];exact h
 | .unk,x,h=>by simp only[PX.iJ];exact h
theorem aq.iJ(tr:Tr F w F1 w)(hg:∀ id o,g id=some o->yo yv L F1 w id o):∀ (vs:List V) (l:List Value),aq yv L F w vs l->aq yv L F1 w (jB g vs) l
 | [],_,h=>h
 | v::r,_,h=>by
  obtain⟨x,l',rfl,hx,hl⟩:=h;exact⟨x,l',rfl,br.iJ tr hg v x hx,aq.iJ tr hg r l' hl⟩
end
theorem DB(a b:List V):jB g (a++b)=jB g a++jB g b:=by
 induction a with
 | nil=>rfl
 | cons x r ih=>simp[jB,ih]
theorem DC(a:List V):(jB g a).length=a.length:=by
 induction a with
 | nil=>rfl
 | cons x r ih=>simp[jB,ih]
theorem xn:∀ (a:List (List V)),(lz g a).flatten=jB g a.flatten/\(lz g a).length=a.length /\ ∀ sz,dE sz a->dE sz (lz g a)
 | []=>⟨rfl,rfl,fun _ _ _ h=>by cases h⟩
 | e::r=>by
  obtain⟨h1,h2,h3⟩:=xn r;refine⟨by simp[lz,h1,DB],by simp[lz,h2],fun sz hl x hx=>?_⟩;rcases List.mem_cons.1 hx with rfl|hx
  ·rw[DC];exact hl e (List.mem_cons_self ..)
  ·exact h3 sz (fun y hy=>hl y (List.mem_cons_of_mem _ hy)) x hx
theorem Et:∀ {l:List (List V)} {ds:List (List D)},Es l=some ds->l=bg ds
 | [],ds,h=>by simp only[Es,Option.some.injEq]at h;subst h;rfl
 | v::r,ds,h=>by
  simp only[Es]at h;split at h
  ·rename_i a l h1 h2
   cases h;simp only[bg];rw[lM h1,Et h2]
  ·cases h
theorem bU.iJ(tr:Tr F w F1 w)(hg:∀ id o,g id=some o->yo yv L F1 w id o)(id:Nat)(o:Obj)(h:bU yv L F w id o):bU yv L F1 w id (uZ g o):=by
 cases o with
 | box c=>
  cases c with
  | dd l=>exact bU.mono tr id _ (fun _ _=>⟨rfl,rfl⟩) ⟨rfl,rfl⟩ (fun _=>rfl) h
  | vv l=>
   obtain⟨c,T,hc,hr⟩:=h;have hr:=aq.iJ tr hg l _ hr;simp only[uZ];split
   ·rename_i ds JY
    rw[lM JY]at hr;exact⟨c,T,hc,hr⟩
   ·exact⟨c,T,hc,hr⟩
 | arr sz es=>
  cases es with
  | dd l=>exact bU.mono tr id _ (fun _ _=>⟨rfl,rfl⟩) ⟨rfl,rfl⟩ (fun _=>rfl) h
  | vv l=>
   obtain⟨hs,hl,h⟩:=h;obtain⟨k1,k2,k3⟩:=xn (g:=g) l;have uz:bU yv L F1 w id (.arr sz (.vv (lz g l))):=by
    refine⟨hs,k3 sz hl,?_⟩;rcases h with⟨h,hk⟩|⟨c,T,hc,hk,hn,hr⟩
    ·left
     have h:l = []:=h;subst h;exact⟨rfl,hk⟩
    ·right
     refine⟨c,T,hc,hk,?_,?_⟩
     ·show(lz g l).length*sz<=_
      rw[k2];exact hn
     ·show aq yv L F1 w (lz g l).flatten (c.toList.take ((lz g l).length*sz))
      rw[k2,k1];exact aq.iJ tr hg _ _ hr
   simp only[uZ];split
   ·rename_i ds JY
    rw[Et JY]at uz;exact uz
   ·exact uz
 | map cY=>exact bU.mono tr id _ (fun _ _=>⟨rfl,rfl⟩) ⟨rfl,rfl⟩ (fun _=>rfl) h
 | iter s n=>exact bU.mono tr id _ (fun _ _=>⟨rfl,rfl⟩) ⟨rfl,rfl⟩ (fun _=>rfl) h
 | buf t s=>exact bU.mono tr id _ (fun _ _=>⟨rfl,rfl⟩) ⟨rfl,rfl⟩ (fun _=>rfl) h
 | tb t l=>
  obtain⟨c,hc,hr⟩:=h;exact⟨c,hc,aq.iJ tr hg l _ hr⟩
 | mit v n l u=>exact bU.mono tr id _ (fun _ _=>⟨rfl,rfl⟩) ⟨rfl,rfl⟩ (fun _=>rfl) h
theorem qf(id:Nat)(o:Obj):aS L id (uZ g o)↔aS L id o:=by
 cases o with
 | box c=>cases c with
  | dd l=>exact Iff.rfl
  | vv l=>simp only[uZ];split<;>exact Iff.rfl
 | arr sz es=>cases es with
  | dd l=>exact Iff.rfl
  | vv l=>simp only[uZ];split<;>exact Iff.rfl
 | map cY=>exact Iff.rfl
 | iter s n=>exact Iff.rfl
 | buf t s=>exact Iff.rfl
 | tb t l=>exact Iff.rfl
 | mit v n l u=>exact Iff.rfl
end
theorem Wk.Zw{σ:Type}{e:Env}{h:Heap}{s:σ}(n:Nat)(ids:List Nat) :
  Wk (⟨e,h,s⟩:St σ) ⟨dv (iJ (fp (bh ids h) n)) e,dv (uZ (fp (bh ids h) n)) (lL h ids),s⟩:=by
 intro cx r m L F a w hg;have mN:dR (bh ids h) h:=eC ids h;have gL:a7 cx L F (bh ids h) s w:=(hg.sub (e:=e) (h:=bh ids h) (fun _ _ h=>h) mN).heap;have tr:=gK gL;have AU:∀ b,cx.C s b->fO L F (bh ids h) w b=F b:=fun b hb=>qC gL hb;have EN:∀ id o,get h id=some o->id∉ids->aS L id o->fO L F (bh ids h) w (L.ρ id)=F (L.ρ id):=by
  intro id o hi hn hb;refine iF ?_;rintro ⟨j,p,hj,jt,qe⟩;have:=hg.heap.inj j id p o (mN j p hj) hi jt hb qe;subst this;exact hn (mP ids h j p hj)
 have D0:=gz gL;have xG:=pD gL n;generalize fO L F (bh ids h) w=F1 at tr AU EN D0 xG;generalize fp (bh ids h) n=g at xG;have sk:∀ i o',get (dv (uZ g) (lL h ids)) i=some o'->i∉ids /\ ∃ o0,get h i=some o0/\o'=uZ g o0:=by
  intro i o' hi;rw[bY,mI]at hi;split at hi
  ·cases hi
  ·rename_i hn
   cases h0:get h i with
   | none=>simp[h0]at hi
   | some o0=>simp[h0]at hi;exact⟨hn,o0,rfl,hi.symm⟩
 refine⟨L,F1,⟨⟨cx.gE hg.heap.hg tr D0 fun b hb=>⟨rfl,AU b hb⟩,hg.heap.hP,D0,?_,?_,?_⟩,?_,hg.tZ,hg.pB,hg.xe,hg.lk,hg.jF,hg.ve⟩,tr⟩
 ·intro i o' hi
  obtain⟨_,o0,h0,rfl⟩:=sk i o' hi;exact bU.iJ tr xG i o0 (hg.heap.obj i o0 h0)
 ·intro i o' hi hb
  obtain⟨hn,o0,h0,rfl⟩:=sk i o' hi;have hb:=(qf i o0).1 hb;rw[EN i o0 h0 hn hb];exact hg.heap.own i o0 h0 hb
 ·intro i j o' p hi hj mf jt he
  obtain⟨_,o0,h0,rfl⟩:=sk i o' hi;obtain⟨_,p0,E2,rfl⟩:=sk j p hj;exact hg.heap.inj i j o0 p0 h0 E2 ((qf i o0).1 mf) ((qf j p0).1 jt) he
 ·intro t v ht
  simp only[bY]at ht
  cases h0:get e t with
  | none=>simp[h0]at ht
  | some v0=>
   simp[h0]at ht;subst ht;obtain⟨x,hx,hr⟩:=hg.env t v0 h0;exact⟨x,hx,br.iJ tr xG v0 x hr⟩
section
variable {P : Program} {T : fA} {σ : Type} {Y : Hd σ}
theorem Gs.wk{c:Code}{st st':St σ}{K:fu->St σ->Prop}(hw:Wk st st')(h:Gs P Y c st' K):Gs P Y c st K:=by
 intro cx hY r m L F a w hg hc;obtain⟨L',F',dN,tr⟩:=hw cx r m L F a w hg;refine wpIn_mono (h cx hY r m L' F' a w dN hc) fun ex a' w' hq=>?_;rcases hq with⟨e',u6,m',L1,F1,h1,h2,h3,h4,h5⟩|hp
 ·exact .inl ⟨e',u6,m',L1,F1,h1,h2,h3,Tr.trans tr h4,h5⟩
 ·exact .inr (hp.trans tr rfl)
theorem cD(hT:bA P T){ft:FT}{c:Code}(hD:dr P T ft c){α:Type}(I:α->St σ)(Pr:α->Prop)(μ:α->Nat)(x0:α){st:St σ}{K:fu->St σ->Prop}(h0:Wk st (I x0))(p0:Pr x0)
  (round:∀ x,Pr x->Ct P T ft Y c (I x) fun e st'=>match e with
   | .normal=>∃ y,μ y<μ x/\Pr y/\Wk st' (I y)
   | e=>K e st'):Ec P ft Y c st K:=by
 refine⟨Gs.wk h0 ?_⟩;intro cx hY r m0 L0 F0 a w hg hc;have hc:codeOk a.tmps.size c=true:=hc
 let J:Act->World->α->Prop:=fun a' w' x=>Pr x /\ ∃ m L F,Good cx r m L F (I x) a' w'/\Tr F0 w F w'/\a'.tmps.size=a.tmps.size
 let M:Act->World->Nat:=fun a' w'=>Cc fun n=>∃ x,J a' w' x/\μ x=n
 refine wpIn_loop (fun a' w'=>∃ x,J a' w' x) M ⟨x0,p0,m0,L0,F0,hg,Tr.refl F0 w,rfl⟩ fun a' w' hJ=>?_;obtain⟨x,⟨hp,m,L,F,dN,tr,hs⟩,hx⟩:=Cd (p:=fun n=>∃ x,J a' w' x/\μ x=n) (by obtain⟨x,hx⟩:=hJ;exact⟨μ x,x,hx,rfl⟩);refine wpIn_mono (eD hT c hD (I x) _ (round x hp) cx hY r m L F a' w' dN (by rw[hs];exact hc)) fun ex QI xP hq=>?_;rcases hq with⟨e',u6,m1,L1,F1,rfl,h2,h3,h4,h5⟩|Tc
 case inr=>
  have Td:=Tc;obtain⟨v,pe,ph,ps,m',L',F',rfl,_⟩:=Tc;exact .inr (Td.trans tr hs)
 cases e' with
 | normal=>
  obtain⟨y,hy,hpy,Gz⟩:=h2;obtain⟨L2,F2,iK,AK⟩:=Gz cx r m1 L1 F1 QI xP h3;have Wb:J QI xP y:=⟨hpy,m1,L2,F2,iK,Tr.trans tr (Tr.trans h4 AK),h5.trans hs⟩;refine⟨⟨y,Wb⟩,?_⟩;have:M QI xP<=μ y:=FZ ⟨y,Wb,rfl⟩;have hx:μ x=M a' w':=hx;omega
 | exit i=>exact .inl ⟨.exit i,u6,m1,L1,F1,rfl,h2,h3,Tr.trans tr h4,h5.trans hs⟩
 | ret=>exact .inl ⟨.ret,u6,m1,L1,F1,rfl,h2,h3,Tr.trans tr h4,h5.trans hs⟩
end
section
variable {σ : Type}
theorem Good.Yo{cx:Cx σ}{r:Option Nat}{m:List Nat}{L:Loc}{F:Nat->Nat}{e:Env}{h:Heap}{s:σ}{a:Act}{w:World}(hg:Good cx r m L F ⟨e,h,s⟩ a w){t:Nat}{v v':V}(ht:get e t=some v)
  (hv:∀ x,br cx.yv L F w v x->br cx.yv L F w v' x):Good cx r m L F ⟨put e t v',h,s⟩ a w:=by
 refine⟨hg.heap,fun u y hu=>?_,hg.tZ,hg.pB,hg.xe,hg.lk,hg.jF,hg.ve⟩;rw[e6]at hu;split at hu
 ·rename_i he
  cases hu;subst he
  obtain⟨x,hx,hr⟩:=hg.env u v ht;exact⟨x,hx,hv x hr⟩
 ·exact hg.env u y hu
theorem Wk.born{e:Env}{h:Heap}{s:σ}(t id sz:Nat)(hid:Nat.blt id 1000000=true)(hs:Nat.blt 0 sz=true)(ht:get e t=some (.d .nils)) :
  Wk (⟨e,h,s⟩:St σ) ⟨put (dv (aJ (bp id)) e) t (.sl id sz 0 0),((id,.arr sz (.dd []))::dv (Obj.aJ (bp id)) (cut h id)),s⟩:=by
 intro cx r m L F a w hg;have hid:=Nat.le_of_ble_eq_true hid;have hs:=Nat.le_of_ble_eq_true hs;have h1:=hg.jU id sz (by unfold pinned;omega) hs (.dd []) rfl;refine⟨_,F,Good.Yo (t:=t) (v:=.d .nils) h1 (by rw[bY,ht];rfl) fun x hx=>?_,Tr.refl F w⟩;have hx:x = .slice none 0 0:=hx;subst hx;exact⟨none,0,rfl,Nat.le_refl _,hs,.inl ⟨rfl,rfl⟩⟩
end
end Go.PX
namespace Go.PX
open Go.RowKit
mutual
def DV:D->D->Bool
 | .bool a,.bool b=>a ==b
 | .int k n,.int k' m=>decide (k=k')&&decide (n=m)
 | .str a,.str b=>decide (a=b)
 | .agg a,.agg b=>EB a b
 | .tup a,.tup b=>EB a b
 | .nils,.nils=>true
 | .nilp,.nilp=>true
 | .nilm,.nilm=>true
 | .nilf,.nilf=>true
 | .nili,.nili=>true
 | _,_=>false
def EB:List D->List D->Bool
 | [],[]=>true
 | a::r,b::l=>DV a b&&EB r l
 | _,_=>false
end
mutual
theorem Mh:∀ (a b:D),DV a b=true->a=b
 | .bool a,b,h=>by cases b<;>simp[DV]at h;rw[h]
 | .int k n,b,h=>by cases b<;>simp[DV]at h;rw[h.1,h.2]
 | .str a,b,h=>by cases b<;>simp[DV]at h;rw[h]
 | .agg a,b,h=>by cases b<;>simp[DV]at h;rw[rN _ _ h]
 | .tup a,b,h=>by cases b<;>simp[DV]at h;rw[rN _ _ h]
 | .nils,b,h=>by cases b<;>simp[DV]at h;rfl
 | .nilp,b,h=>by cases b<;>simp[DV]at h;rfl
 | .nilm,b,h=>by cases b<;>simp[DV]at h;rfl
 | .nilf,b,h=>by cases b<;>simp[DV]at h;rfl
 | .nili,b,h=>by cases b<;>simp[DV]at h;rfl
 | .vs _,b,h=>by cases b<;>simp[DV]at h
 | .ref _,b,h=>by cases b<;>simp[DV]at h
 | .mv _,b,h=>by cases b<;>simp[DV]at h
 | .clo _ _,b,h=>by cases b<;>simp[DV]at h
 | .mth _ _,b,h=>by cases b<;>simp[DV]at h
 | .ifc _ _,b,h=>by cases b<;>simp[DV]at h
theorem rN:∀ (a b:List D),EB a b=true->a=b
 | [],b,h=>by cases b<;>simp[EB]at h;rfl
 | x::r,b,h=>by
  cases b with
  | nil=>simp[EB]at h
  | cons y l=>
   simp only[EB,Bool.and_eq_true]at h;rw[Mh x y h.1,rN r l h.2]
end
def eqFields:List (Nat×TypeId)->List (Nat×TypeId)->Bool
 | [],[]=>true
 | (a,b)::r,(c,d)::l=>Nat.beq a c&&Nat.beq b d&&eqFields r l
 | _,_=>false
theorem sx:∀ (a b:List (Nat×TypeId)),eqFields a b=true->a=b
 | [],[],_=>rfl
 | [],_::_,h=>by simp[eqFields]at h
 | _::_,[],h=>by simp[eqFields]at h
 | (a,b)::r,(c,d)::l,h=>by
  simp only[eqFields,Bool.and_eq_true]at h;rw[Nat.eq_of_beq_eq_true h.1.1,Nat.eq_of_beq_eq_true h.1.2,sx r l h.2]
def Sg:Kd->Kd->Bool
 | .bool,.bool=>true
 | .int k,.int k'=>decide (k=k')
 | .str,.str=>true
 | .slice e,.slice e'=>Nat.beq e e'
 | .struct fs,.struct gs=>eqFields fs gs
 | .array n e,.array n' e'=>Nat.beq n n'&&Nat.beq e e'
 | .map k e,.map k' e'=>Nat.beq k k'&&Nat.beq e e'
 | .iface,.iface=>true
 | .other,.other=>true
 | _,_=>false
theorem JL(a b:Kd)(h:Sg a b=true):a=b:=by
 cases a<;>cases b<;>simp only[Sg,Bool.and_eq_true,decide_eq_true_eq]at h<;>first|rfl|(cases h;done)|skip
 ·rw[h]
 ·rw[Nat.eq_of_beq_eq_true h]
 ·rw[sx _ _ h]
 ·rw[Nat.eq_of_beq_eq_true h.1,Nat.eq_of_beq_eq_true h.2]
 ·rw[Nat.eq_of_beq_eq_true h.1,Nat.eq_of_beq_eq_true h.2]
def YE:Bool->Bool->Bool
 | true,true=>true
 | false,false=>true
 | _,_=>false
def tyB(P:Program)(t:TypeId)(ti:sO):Bool:=
 match P.info? t,P.underlying t with
 | some i,some d=>Nat.beq ti.size i.size&&Nat.beq ti.bytes i.bytes&&Sg ti.kd (kp d)&&YE ti.isAgg (tR d)&&(match ti.held with
   | true=>true
   | false=>!P.stoodInHeld t&&(match ti.kd with | .int _=>i.comparable|_=>true))&&(match ti.zero with
   | none=>true
   | some z=>match i.zero with
    | some zv=>match zeroCells zv with
     | some z'=>EB z' z&&YE (Jx zv) ti.isAgg
     | none=>false
    | none=>false)
 | _,_=>false
theorem Ok{P:Program}{t:TypeId}{ti:sO}(h:tyB P t ti=true):∃ i d,P.info? t=some i/\P.underlying t=some d/\ti.size=i.size/\ti.bytes=i.bytes/\ti.kd=kp d/\ti.isAgg=tR d /\
  (ti.held=false->P.stoodInHeld t=false /\ ∀ k,ti.kd = .int k->i.comparable=true)/\(∀ z,ti.zero=some z -> ∃ zv,i.zero=some zv/\zeroCells zv=some z/\Jx zv=ti.isAgg):=by
 unfold tyB at h;split at h;case h_2=>cases h
 rename_i i d hi hd;simp only[Bool.and_eq_true]at h;obtain⟨⟨⟨⟨⟨h1,h2⟩,h3⟩,h4⟩,h5⟩,h6⟩:=h;refine⟨i,d,hi,hd,Nat.eq_of_beq_eq_true h1,Nat.eq_of_beq_eq_true h2,JL _ _ h3,?_,fun hh=>?_,fun z hz=>?_⟩
 ·revert h4;cases ti.isAgg<;>cases tR d<;>simp[YE]
 ·rw[hh]at h5
  simp only[Bool.and_eq_true,Bool.not_eq_true']at h5;refine⟨h5.1,fun k hk=>?_⟩;have:=h5.2;rw[hk]at this;exact this
 ·rw[hz]at h6
  simp only at h6;split at h6;case h_2=>cases h6
  rename_i zv Ki;split at h6;case h_2=>cases h6
  rename_i z' hz';simp only[Bool.and_eq_true]at h6;exact⟨zv,Ki,by rw[hz',rN _ _ h6.1],by have:=h6.2;revert this;cases Jx zv<;>cases ti.isAgg<;>simp[YE]⟩
def QD(P:Program):fA->Bool
 | .lf=>true
 | .nd l k v r=>QD P l&&tyB P k v&&QD P r
theorem wq{P:Program}:∀ {T:fA},QD P T=true->bA P T
 | .lf,_,t,ti,h=>by cases h
 | .nd l k v r,hT,t,ti,h=>by
  simp only[QD,Bool.and_eq_true]at hT;simp only[fA.get]at h;split at h
  ·rename_i he
   have:=Nat.eq_of_beq_eq_true he;subst this;cases h;exact Ok hT.1.2
  ·split at h
   ·exact wq hT.1.1 t ti h
   ·exact wq hT.2 t ti h
end Go.PX
namespace Go.PX
theorem jI{k:IntKind}{n:Int}{K:V->Prop}(h:k.wrap n=n)(hK:K (.d (.int k n))):arith k n K:=by constructor;rw[h];exact hK
theorem ag{b:Bool}{X Y:Prop}(h:b=true->X)(k:b=false->Y):QK b X Y:=by cases b<;>simp_all[QK]
theorem aM{b:Bool}{K:Prop}(h:b=true)(k:K):gR b K:=by subst h;exact k
theorem aU{es:List (List D)}{i:Int}{K:List D->Prop}(l:List D)(h:0<=i/\es[i.toNat]?=some l)(k:K l):Bp es i K:=by simp[Bp,h.1,h.2,k]
theorem cJ{α:Type}{cs:List α}{n:Nat}{K:α->Prop}(v:α)(h:cs[n]?=some v)(k:K v):pT cs n K:=by simp[pT,h,k]
theorem wrap_i64{n:Int}(h : -9223372036854775808<=n/\n<=9223372036854775807):IntKind.wrap .i64 n=n:=IntWalk.i64_in n h
theorem ae{n:Int}{K:V->Prop}(hK:K (.d (.int .i64 n)))(h:IntKind.wrap .i64 n=n:=by exact wrap_i64 (by(try dsimp only);omega)):arith .i64 n K:=jI h hK
abbrev i64(n:Int):D:=.int .i64 n
theorem mH{P:Program}{T:fA}(hm:P.follows .mixedOrders=true)(hT:bA P T){f:FuncId}{fn:Func}{c:Code}(hf:P.funcs[f]?=some fn)(hb:fn.body=some c){ft:FT}{ds:List D}{r:D}(n:Nat)(gL:oQ ft fn n=true)(hn:ds.length=n)
     (hw:∀ {σ:Type} (Y:Hd σ) (s:σ),Ct P T ft Y c ⟨dS 0 (inj ds),[],s⟩ (Sk T fn.results.toList fun v h' s'=>(v = .d r/\h' = [])/\s'=s)):bq P f ds r:=by
  intro σ Y s;exact ez hm hT hf hb (by rw[eR,hn];exact gL) (hw Y.np s)
theorem Im{σ:Type}{h:Heap}{s:σ}{Q:V->Heap->σ->Prop}{id sz n:Nat}{es:List (List D)}(hg:get h id=some (.arr sz (.dd es)))(hn:n=es.length)(hq:Q (.d (.vs es)) [] s):p9 [.sl id sz 0 n] h s Q:=by
 refine aO 1 (ds:=[.vs es]) ?_ hq;have h1:Nat.beq sz sz=true:=Nat.beq_refl sz;have h2:Nat.ble (0+es.length) es.length=true:=Nat.ble_eq_true_of_le (by omega);subst hn;simp only[cS,dP,fp,hg,h1,h2,List.drop_zero,List.take_length]
end Go.PX
namespace Go.PX
open Go.RowKit
def ew(R:Nat->Nat):Heap->Heap
 | []=>[]
 | (k,o)::r=>(R k,kO R o)::ew R r
def nh(R:Nat->Nat)(e:Env):Env:=dv (aJ (lZ R)) e
theorem jO{R:Nat->Nat}:∀ {h:Heap} {k:Nat} {o:Obj},get (ew R h) k=some o -> ∃ j o1,get h j=some o1/\k=R j/\o=kO R o1
 | [],k,o,h=>by cases h
 | (j,p)::r,k,o,h=>by
  simp only[ew,get]at h;split at h
  ·rename_i he
   have:=Nat.eq_of_beq_eq_true he;subst this;cases h;exact⟨j,p,by simp[get],rfl,rfl⟩
  ·rename_i he
   obtain⟨j',o1,h1,rfl,rfl⟩:=jO h;refine⟨j',o1,?_,rfl,rfl⟩;have:Nat.beq j j'=false:=by
    rw[Bool.eq_false_iff];intro e;have:=Nat.eq_of_beq_eq_true e;subst this;simp at he
   simp[get,this,h1]
section
variable {σ : Type} {cx : Cx σ} {L L' : Loc} {F : Nat -> Nat} {s : σ} {w : World} {R : Nat -> Nat}
theorem a7.oc{h:Heap}(hh:a7 cx L F h s w)(hn:∀ i∈cB h,L'.ρ (R i)=L.ρ i/\L'.κ (R i)=L.κ i):a7 cx L' F (ew R h) s w:=by
 refine⟨hh.hg,hh.hP,hh.fresh,fun k o hk=>?_,fun k o hk hb=>?_,fun k l o p hk hl iU xV e=>?_⟩
 ·obtain⟨j,o1,h1,rfl,rfl⟩:=jO hk
  obtain⟨n1,n2⟩:=aI h1;exact(bU.oc (R:=R) (L:=L) (L':=L') j o1 (fun i hi=>hn i (n2 i (eH i o1 hi))) (hn j n1)).2 (hh.obj j o1 h1)
 ·obtain⟨j,o1,h1,rfl,rfl⟩:=jO hk
  obtain⟨n1,n2⟩:=aI h1;rw[(hn j n1).1];exact hh.own j o1 h1 ((cE (R:=R) (L:=L) (L':=L') j o1 (hn j n1).2).1 hb)
 ·obtain⟨j,o1,h1,rfl,rfl⟩:=jO hk
  obtain⟨i,o2,h2,rfl,rfl⟩:=jO hl;obtain⟨n1,_⟩:=aI h1;obtain⟨n2,_⟩:=aI h2;rw[(hn j n1).1,(hn i n2).1]at e;rw[hh.inj j i o1 o2 h1 h2 ((cE (R:=R) (L:=L) (L':=L') j o1 (hn j n1).2).1 iU) ((cE (R:=R) (L:=L) (L':=L') i o2 (hn i n2).2).1 xV) e]
def eV:Env->List Nat
 | []=>[]
 | (_,v)::r=>cQ v++eV r
theorem gw:∀ {e:Env} {t:Nat} {v:V} {i:Nat},get e t=some v->iQ v i->i∈eV e
 | [],t,v,i,h,_=>by cases h
 | (k,u)::r,t,v,i,h,hi=>by
  simp only[get]at h;split at h
  ·cases h
   exact List.mem_append.2 (.inl (jy i _ hi))
  ·exact List.mem_append.2 (.inr (gw h hi))
end
def idx:List Nat->Nat->Nat->Option Nat
 | [],_,_=>none
 | k::r,n,i=>match Nat.beq k i with
  | true=>some n
  | false=>idx r (n+1) i
def jG(c:Nat)(tb:List Nat)(i:Nat):Nat:=
 match idx tb c i with
 | some k=>k
 | none=>i
def lD(c:Nat)(tb:List Nat)(j:Nat):Nat:=
 match Nat.ble c j with
 | true=>match tb[j-c]? with
  | some i=>i
  | none=>j
 | false=>j
theorem zo:∀ {tb:List Nat} {n i k:Nat},idx tb n i=some k->n<=k/\tb[k-n]?=some i
 | [],n,i,k,h=>by cases h
 | t::r,n,i,k,h=>by
  simp only[idx]at h;split at h
  ·rename_i he
   have:=Nat.eq_of_beq_eq_true he;subst this;cases h;exact⟨Nat.le_refl _,by simp⟩
  ·obtain⟨h1,h2⟩:=zo h
   refine⟨by omega,?_⟩;have:k-n=(k-(n+1))+1:=by omega
   rw[this,List.getElem?_cons_succ];exact h2
theorem Fb:∀ {tb:List Nat} {n i:Nat},idx tb n i=none->i∉tb
 | [],n,i,h=>by simp
 | t::r,n,i,h=>by
  simp only[idx]at h;split at h
  ·cases h
  ·rename_i he
   intro hm;rcases List.mem_cons.1 hm with rfl|hm
   ·simp at he
   ·exact Fb h hm
theorem Tr.YD{F:Nat->Nat}{w:World}{b:Nat}{o o':Go.Obj}(h:w.heap[b]?=some o)(hc:∀ c T x,o ≠ .cells c T x)(hm:∀ e c,o ≠ .map e c)(rQ:∀ c T x,o' ≠ .cells c T x):Tr F w F (w.putObj b o'):=by
 have hk:∀ x,x≠b->(w.putObj b o').heap[x]?=w.heap[x]?:=fun x hx=>World.putObj_heap_other hx;refine⟨rfl,rfl,rfl,by simp,fun _=>Nat.le_refl _,fun x i hx=>?_,fun x en c hx S2=>?_⟩
 ·by_cases he:x=b
  ·subst he
   have h1:=World.putObj_heap_same (w:=w) (o:=o') (bP h);have k1:w.cell? ⟨x,i,none⟩=none:=by
    simp only[World.cell?,h];cases o<;>first|rfl|exact absurd rfl (hc _ _ _)
   have k2:(w.putObj x o').cell? ⟨x,i,none⟩=none:=by
    simp only[World.cell?,h1];cases o'<;>first|rfl|exact absurd rfl (rQ _ _ _)
   rw[k1,k2]
  ·exact kj (hk x he)
 ·by_cases he:x=b
  ·subst he;rw[h]at S2;cases S2;exact absurd rfl (hm _ _)
  ·rw[hk x he];exact S2
theorem bU.lT{yv:Option Nat}{L:Loc}{F:Nat->Nat}{w:World}{id:Nat}{o:Obj}(h:bU yv L F w id o)(hb:aS L id o){x:Go.Obj}(hx:w.heap[L.ρ id]?=some x):(∀ lp,x ≠ .loop lp)/\(∀ d,x ≠ .deferred d):=by
 cases o with
 | box c=>obtain⟨c',T,hc,_⟩:=h;rw[hc]at hx;cases hx;exact⟨fun _ h=>(by cases h),fun _ h=>(by cases h)⟩
 | arr sz es=>
  obtain⟨_,_,h⟩:=h;rcases h with⟨_,hk⟩|⟨c,T,hc,_⟩
  ·exact absurd hk hb
  ·rw[hc]at hx;cases hx;exact⟨fun _ h=>(by cases h),fun _ h=>(by cases h)⟩
 | map cY=>obtain⟨en,c,hc,_⟩:=h;rw[hc]at hx;cases hx;exact⟨fun _ h=>(by cases h),fun _ h=>(by cases h)⟩
 | iter s n=>
  have hc:w.heap[L.ρ id]?=_:=h;rw[hc]at hx;cases hx;exact⟨fun _ h=>(by cases h),fun _ h=>(by cases h)⟩
 | buf t s=>obtain⟨_,hc,_⟩:=h;rw[hc]at hx;cases hx;exact⟨fun _ h=>(by cases h),fun _ h=>(by cases h)⟩
 | tb t l=>obtain⟨_,hc,_⟩:=h;rw[hc]at hx;cases hx;exact⟨fun _ h=>(by cases h),fun _ h=>(by cases h)⟩
 | mit v n l u=>obtain⟨_,_,_,hc,_⟩:=h;rw[hc]at hx;cases hx;exact⟨fun _ h=>(by cases h),fun _ h=>(by cases h)⟩
theorem a7.n5{σ:Type}{cx:Cx σ}{L:Loc}{F F':Nat->Nat}{h:Heap}{s:σ}{w w':World}(hh:a7 cx L F h s w)(tr:Tr F w F' w')(hf:∀ b,w'.heap.size<=b->F' b=0)
  (hC:∀ b,cx.C s b->w'.heap[b]?=w.heap[b]?/\F' b=F b) (ho:∀ id o,get h id=some o->aS L id o->w'.heap[L.ρ id]?=w.heap[L.ρ id]?/\F' (L.ρ id)=F (L.ρ id)):a7 cx L F' h s w':=by
 refine⟨cx.gE hh.hg tr hf hC,fun b hb=>Nat.lt_of_lt_of_le (hh.hP b hb) tr.size,hf,fun id o hi=>?_,fun id o hi hb=>?_,hh.inj⟩
 ·exact bU.mono tr id o (fun _ _=>⟨rfl,rfl⟩) ⟨rfl,rfl⟩ (fun hb=>(ho id o hi hb).1) (hh.obj id o hi)
 ·rw[(ho id o hi hb).2];exact hh.own id o hi hb
end Go.PX
