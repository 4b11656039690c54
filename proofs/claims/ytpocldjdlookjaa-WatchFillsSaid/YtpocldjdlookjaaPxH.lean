import Derived.Test.YtpocldjdlookjaaPxG
import Derived.IntWalk
import Derived.RangeFuncNested
set_option linter.all false
namespace Go.PX
open Go.RowKit
theorem y3{tb:List Nat}{d:Option Nat}{v:V}{h':av}(h:g7 tb d v h'=true):cE (bZ tb d v h')=true:=by
 simp only[g7,Bool.and_eq_true]at h;exact h.2
theorem ri{l:List Nat}(h:l.Nodup){i j a:Nat}(hi:l[i]?=some a)(hj:l[j]?=some a):i=j:=by
 obtain⟨vp,vq⟩:=List.getElem?_eq_some_iff.1 hi;obtain⟨EE,sS⟩:=List.getElem?_eq_some_iff.1 hj;have hp:=List.pairwise_iff_getElem.1 h;rcases Nat.lt_trichotomy i j with eC|heq|JR
 ·exact absurd (vq.trans sS.symm) (hp i j vp EE eC)
 ·exact heq
 ·exact absurd (sS.trans vq.symm) (hp j i EE vp JR)
def jZ(L L':Loc)(NL:List Nat)(c:Nat):Loc:=⟨fun x=>if x∈NL then L'.ρ (x-c+2000000) else L.ρ x,fun x=>if x∈NL then L'.κ (x-c+2000000) else L.κ x⟩
theorem AO{L L':Loc}{NL:List Nat}{c x:Nat}(hx:x∉NL):(jZ L L' NL c).ρ x=L.ρ x/\(jZ L L' NL c).κ x=L.κ x:=⟨if_neg hx,if_neg hx⟩
theorem AN{L L':Loc}{NL:List Nat}{c x:Nat}(hx:x∈NL):(jZ L L' NL c).ρ x=L'.ρ (x-c+2000000)/\(jZ L L' NL c).κ x=L'.κ (x-c+2000000):=⟨if_pos hx,if_pos hx⟩
theorem BQ{h st h0:av}{R:Nat->Nat}{tb:List Nat}(hh:cM h st)(eI:gb R h 1000000 tb h0)(mU:∀ k id,tb[k]?=some id->R (1000000+k)=id) :
  ∀ i o,get h0 i=some o -> ∃ k id,i=1000000+k/\tb[k]?=some id/\R i=id/\get st id=some (ir R o):=by
 intro i o hi;obtain⟨k,id,h1,h2,h3⟩:=rU eI i o hi;exact⟨k,id,h1,h2,by rw[h1];exact mU k id h2,hh _ _ h3⟩
theorem Ks{σ:Type}:∀ (ws:List Wr) (st st':St σ),st.env=st'.env->st.heap=st'.heap->bW (aK st ws)=bW (aK st' ws)
 | [],⟨e,h,s⟩,⟨e',h',s'⟩,h1,h2=>by
  simp only at h1 h2;subst h1;subst h2;rfl
 | w::r,⟨e,h,s⟩,⟨e',h',s'⟩,h1,h2=>by
  simp only at h1 h2;subst h1;subst h2;rw[aK,aK];exact Ks r _ _ (by cases w<;>rfl) (by cases w<;>rfl)
theorem eD{L L2:Loc}{y:Nat}{o:Obj}(h:L2.κ y=L.κ y)(hb:aN L2 y o):aN L y o:=by
 cases o with
 | arr sz es=>intro e;exact hb (h.trans e)
 | box c=>exact trivial
 | map cc=>exact trivial
 | iter s n=>exact trivial
 | buf t s=>exact trivial
 | tb t l=>exact trivial
 | mit v n l u=>exact trivial
def vG(R:Nat->Nat)(L:Loc)(h0:av)(b:Nat):Prop:=∃ i o,get h0 i=some o/\aN ⟨fun i=>L.ρ (R i),fun i=>L.κ (R i)⟩ i o/\L.ρ (R i)=b
theorem tO{σ:Type}{cx:Cx σ}{r:Option Nat}{m:List Nat}{L:Loc}{F:Nat->Nat}{st:St σ}{a:Act}{w:World}{tb:List Nat}{d:Option Nat}{v:V}{h':av}(hB:g7 tb d v h'=true){R:Nat->Nat}(hR:br tb (d.getD 0)=R)
  {h h0:av} (hh:cM h st.heap) (eI:gb R h 1000000 tb h0) (hg:Good cx r m L F st a w) (hd:∀ k,d=some k->k<a.tmps.size) {s':σ} {x:Value} {w':World} {L':Loc} {F':Nat->Nat}
  (yt:cx.HG s' w' F') (o8:∀ b,cx.C s' b->b<w'.heap.size) (CF:∀ b,b<w.heap.size->¬ vG R L h0 b->¬ cx.C st.s b->¬ cx.C s' b)
  (g8:∀ b,b<w.heap.size->¬ vG R L h0 b->¬ cx.C st.s b->w'.heap[b]?=w.heap[b]?/\F' b=F b) (tV:∀ b,w'.heap.size<=b->F' b=0)
  (mM:∀ i o,get h' i=some o->bG cx.yv L' F' w' i o)
  (yD:∀ i o,get h' i=some o->aN L' i o->F' (L'.ρ i)=0/\¬ cx.C s' (L'.ρ i)/\(L'.ρ i<w.heap.size->vG R L h0 (L'.ρ i)))
  (sq:∀ i j o p,get h' i=some o->get h' j=some p->aN L' i o->aN L' j p->L'.ρ i=L'.ρ j->i=j)
  (hv:a6 cx.yv L' F' w' v x) (tr:Tr F w F' w') (lG:te ⟨fun i=>L.ρ (R i),fun i=>L.κ (R i)⟩ L') :
  ∃ L2,Good cx r m L2 F' (aK ⟨st.env,st.heap,s'⟩ (bZ tb d v h')) (a.put d x) w':=by
 have qf:=y3 hB;simp only[g7,Bool.and_eq_true]at hB;obtain⟨⟨⟨⟨⟨⟨⟨⟨⟨b1,b2⟩,b3⟩,b4⟩,b5⟩,b6⟩,b7⟩,b8⟩,b9⟩,_⟩:=hB;have pF:=gC b1;have b4:=fP b4;have b5:=oR b5;have b6:=oR b6;have b7:∀ i∈cq h',i<2000064:=fun i hi=>Nat.le_of_ble_eq_true (List.all_eq_true.1 b7 i hi);have b8:=Nat.le_of_ble_eq_true b8;have b9:=Nat.le_of_ble_eq_true b9;rw[hR]at b4;have mU:∀ k id,tb[k]?=some id->R (1000000+k)=id:=fun k id hk=>by rw[<- hR];exact gj hk b9
 have Kb:∀ i,2000000<=i->R i=100000+64*d.getD 0+(i-2000000):=fun i hi=>by rw[<- hR];exact qX hi
 obtain⟨qW,HM⟩:∃ qW,qW=vG R L h0:=⟨_,rfl⟩;rw[<- HM]at CF g8 yD;have OM:∀ b,qW b ↔ ∃ i o,get h0 i=some o/\aN ⟨fun i=>L.ρ (R i),fun i=>L.κ (R i)⟩ i o/\L.ρ (R i)=b:=fun b=>by rw[HM];exact Iff.rfl
 have DD:=BQ hh eI mU;have Em:∀ i o,get h0 i=some o->bG cx.yv ⟨fun i=>L.ρ (R i),fun i=>L.κ (R i)⟩ F w i o:=fun i o hi=>by
  obtain⟨k,id,rfl,h2,h3,h4⟩:=DD i o hi;have:=hg.heap.obj id _ h4;rw[<- h3]at this;exact(bG.kY (R:=R) (L:=⟨fun i=>L.ρ (R i),fun i=>L.κ (R i)⟩) (L':=L) (1000000+k) o (fun _ _=>⟨rfl,rfl⟩) ⟨rfl,rfl⟩).1 this
 let NL:=(cq h').map R
 obtain⟨L2,Rg⟩:∃ L2,L2=jZ L L' NL (100000+64*d.getD 0):=⟨_,rfl⟩;have mT:∀ x,x∉NL->L2.ρ x=L.ρ x/\L2.κ x=L.κ x:=fun x hx=>by rw[Rg];exact AO hx
 have J7:∀ i,i∈cq h'->L2.ρ (R i)=L'.ρ i/\L2.κ (R i)=L'.κ i:=by
  intro i hi;have DC:=mj hi;have hm:R i∈NL:=List.mem_map.2 ⟨i,hi,rfl⟩;have:R i-(100000+64*d.getD 0)+2000000=i:=by rw[Kb i DC];omega
  have h2:=AN (L:=L) (L':=L') (c:=100000+64*d.getD 0) hm;rw[this]at h2;rw[Rg];exact h2
 have Ij:∀ i,1000000<=i->i<1000000+tb.length->L2.ρ (R i)=L'.ρ i/\L2.κ (R i)=L'.κ i:=by
  intro i h1 h2;obtain⟨k,fK⟩:∃ k,i=1000000+k:=⟨i-1000000,by omega⟩;have eC:k<tb.length:=by omega
  obtain⟨y,hk⟩:∃ y,tb[k]?=some y:=⟨_,List.getElem?_eq_getElem eC⟩;have Sg:R i=y:=by rw[fK];exact mU _ _ hk
  have hn:R i∉NL:=by rw[Sg];exact b4 _ (List.mem_of_getElem? hk)
  obtain⟨p1,p2⟩:=lG i ⟨h1,by omega⟩;exact⟨(mT _ hn).1.trans p1.symm,(mT _ hn).2.trans p2.symm⟩
 have qV:∀ i,((1000000<=i/\i<1000000+tb.length)\/i∈cq h')->L2.ρ (R i)=L'.ρ i/\L2.κ (R i)=L'.κ i:=fun i hi=>hi.elim (fun h=>Ij i h.1 h.2) (J7 i);have db:=hg.lY NL;have LV:=Bp NL st (fun _=>False) (fun _ h=>h.elim);have qh:(lY st NL).s=st.s:=HD _ _;have Lg:∀ (ws:List Wr),bW (aK (⟨st.env,st.heap,s'⟩:St σ) ws)=bW (aK st ws):=fun ws=>Ks ws _ _ rfl rfl;have rQ:bW (aK st (bZ tb d v h'))=bz (bW (lY st NL)) (bZ tb d v h'):=by
  rw[qa _ _ qf,pB,hR]
 have IG:∀ x∈NL,100000<=x/\x<1000000:=by
  intro x hx;obtain⟨i,hi,rfl⟩:=List.mem_map.1 hx;have h1:=mj hi;have h2:=b7 i hi;rw[Kb i h1];omega
 have Np:bZ tb d v h'=fZ R h' (cq h')++(dy R h' 1000000 tb++a9 d (kY R v)):=by rw[<- hR];rfl
 have O5:∀ t u,get (aK (⟨st.env,st.heap,s'⟩:St σ) (bZ tb d v h')).env t=some u->(d=some t/\u=kY R v)\/(d≠some t/\get (lY st NL).env t=some u):=by
  intro t u H4;have ht:(bW (aK (⟨st.env,st.heap,s'⟩:St σ) (bZ tb d v h'))).env t=some u:=H4;clear H4;rw[Lg,rQ,Np,dV,dV]at ht
  cases d with
  | none=>
   simp only[a9,bz,nr,qx]at ht;exact .inr ⟨by simp,ht⟩
  | some d=>
   simp only[a9,bz,dN,nr,qx]at ht;split at ht
   ·rename_i e1;cases ht;exact .inl ⟨by rw[e1],rfl⟩
   ·rename_i e1;exact .inr ⟨by simpa using Ne.symm e1,ht⟩
 have yz:∀ y o,get (aK (⟨st.env,st.heap,s'⟩:St σ) (bZ tb d v h')).heap y=some o->(∃ i o0,((1000000<=i/\i<1000000+tb.length)\/i∈cq h')/\y=R i/\get h' i=some o0/\o=ir R o0)\/(y∉tb/\y∉NL/\get (lY st NL).heap y=some o):=by
  intro y o hy;have hy:(bW (aK (⟨st.env,st.heap,s'⟩:St σ) (bZ tb d v h'))).heap y=some o:=hy;rw[Lg,rQ,Np,dV,dV]at hy;have hy:(bz (bz (bW (lY st NL)) (fZ R h' (cq h'))) (dy R h' 1000000 tb)).heap y=some o:=by
   cases d with
   | none=>exact hy
   | some d=>exact hy
  rcases wo R h' tb 1000000 _ y o hy with⟨k,o0,k1,k2,k3⟩|⟨k1,k2⟩
  ·have hk:k<tb.length:=(List.getElem?_eq_some_iff.1 k1).1
   exact .inl ⟨1000000+k,o0,.inl ⟨by omega,by omega⟩,(mU k y k1).symm,k2,k3⟩
  ·rcases y0 R h' (cq h') _ y o (fun i hi=>rZ hi) k2 with⟨i,o0,j1,j2,j3,j4⟩|⟨j1,j2⟩
   ·exact .inl ⟨i,o0,.inr j1,j2,j3,j4⟩
   ·exact .inr ⟨k1,j1,j2⟩
 have rest:∀ y o,y∉tb->y∉NL->get (lY st NL).heap y=some o->aN L y o->¬ qW (L.ρ y):=by
  intro y o h1 h2 hy hb yC;obtain⟨i,o',hi,kj,jN⟩:=(OM _).1 yC;obtain⟨k,id,g1,g2,g3,g4⟩:=DD i o' hi;have Lm:id∉NL:=b4 _ (List.mem_of_getElem? g2);have O1:get (lY st NL).heap id=some (nn NL (ir R o')):=by
   rw[iG,if_neg Lm,g4];rfl
  have n9:aN L id (ir R o'):=by rw[<- g3];exact(bN (R:=R) (L:=⟨fun i=>L.ρ (R i),fun i=>L.κ (R i)⟩) (L':=L) i o' rfl).2 kj
  have GD:∀ (l:List Nat) (p:Obj),aN L id p->aN L id (nn l p):=by
   intro l
   induction l with
   | nil=>exact fun p hp=>hp
   | cons i r ih=>exact fun p hp=>ih _ ((dA L i id p).2 hp)
  have:=db.heap.inj id y _ o O1 hy (GD NL _ n9) hb (by rw[<- g3];exact jN);subst this;exact h1 (List.mem_of_getElem? g2)
 have ss:(aK (⟨st.env,st.heap,s'⟩:St σ) (bZ tb d v h')).s=s':=cT _ _;have Ub:Tr F w F' w':=tr;refine⟨L2,⟨by rw[ss];exact yt,fun b hb=>o8 b (by rw[<- ss];exact hb),tV,?_,?_,?_⟩,?_,?_,?_,hg.uy,?_,?_,?_⟩
 ·intro y o hy
  rcases yz y o hy with⟨i,o0,hi,rfl,h2,rfl⟩|⟨h1,h2,h3⟩
  ·have:=mM i o0 h2
   refine(bG.kY (R:=R) (L:=L') (L':=L2) i o0 (fun j hj=>qV j (b5 j ((a5 h2).2 j (cp j o0 hj)))) (qV i hi)).2 this
  ·refine bG.mono tr y o (fun j hj=>mT j fun hm=>(LV j (.inl hm)).heap y o h3 hj) (mT y h2) (fun hb=>?_) (db.heap.obj y o h3)
   exact(g8 _ ((db.heap.obj y o h3).lt hb) (rest y o h1 h2 h3 hb) (by rw[<- qh];exact(db.heap.own y o h3 hb).2)).1
 ·intro y o hy hb
  rcases yz y o hy with⟨i,o0,hi,rfl,h2,rfl⟩|⟨h1,h2,h3⟩
  ·have kN:aN L' i o0:=(bN (R:=R) (L:=L') (L':=L2) i o0 (qV i hi).2).1 hb
   obtain⟨k1,k2,_⟩:=yD i o0 h2 kN;rw[(qV i hi).1];exact⟨k1,by rw[ss];exact k2⟩
  ·have kN:aN L y o:=eD (mT y h2).2 hb
   obtain⟨k1,k2⟩:=db.heap.own y o h3 kN;rw[(mT y h2).1];rw[qh]at k2;have eC:=(db.heap.obj y o h3).lt kN;have hr:=rest y o h1 h2 h3 kN;exact⟨(g8 _ eC hr k2).2.trans k1,by rw[ss];exact CF _ eC hr k2⟩
 ·intro y z o p hy hz Bz Nb F6
  have out:∀ y o,y∉tb->y∉NL->get (lY st NL).heap y=some o->aN L2 y o->aN L y o/\(L.ρ y<w.heap.size/\¬ qW (L.ρ y))/\L2.ρ y=L.ρ y:=by
   intro y o h1 h2 h3 hb;have kN:aN L y o:=eD (mT y h2).2 hb;exact⟨kN,⟨(db.heap.obj y o h3).lt kN,rest y o h1 h2 h3 kN⟩,(mT y h2).1⟩
  rcases yz y o hy with⟨i,o0,hi,rfl,h2,rfl⟩|⟨h1,h2,h3⟩<;>rcases yz z p hz with⟨j,p0,hj,rfl,g2,rfl⟩|⟨g1,g2,g3⟩
  ·have n9:aN L' i o0:=(bN (R:=R) (L:=L') (L':=L2) i o0 (qV i hi).2).1 Bz
   have mI:aN L' j p0:=(bN (R:=R) (L:=L') (L':=L2) j p0 (qV j hj).2).1 Nb;rw[(qV i hi).1,(qV j hj).1]at F6;rw[sq i j o0 p0 h2 g2 n9 mI F6]
  ·exfalso
   have n9:aN L' i o0:=(bN (R:=R) (L:=L') (L':=L2) i o0 (qV i hi).2).1 Bz;obtain⟨q1,q2,q3⟩:=out z p g1 g2 g3 Nb;rw[(qV i hi).1,q3]at F6;exact q2.2 (by rw[<- F6];exact(yD i o0 h2 n9).2.2 (by rw[F6];exact q2.1))
  ·exfalso
   have mI:aN L' j p0:=(bN (R:=R) (L:=L') (L':=L2) j p0 (qV j hj).2).1 Nb;obtain⟨q1,q2,q3⟩:=out y o h1 h2 h3 Bz;rw[(qV j hj).1,q3]at F6;exact q2.2 (by rw[F6];exact(yD j p0 g2 mI).2.2 (by rw[<- F6];exact q2.1))
  ·obtain⟨q1,q2,q3⟩:=out y o h1 h2 h3 Bz
   obtain⟨q4,q5,q6⟩:=out z p g1 g2 g3 Nb;rw[q3,q6]at F6;exact db.heap.inj y z o p h3 g3 q1 q4 F6
 ·intro t u ht
  rcases O5 t u ht with⟨rfl,rfl⟩|⟨h1,h2⟩
  ·refine⟨x,?_,?_⟩
   ·simp[Act.put,Array.getElem?_setIfInBounds,hd t rfl]
   ·exact(a6.kY (R:=R) (L:=L') (L':=L2) v x fun j hj=>qV j (b6 j (dD j v hj))).2 hv
  ·obtain⟨y,hy,yI⟩:=db.env t u h2
   refine⟨y,?_,a6.mono tr u y (fun j hj=>mT j fun hm=>(LV j (.inl hm)).env t u h2 hj) yI⟩
   cases d with
   | none=>exact hy
   | some d=>
    simp only[Act.put];rw[Array.getElem?_setIfInBounds_ne (by rintro rfl;exact h1 rfl)];exact hy
 ·cases d with
  | none=>exact hg.sI
  | some d=>exact hg.sI
 ·intro b hb
  obtain⟨k1,k2⟩:=hg.oe b hb;have mL:¬ qW b:=?_
  ·refine⟨?_,by rw[ss];exact CF b (bL k1) mL k2⟩
   rw[(g8 b (bL k1) mL k2).1];exact k1
  intro yC;obtain⟨i,o,hi,kO,rfl⟩:=(OM _).1 yC;have:=Em i o hi
  cases o with
  | box c=>obtain⟨c',T,hc,_⟩:=this;rw[k1]at hc;cases hc
  | arr sz es=>
   obtain⟨_,_,h⟩:=this;rcases h with⟨_,hk⟩|⟨c,T,hc,_⟩
   ·exact kO hk
   ·rw[k1]at hc;cases hc
  | map cc=>obtain⟨en,c,hc,_⟩:=this;rw[k1]at hc;cases hc
  | iter s n=>have hc:w.heap[L.ρ (R i)]?=_:=this;rw[k1]at hc;cases hc
  | buf t s=>obtain⟨_,hc,_⟩:=this;rw[k1]at hc;cases hc
  | tb t l=>obtain⟨_,hc,_⟩:=this;rw[k1]at hc;cases hc
  | mit v n l u=>obtain⟨_,_,_,hc,_⟩:=this;rw[k1]at hc;cases hc
 ·intro l hl
  obtain⟨lp,⟨k1,k0⟩,k2⟩:=hg.lk l hl;have mL:¬ qW l:=?_
  ·refine⟨lp,⟨?_,k0⟩,by rw[ss];exact CF l (bL k1) mL k2⟩
   rw[(g8 l (bL k1) mL k2).1];exact k1
  intro yC;obtain⟨i,o,hi,kO,rfl⟩:=(OM _).1 yC;have:=Em i o hi
  cases o with
  | box c=>obtain⟨c',T,hc,_⟩:=this;rw[k1]at hc;cases hc
  | arr sz es=>
   obtain⟨_,_,h⟩:=this;rcases h with⟨_,hk⟩|⟨c,T,hc,_⟩
   ·exact kO hk
   ·rw[k1]at hc;cases hc
  | map cc=>obtain⟨en,c,hc,_⟩:=this;rw[k1]at hc;cases hc
  | iter s n=>have hc:w.heap[L.ρ (R i)]?=_:=this;rw[k1]at hc;cases hc
  | buf t s=>obtain⟨_,hc,_⟩:=this;rw[k1]at hc;cases hc
  | tb t l=>obtain⟨_,hc,_⟩:=this;rw[k1]at hc;cases hc
  | mit v n l u=>obtain⟨_,_,_,hc,_⟩:=this;rw[k1]at hc;cases hc
 ·intro i hi
  have hn:i∉NL:=fun hm=>by have:=IG i hm;unfold pinned at hi;omega
  rw[(mT i hn).1,(mT i hn).2];exact hg.lG i hi
 ·rw[eg];exact hg.sD
theorem v9{σ:Type}{cx:Cx σ}{r:Option Nat}{m:List Nat}{L:Loc}{F:Nat->Nat}{st:St σ}{a:Act}{w:World}{tb:List Nat}{R:Nat->Nat}{h h0:av}(hh:cM h st.heap)(eI:gb R h 1000000 tb h0)
  (mU:∀ k id,tb[k]?=some id->R (1000000+k)=id) (pF:tb.Nodup) (hg:Good cx r m L F st a w) :
  bo cx ⟨fun i=>L.ρ (R i),fun i=>L.κ (R i)⟩ F h0 st.s w:=by
 have DD:=BQ hh eI mU;refine⟨hg.heap.hg,hg.heap.iW,hg.heap.fresh,fun i o hi=>?_,fun i o hi kO=>?_,fun i j o p hi hj kj gJ jN=>?_⟩
 ·obtain⟨k,id,rfl,h2,h3,h4⟩:=DD i o hi
  have:=hg.heap.obj id _ h4;rw[<- h3]at this;exact(bG.kY (R:=R) (L:=⟨fun i=>L.ρ (R i),fun i=>L.κ (R i)⟩) (L':=L) (1000000+k) o (fun _ _=>⟨rfl,rfl⟩) ⟨rfl,rfl⟩).1 this
 ·obtain⟨k,id,h1,h2,h3,h4⟩:=DD i o hi
  have kN:aN L id (ir R o):=by rw[<- h3];exact(bN (R:=R) (L:=⟨fun i=>L.ρ (R i),fun i=>L.κ (R i)⟩) (L':=L) i o rfl).2 kO
  obtain⟨k1,k2⟩:=hg.heap.own id _ h4 kN;rw[<- h3]at k1 k2;exact⟨k1,k2⟩
 ·obtain⟨k,id,h1,h2,h3,h4⟩:=DD i o hi
  obtain⟨k',id',Al,R4,kW,R5⟩:=DD j p hj;have n9:aN L id (ir R o):=by rw[<- h3];exact(bN (R:=R) (L:=⟨fun i=>L.ρ (R i),fun i=>L.κ (R i)⟩) (L':=L) i o rfl).2 kj
  have mI:aN L id' (ir R p):=by rw[<- kW];exact(bN (R:=R) (L:=⟨fun i=>L.ρ (R i),fun i=>L.κ (R i)⟩) (L':=L) j p rfl).2 gJ
  have jN:L.ρ (R i)=L.ρ (R j):=jN;have:=hg.heap.inj id id' _ _ h4 R5 n9 mI (by rw[<- h3,<- kW];exact jN);subst this;rw[h1,Al,ri pF h2 R4]
def AL{σ:Type}(cx:Cx σ)(s0:σ)(w:World)(F:Nat->Nat)(qW:Nat->Prop):Cx σ where
 C:=fun s b=>cx.C s b\/(b<w.heap.size/\¬ qW b)
 HG:=fun s w' F'=>cx.HG s w' F'/\w.heap.size<=w'.heap.size/\(∀ b,b<w.heap.size->¬ cx.C s0 b->¬ cx.C s b) /\ ∀ b,b<w.heap.size->¬ qW b->¬ cx.C s0 b->w'.heap[b]?=w.heap[b]?/\F' b=F b
 yv:=cx.yv
 wC:=cx.wC
 pρ:=cx.pρ
 pκ:=cx.pκ
 eV:=by
  rintro s w1 F1 w2 F2 ⟨h1,h0,h2,h3⟩ tr hf hk;refine⟨cx.eV h1 tr hf fun b hb=>hk b (.inl hb),Nat.le_trans h0 tr.size,h2,fun b hb hl hc=>?_⟩;obtain⟨k1,k2⟩:=hk b (.inr ⟨hb,hl⟩);obtain⟨k3,k4⟩:=h3 b hb hl hc;exact⟨k1.trans k3,k2.trans k4⟩
theorem nq{σ:Type}{P:Program}{Y:Hd σ}{cx:Cx σ}{s0:σ}{w:World}{F:Nat->Nat}{qW:Nat->Prop}(hY:cX P Y cx):cX P Y (AL cx s0 w F qW):=by
 refine⟨?_,fun s w F hh=>hY.laid s w F hh.1⟩;intro l hl args h s Q hy L1 F1 aX w1 hh hr;obtain⟨yt,cU,CF,g8⟩:=hh.hg;obtain⟨fn,tmps,xR,body,h1,h2⟩:=hY.yld l hl args h s Q hy L1 F1 aX w1 ⟨yt,fun b hb=>hh.iW b (.inl hb),hh.fresh,hh.obj,fun id o ho hb=>⟨(hh.own id o ho hb).1,fun hC=>(hh.own id o ho hb).2 (.inl hC)⟩,hh.inj⟩ hr;refine⟨fn,tmps,xR,body,h1,h2.mono ?_⟩;rintro e w' ⟨x,he,v,h',s',L',F',hq,so,hv,tr,lG,k1,k2,k3⟩;have iY:∀ b,b<w.heap.size->¬ qW b->b<w1.heap.size /\ ∀ id o,get h id=some o->aN L1 id o->L1.ρ id≠b:=fun b hb hl=>
  ⟨hh.iW b (.inr ⟨hb,hl⟩),fun id o ho kO e=>(hh.own id o ho kO).2 (.inr ⟨by rw[e];exact hb,by rw[e];exact hl⟩)⟩
 refine⟨x,he,v,h',s',L',F',hq,⟨⟨so.hg,Nat.le_trans cU tr.size,fun b hb hc=>k1 b (Nat.lt_of_lt_of_le hb cU) (CF b hb hc),fun b hb hl hc=>?_⟩,fun b hb=>?_,so.fresh,so.obj,fun id o ho hb=>⟨(so.own id o ho hb).1,fun hC=>?_⟩,so.inj⟩,hv,tr,lG,fun b hb hC El=>?_,fun b hb hC=>k2 b hb (fun h=>hC (.inl h)),k3⟩
 ·obtain⟨p1,p2⟩:=iY b hb hl
  obtain⟨q1,q2⟩:=g8 b hb hl hc;obtain⟨r1,r2⟩:=k2 b p1 (CF b hb hc) p2;exact⟨r1.trans q1,r2.trans q2⟩
 ·rcases hb with hb|⟨hb,hl⟩
  ·exact so.iW b hb
  ·exact Nat.lt_of_lt_of_le (iY b hb hl).1 tr.size
 ·rcases hC with hC|⟨c1,c2⟩
  ·exact(so.own id o ho hb).2 hC
  ·obtain⟨p1,p2⟩:=iY _ c1 c2
   obtain⟨id',o',xp,kN,e⟩:=k3 id o ho hb p1;exact p2 id' o' xp kN e
 ·rcases El with El|El
  ·exact k1 b hb (fun h=>hC (.inl h)) El
  ·exact hC (.inr El)
theorem yb{σ:Type}{P:Program}{Y:Hd σ}{f:FuncId}{args0:List V}{h0:av}{Q:V->av->σ->Prop}{cx:Cx σ}{r:Option Nat}{m:List Nat}{L:Loc}{F:Nat->Nat}{st:St σ}{a:Act}{w:World}(hf:zG P Y f args0 h0 st.s Q)
  (tb:List Nat) {h:av} {d:Option Nat} {args:List V} (cr:og (br tb (d.getD 0)) args0=args) (eI:gb (br tb (d.getD 0)) h 1000000 tb h0) (pF:e8 tb=true) (rR:Nat.ble tb.length 1000=true)
  (hY:cX P Y cx) (hh:cM h st.heap) (hg:Good cx r m L F st a w) (hd:∀ k,d=some k->k<a.tmps.size) {aX:Array Value} (hr:aq cx.yv L F w args aX.toList) :
  CallsIn Fence.wide 0 P f aX w fun e w'=>∃ x,e = .returned x /\ ∃ v h' s',Q v h' s'/\(g7 tb d v h'=true -> ∃ L2 F',Good cx r m L2 F' (aK ⟨st.env,st.heap,s'⟩ (bZ tb d v h')) (a.put d x) w'/\Tr F w F' w'):=by
 have pF:=gC pF;have rR:=Nat.le_of_ble_eq_true rR;obtain⟨R,hR⟩:∃ R,R=br tb (d.getD 0):=⟨_,rfl⟩;have mU:∀ k id,tb[k]?=some id->R (1000000+k)=id:=fun k id hk=>by rw[hR];exact gj hk rR
 rw[<- hR]at cr eI;subst cr;have hH:=v9 hh eI mU pF hg;have KT:bo (AL cx st.s w F (vG R L h0)) ⟨fun i=>L.ρ (R i),fun i=>L.κ (R i)⟩ F h0 st.s w:=
  ⟨⟨hg.heap.hg,Nat.le_refl _,fun b hb hc=>hc,fun b hb hl hc=>⟨rfl,rfl⟩⟩,fun b hb=>hb.elim (hg.heap.iW b) (fun h=>h.1),hH.fresh,hH.obj,fun i o hi kO=>⟨(hH.own i o hi kO).1,fun hC=>hC.elim (hH.own i o hi kO).2 fun hC=>hC.2 ⟨i,o,hi,kO,rfl⟩⟩,hH.inj⟩
 have xi:aq cx.yv ⟨fun i=>L.ρ (R i),fun i=>L.κ (R i)⟩ F w args0 aX.toList:=(aq.kY (R:=R) args0 _ fun _ _=>⟨rfl,rfl⟩).1 hr;have dH:=hf.run _ (nq hY) _ F aX w KT xi;refine dH.mono ?_;rintro en w' ⟨x,rfl,v,h',s',L',F',hq,zL,hv,tr,lG⟩;refine⟨x,rfl,v,h',s',hq,fun hB=>?_⟩;obtain⟨yt,_,CF,g8⟩:=zL.hg;obtain⟨L2,iX⟩:=tO hB hR.symm hh eI hg hd yt (fun b hb=>zL.iW b (.inl hb)) (fun b hb hl hc=>CF b hb hc) g8 zL.fresh zL.obj
  (fun i o hi hb=>⟨(zL.own i o hi hb).1,fun hC=>(zL.own i o hi hb).2 (.inl hC),fun eC=>Classical.byContradiction fun hl=>(zL.own i o hi hb).2 (.inr ⟨eC,hl⟩)⟩)
  zL.inj hv tr lG
 exact⟨L2,F',iX,tr⟩
theorem pq{P:Program}{f:FuncId}{args0:List V}{h0:av}{v0:V}{h1:av}(hf:zH P f args0 h0 fun v h'=>v=v0/\h'=h1)(tb:List Nat){e:Env}{h:av}{d:Option Nat}{args:List V}
  (cr:og (br tb (d.getD 0)) args0=args) (eI:gb (br tb (d.getD 0)) h 1000000 tb h0) (hB:g7 tb d v0 h1=true):iw P e h d f args (bZ tb d v0 h1):=by
 refine⟨(hf (σ:=Unit) { y:=fun _ _ _ _=>False } ()).enter,?_⟩;intro σ cx sr r m L F st a w aX he hh hg hd hr;have Rc:=hB;simp only[g7,Bool.and_eq_true]at Rc;obtain⟨⟨⟨⟨⟨⟨⟨⟨⟨b1,b2⟩,b3⟩,b4⟩,b5⟩,b6⟩,b7⟩,b8⟩,b9⟩,_⟩:=Rc;refine(yb (hf ({ y:=fun _ _ _ _=>False }:Hd σ) st.s) tb cr eI b1 b9 ⟨fun _ _ _ _ _ _ hy=>hy.elim,sr⟩ hh hg hd hr).mono ?_;rintro en w' ⟨x,rfl,v,h',s',⟨⟨rfl,rfl⟩,rfl⟩,hk⟩;obtain⟨L2,F',iX,tr⟩:=hk hB;exact⟨x,rfl,L2,F',iX,tr⟩
theorem DX{σ:Type}{P:Program}{Y:Hd σ}{f:FuncId}{args0:List V}{h0:av}{s:σ}{Q:V->av->σ->Prop}(hf:zG P Y f args0 h0 s Q)(tb:List Nat){e:Env}{h:av}{d:Option Nat}{args:List V}{K:St σ->Prop}
  (cr:og (br tb (d.getD 0)) args0=args) (eI:gb (br tb (d.getD 0)) h 1000000 tb h0) (pF:e8 tb=true) (rR:Nat.ble tb.length 1000=true)
  (hq:∀ v h1 s',Q v h1 s'->g7 tb d v h1=true/\K (aK ⟨e,h,s'⟩ (bZ tb d v h1))):eE P Y ⟨e,h,s⟩ d f args K:=by
 refine⟨hf.enter,fun cx hY r m L F a w aX hg hd hr=>?_⟩;refine(yb (st:=⟨e,h,s⟩) hf tb cr eI pF rR hY (fun _ _ h=>h) hg hd hr).mono ?_;rintro en w' ⟨x,rfl,v,h',s',hv,hk⟩;obtain⟨hB,hK⟩:=hq _ _ _ hv;obtain⟨L2,F',iX,tr⟩:=hk hB;exact .inl ⟨x,rfl,_,L2,F',hK,iX,tr⟩
theorem Hx{σ:Type}{P:Program}{Y:Hd σ}{args0:List V}{h0:av}{s:σ}{Q:V->av->σ->Prop}(tb:List Nat){e:Env}{h:av}{d:Option Nat}{args:List V}{K:St σ->Prop}(hy:Y.y args0 h0 s Q)
  (cr:og (br tb (d.getD 0)) args0=args) (eI:gb (br tb (d.getD 0)) h 1000000 tb h0) (pF:e8 tb=true) (rR:Nat.ble tb.length 1000=true)
  (hq:∀ v h1 s',Q v h1 s'->g7 tb d v h1=true/\K (aK ⟨e,h,s'⟩ (bZ tb d v h1))):Io P Y ⟨e,h,s⟩ d args K:=by
 refine⟨fun cx hY l hl r m L F a w aX hg hd hr=>?_⟩;have pF:=gC pF;have rR:=Nat.le_of_ble_eq_true rR;obtain⟨R,hR⟩:∃ R,R=br tb (d.getD 0):=⟨_,rfl⟩;have mU:∀ k id,tb[k]?=some id->R (1000000+k)=id:=fun k id hk=>by rw[hR];exact gj hk rR
 rw[<- hR]at cr eI;subst cr;have hH:=v9 (st:=⟨e,h,s⟩) (fun _ _ h=>h) eI mU pF hg;obtain⟨fn,tmps,xR,body,h1,h2⟩:=hY.yld l hl args0 h0 s Q hy ⟨fun i=>L.ρ (R i),fun i=>L.κ (R i)⟩ F aX w hH ((aq.kY (R:=R) args0 _ fun _ _=>⟨rfl,rfl⟩).1 hr);refine⟨fn,tmps,xR,body,h1,h2.mono ?_⟩;rintro en w' ⟨x,rfl,v,h',s',L',F',hv,zL,yH,tr,lG,k1,k2,k3⟩;obtain⟨hB,hK⟩:=hq _ _ _ hv;have mL:∀ b,¬ vG R L h0 b -> ∀ id o,get h0 id=some o->aN ⟨fun i=>L.ρ (R i),fun i=>L.κ (R i)⟩ id o->L.ρ (R id)≠b:=fun b hb id o ho kO e=>hb ⟨id,o,ho,kO,e⟩;obtain⟨L2,iX⟩:=tO (st:=⟨e,h,s⟩) hB hR.symm (fun _ _ h=>h) eI hg hd zL.hg zL.iW (fun b hb hl hc=>k1 b hb hc) (fun b hb hl hc=>k2 b hb hc (mL b hl)) zL.fresh zL.obj
  (fun i o hi hb=>⟨(zL.own i o hi hb).1,(zL.own i o hi hb).2,fun eC=>by
   obtain⟨id',o',xp,kN,e'⟩:=k3 i o hi hb eC;exact⟨id',o',xp,kN,e'⟩⟩)
  zL.inj yH tr lG
 exact⟨x,rfl,_,L2,F',hK,iX,tr⟩
section
variable {P : Program} {T : dM} {σ : Type} {Y : Hd σ} {e : Env} {h : av} {s : σ} {d : Option Nat} {f : FuncId} {args : List V}
theorem nN{ws:List Wr}(ho:iw P e h d f args ws){K:St σ->Prop}(hk:bk ws e h fun e h=>K ⟨e,h,s⟩):eE P Y ⟨e,h,s⟩ d f args K:=by
 refine⟨ho.1,fun cx hY r m L F a w aX hg hd hr=>(ho.2 cx hY.laid r m L F ⟨e,h,s⟩ a w aX (fun _ _ h=>h) (fun _ _ h=>h) hg hd hr).mono ?_⟩;rintro en w' ⟨x,rfl,L',F',dY,tr⟩;rw[cj s]at hk;have hs:(aK (⟨e,h,s⟩:St σ) ws).s=s:=cT _ _;refine .inl ⟨x,rfl,_,L',F',?_,dY,tr⟩;generalize aK (⟨e,h,s⟩:St σ) ws=st at hk hs;obtain⟨e1,h1,s1⟩:=st;simp only at hs;subst hs;exact hk
theorem cw{args0:List V}{h0:av}{v0:V}{h1:av}(hf:zH P f args0 h0 fun v h'=>v=v0/\h'=h1)(tb:List Nat)(cr:og (br tb (d.getD 0)) args0=args)
  (eI:gb (br tb (d.getD 0)) h 1000000 tb h0) (hB:g7 tb d v0 h1=true) {K:St σ->Prop} (hk:bk (bZ tb d v0 h1) e h fun e h=>K ⟨e,h,s⟩):eE P Y ⟨e,h,s⟩ d f args K:=
 nN (pq hf tb cr eI hB) hk
theorem bY{args0:List V}{h0:av}{v0:V}{h1:av}(hf:zH P f args0 h0 fun v h'=>v=v0/\h'=h1)(tb:List Nat)(cr:og (br tb (d.getD 0)) args0=args)
  (eI:gb (br tb (d.getD 0)) h 1000000 tb h0) (hB:g7 tb d v0 h1=true) {K:List Wr->Prop} (hk:K (bZ tb d v0 h1)):c8 P e h d f args K:=
 ⟨_,hk,pq hf tb cr eI hB⟩
end
inductive DO where
 | box (l:List D)
 | arr (sz:Nat) (l:List (List D))
 | map (l:List (D×D))
mutual
def eP(g:Nat->Option DO):V->Option D
 | .d v=>some v
 | .agg cs=>match cS g cs with
  | some l=>some (.agg l)
  | none=>none
 | .tup cs=>match cS g cs with
  | some l=>some (.tup l)
  | none=>none
 | .clo f cs=>match cS g cs with
  | some l=>some (.clo f l)
  | none=>none
 | .ptr id off=>match g id with
  | some (.box l)=>some (.ref (l.drop off))
  | _=>none
 | .sl id sz off len=>match g id with
  | some (.arr m l)=>match Nat.beq m sz,Nat.ble (off+len) l.length with
   | true,true=>some (.vs ((l.drop off).take len))
   | _,_=>none
  | _=>none
 | .mp id=>match g id with
  | some (.map cc)=>some (.mv cc)
  | _=>none
 | .ep _ _ _ _=>none
 | .it _=>none
 | .yld=>none
 | .unk=>none
def cS(g:Nat->Option DO):List V->Option (List D)
 | []=>some []
 | v::r=>match eP g v,cS g r with
  | some a,some l=>some (a::l)
  | _,_=>none
end
def gr(g:Nat->Option DO):List (List V)->Option (List (List D))
 | []=>some []
 | v::r=>match cS g v,gr g r with
  | some a,some l=>some (a::l)
  | _,_=>none
def fm(h:av):Nat->Nat->Option DO
 | 0,_=>none
 | n+1,id=>match get h id with
  | some (.box (.dd l))=>some (.box l)
  | some (.box (.vv l))=>match cS (fm h n) l with
   | some l=>some (.box l)
   | none=>none
  | some (.arr sz (.dd l))=>some (.arr sz l)
  | some (.arr sz (.vv l))=>match gr (fm h n) l with
   | some l=>some (.arr sz l)
   | none=>none
  | some (.map cc)=>some (.map cc)
  | _=>none
def pQ(w:World)(b:Nat):Nat:=
 match w.heap[b]? with
 | some (.cells c _ _)=>c.size
 | some (.map _ _)=>1
 | _=>0
open Classical in
noncomputable def dP(L:Loc)(F:Nat->Nat)(h:av)(w:World):Nat->Nat:=fun b=>if ∃ id o,get h id=some o/\aN L id o/\L.ρ id=b then pQ w b else F b
section
variable {σ : Type} {cx : Cx σ} {L : Loc} {F : Nat -> Nat} {h : av} {s : σ} {w : World}
theorem ln{id:Nat}{o:Obj}(hi:get h id=some o)(hb:aN L id o):dP L F h w (L.ρ id)=pQ w (L.ρ id):=if_pos ⟨id,o,hi,hb,rfl⟩
theorem eQ{b:Nat}(hb:¬ ∃ id o,get h id=some o/\aN L id o/\L.ρ id=b):dP L F h w b=F b:=if_neg hb
theorem Cy(hh:bo cx L F h s w)(b:Nat):F b<=dP L F h w b:=by
 by_cases hb:∃ id o,get h id=some o/\aN L id o/\L.ρ id=b
 ·obtain⟨id,o,hi,kO,rfl⟩:=hb
  rw[(hh.own id o hi kO).1];exact Nat.zero_le _
 ·rw[eQ hb];exact Nat.le_refl _
theorem ll(hh:bo cx L F h s w){b:Nat}(hC:cx.C s b):dP L F h w b=F b:=
 eQ fun⟨id,o,hi,hb,e⟩=>(hh.own id o hi hb).2 (by rw[e];exact hC)
theorem fT(hh:bo cx L F h s w):Tr F w (dP L F h w) w:=
 ⟨rfl,rfl,rfl,Nat.le_refl _,Cy hh,fun _ _ _=>rfl,fun _ _ _ _ h=>h⟩
theorem dX(hh:bo cx L F h s w)(b:Nat)(hb:w.heap.size<=b):dP L F h w b=0:=by
 by_cases h1:∃ id o,get h id=some o/\aN L id o/\L.ρ id=b
 ·obtain⟨id,o,hi,kO,rfl⟩:=h1
  have:=(hh.obj id o hi).lt kO;omega
 ·rw[eQ h1];exact hh.fresh b hb
theorem Cz(hh:bo cx L F h s w):bo cx L (dP L F h w) [] s w:=
 ⟨cx.eV hh.hg (fT hh) (dX hh) fun b hb=>⟨rfl,ll hh hb⟩,hh.iW,dX hh,(fun id o hi=>by cases hi),(fun id o hi=>by cases hi),(fun i j o p hi=>by cases hi)⟩
def tf(yv:Option Nat)(L:Loc)(F:Nat->Nat)(w:World)(id:Nat):DO->Prop
 | .box l=>cf F w (L.ρ id) 0 l
 | .arr sz l=>cJ sz l/\((l = []/\L.κ id=0)\/(cf F w (L.ρ id) 0 l.flatten))
 | .map cc=>∃ en c,0<F (L.ρ id)/\w.heap[L.ρ id]?=some (.map en c)/\bH F w cc en.toList
theorem cF.of_flat{F:Nat->Nat}{w:World}{b sz:Nat}:∀ {es:List (List D)} {off:Nat},cJ sz es->cf F w b off es.flatten->cF F w b off sz es
 | [],_,_,_=>trivial
 | e::r,off,hl,h=>by
  have he:=hl e (List.mem_cons_self ..);have Jg:∀ {a c:List D} {off:Nat},cf F w b off (a++c)->cf F w b off a/\cf F w b (off+a.length) c:=by
   intro a
   induction a with
   | nil=>exact fun h=>⟨trivial,h⟩
   | cons x r ih=>
    intro c off h;obtain⟨h1,h2,h3⟩:=h;obtain⟨h4,h5⟩:=ih h3;refine⟨⟨h1,h2,h4⟩,?_⟩
    rwa [show off+(x::r).length=off+1+r.length by simp;omega]
  rw[List.flatten_cons]at h;obtain⟨h1,h2⟩:=Jg h;rw[he]at h2;exact⟨he,h1,cF.of_flat (fun x hx=>hl x (List.mem_cons_of_mem _ hx)) h2⟩
theorem cf.nC{F:Nat->Nat}{w:World}{b:Nat}:∀ {cs:List D} {off:Nat} {l:List Value},aY F w cs l->(∀ i x,l[i]?=some x->off+i<F b/\w.cell? ⟨b,off+i,none⟩=some x)->cf F w b off cs
 | [],_,_,_,_=>trivial
 | c::r,off,_,h,hc=>by
  obtain⟨x,l',rfl,h1,h2⟩:=h;obtain⟨k1,k2⟩:=hc 0 x (by simp);refine⟨by simpa using k1,⟨x,by simpa using k2,h1⟩,cf.nC h2 fun i y hy=>?_⟩;have:=hc (i+1) y (by simpa using hy)
  rwa [show off+(i+1)=off+1+i by omega]at this
mutual
theorem B8{g:Nat->Option DO}{F1:Nat->Nat}{yv:Option Nat}{L:Loc}{F:Nat->Nat}{w:World}(tr:Tr F w F1 w)(hg:∀ id o,g id=some o->tf yv L F1 w id o):∀ (v:V) (x:Value) (d:D),eP g v=some d->a6 yv L F w v x->bC F1 w d x
 | .d v,x,d,hv,hr=>by
  simp only[eP,Option.some.injEq]at hv;subst hv;exact bC.mono tr _ _ hr
 | .agg cs,x,d,hv,hr=>by
  simp only[eP]at hv;split at hv
  ·rename_i l hl
   cases hv;obtain⟨a,rfl,ha⟩:=hr;exact⟨a,rfl,jv tr hg cs _ l hl ha⟩
  ·cases hv
 | .tup cs,x,d,hv,hr=>by
  simp only[eP]at hv;split at hv
  ·rename_i l hl
   cases hv;obtain⟨a,rfl,ha⟩:=hr;exact⟨a,rfl,jv tr hg cs _ l hl ha⟩
  ·cases hv
 | .clo f cs,x,d,hv,hr=>by
  simp only[eP]at hv;split at hv
  ·rename_i l hl
   cases hv;obtain⟨a,rfl,ha⟩:=hr;exact⟨a,rfl,jv tr hg cs _ l hl ha⟩
  ·cases hv
 | .ptr id off,x,d,hv,hr=>by
  simp only[eP]at hv;split at hv
  ·rename_i l hl
   cases hv;have xT:cf F1 w (L.ρ id) 0 l:=hg id _ hl;have xT:=cf.drop off xT;rw[Nat.zero_add]at xT;exact⟨L.ρ id,off,hr,xT⟩
  ·cases hv
 | .sl id sz off len,x,d,hv,hr=>by
  simp only[eP]at hv;split at hv;case h_2=>cases hv
  rename_i m l hl;split at hv;case h_2=>cases hv
  rename_i hm hlen;cases hv;have hm:=Nat.eq_of_beq_eq_true hm;subst hm;have hlen:=Nat.le_of_ble_eq_true hlen;obtain⟨a,cap,rfl,h1,h2,h3⟩:=hr;obtain⟨Pz,GL⟩:=hg id _ hl;refine⟨a,len,cap,rfl,by rw[List.length_take,List.length_drop];omega,h1,fun eA=>?_⟩;have Lu:len≠0:=by
   rintro rfl;simp at eA
  rcases h3 with⟨h3,_⟩|⟨h3,h4⟩
  ·exact absurd h3 Lu
  rcases GL with⟨rfl,_⟩|xT
  ·simp at eA
  ·refine⟨L.ρ id,off*m,m,h3,h2,?_⟩
   have mQ:=cF.of_flat Pz xT;have mQ:=cF.drop off mQ;rw[Nat.zero_add]at mQ;exact cF.take len mQ
 | .mp id,x,d,hv,hr=>by
  simp only[eP]at hv;split at hv
  ·rename_i l hl
   cases hv;obtain⟨en,c,h1,h2,h3⟩:=hg id _ hl;exact⟨L.ρ id,en,c,hr,h1,h2,h3⟩
  ·cases hv
 | .ep _ _ _ _,_,_,hv,_=>by simp[eP]at hv
 | .it _,_,_,hv,_=>by simp[eP]at hv
 | .yld,_,_,hv,_=>by simp[eP]at hv
 | .unk,_,_,hv,_=>by simp[eP]at hv
theorem jv{g:Nat->Option DO}{F1:Nat->Nat}{yv:Option Nat}{L:Loc}{F:Nat->Nat}{w:World}(tr:Tr F w F1 w)(hg:∀ id o,g id=some o->tf yv L F1 w id o):∀ (vs:List V) (l:List Value) (ds:List D),cS g vs=some ds->aq yv L F w vs l->aY F1 w ds l
 | [],l,ds,hv,hr=>by
  simp only[cS,Option.some.injEq]at hv;subst hv;exact hr
 | v::r,l,ds,hv,hr=>by
  simp only[cS]at hv;split at hv
  ·rename_i a m h1 h2
   cases hv;obtain⟨x,l',rfl,h3,h4⟩:=hr;exact⟨x,l',rfl,B8 tr hg v x a h1 h3,jv tr hg r l' m h2 h4⟩
  ·cases hv
end
theorem nJ{g:Nat->Option DO}:∀ {es:List (List V)} {l:List (List D)},gr g es=some l->cS g es.flatten=some l.flatten/\l.length=es.length /\ ∀ sz,cJ sz es->cJ sz l
 | [],l,h=>by
  simp only[gr,Option.some.injEq]at h;subst h;exact⟨rfl,rfl,fun _ _ _ he=>by cases he⟩
 | e::r,l,h=>by
  simp only[gr]at h;split at h
  ·rename_i a m h1 h2
   cases h;obtain⟨k1,k2,k3⟩:=nJ h2;have app:∀ {a b:List V} {x y:List D},cS g a=some x->cS g b=some y->cS g (a++b)=some (x++y)/\x.length=a.length:=by
    intro a
    induction a with
    | nil=>intro b x y h1 h2;simp only[cS,Option.some.injEq]at h1;subst h1;exact⟨h2,rfl⟩
    | cons v r ih=>
     intro b x y h1 h2;simp only[cS]at h1;split at h1
     ·rename_i p q h3 h4
      cases h1;obtain⟨k1,k2⟩:=ih h4 h2;refine⟨?_,by simp[k2]⟩;simp only[List.cons_append,cS,h3,k1]
     ·cases h1
   obtain⟨j1,j2⟩:=app h1 k1;refine⟨by simpa using j1,by simp[k2],fun sz hl x hx=>?_⟩;rcases List.mem_cons.1 hx with rfl|hx
   ·rw[j2];exact hl e (List.mem_cons_self ..)
   ·exact k3 sz (fun y hy=>hl y (List.mem_cons_of_mem _ hy)) x hx
  ·cases h
theorem lX{w:World}{b:Nat}{c:Array Value}{T:TypeId}(h:w.heap[b]?=some (.cells c T (0,0))){i:Nat}{x:Value}(hx:c.toList[i]?=some x):i<pQ w b/\w.cell? ⟨b,i,none⟩=some x:=by
 have hx:c[i]?=some x:=by simpa using hx
 have hi:=(Array.getElem?_eq_some_iff.1 hx).1;refine⟨by simp only[pQ,h];exact hi,?_⟩;rw[cell_of_row _ _ _ _ _ _ h];simpa using hx
theorem nB(hh:bo cx L F h s w):∀ (n:Nat) (id:Nat) (o:DO),fm h n id=some o->tf cx.yv L (dP L F h w) w id o
 | 0,_,_,ho=>by cases ho
 | n+1,id,o,ho=>by
  have tr:=fT hh;simp only[fm]at ho;split at ho
  ·rename_i l hi
   cases ho;obtain⟨c,T,hc,hr⟩:=hh.obj id _ hi;have hr:aY F w l c.toList:=aq.inj.1 hr;refine cf.nC (aY.mono tr _ _ hr) fun i x hx=>?_;rw[Nat.zero_add,ln hi trivial];exact lX hc hx
  ·rename_i l hi
   split at ho
   ·rename_i l' hl
    cases ho;obtain⟨c,T,hc,hr⟩:=hh.obj id _ hi;have hr:=jv tr (nB hh n) l _ l' hl hr;refine cf.nC hr fun i x hx=>?_;rw[Nat.zero_add,ln hi trivial];exact lX hc hx
   ·cases ho
  ·rename_i sz l hi
   cases ho;obtain⟨h1,h2,h3⟩:=hh.obj id _ hi;have Pz:cJ sz l:=fun e he=>by
    have:=h2 (inj e) (by rw[aC.aU,cB];exact List.mem_map_of_mem he)
    rwa [dI]at this
   refine⟨Pz,?_⟩;rcases h3 with⟨h3,h4⟩|⟨c,T,hc,hk,hn,hr⟩
   ·left
    rw[aC.aU,cB,List.map_eq_nil_iff]at h3;exact⟨h3,h4⟩
   ·by_cases EG:L.κ id=0
    ·left
     refine⟨?_,EG⟩;rw[hk,EG]at hn;rw[aC.aU,cB,List.length_map]at hn;have:l.length=0:=by
      rcases Nat.eq_zero_or_pos l.length with h|h
      ·exact h
      ·have:=Nat.mul_pos h h1;omega
     exact List.length_eq_zero_iff.1 this
    ·right
     rw[aC.aU,cI]at hr;have hr:=aq.inj.1 hr;refine cf.nC (aY.mono tr _ _ hr) fun i x hx=>?_;rw[Nat.zero_add,ln hi EG];rw[List.getElem?_take]at hx;split at hx
     ·exact lX hc hx
     ·cases hx
  ·rename_i sz l hi
   split at ho;case h_2=>cases ho
   rename_i l' hl;cases ho;obtain⟨h1,h2,h3⟩:=hh.obj id _ hi;obtain⟨j1,j2,j3⟩:=nJ hl;refine⟨j3 sz h2,?_⟩;rcases h3 with⟨h3,h4⟩|⟨c,T,hc,hk,hn,hr⟩
   ·left
    have h3:l = []:=h3;subst h3;exact⟨List.length_eq_zero_iff.1 j2,h4⟩
   ·by_cases EG:L.κ id=0
    ·left
     refine⟨?_,EG⟩;rw[hk,EG]at hn;have:l.length=0:=by
      rcases Nat.eq_zero_or_pos l.length with h|h
      ·exact h
      ·have:=Nat.mul_pos h h1
       have hn:l.length*sz<=0:=hn;omega
     exact List.length_eq_zero_iff.1 (by rw[j2];exact this)
    ·right
     have hr:=jv tr (nB hh n) l.flatten _ l'.flatten j1 hr;refine cf.nC hr fun i x hx=>?_;rw[Nat.zero_add,ln hi EG];rw[List.getElem?_take]at hx;split at hx
     ·exact lX hc hx
     ·cases hx
  ·rename_i cc hi
   cases ho;obtain⟨en,c,hc,hr⟩:=hh.obj id _ hi;refine⟨en,c,?_,hc,bH.mono tr _ _ hr.1⟩;rw[ln hi trivial];simp[pQ,hc]
  ·cases ho
end
end Go.PX
namespace Go.PX
open Go.RowKit
def j6(ds:List D):D:=
 match ds with
 | [x]=>x
 | l=>.tup l
theorem Hg{F:Nat->Nat}{w:World}{ds:List D}{aX:List Value}(h:aY F w ds aX):bC F w (j6 ds) (BX aX):=by
 cases ds with
 | nil=>
  have:aX = []:=h;subst this;exact⟨#[],rfl,rfl⟩
 | cons a r=>
  obtain⟨x,l,rfl,hx,hl⟩:=h
  cases r with
  | nil=>
   have:l = []:=hl;subst this;exact hx
  | cons b r=>
   obtain⟨y,l',rfl,hy,jz⟩:=hl;refine⟨(x::y::l').toArray,rfl,?_⟩;exact⟨x,y::l',rfl,hx,y,l',rfl,hy,jz⟩
theorem ba{σ:Type}{l:List V}{h:av}{s:σ}{Q:V->av->σ->Prop}(n:Nat){ds:List D}(hv:cS (fm h n) l=some ds)(hq:Q (.d (j6 ds)) [] s):pJ l h s Q:=by
 refine⟨fun cx L F aX w hh hr=>?_⟩;have tr:=fT hh;exact⟨_,[],L,dP L F h w,hq,Cz hh,Hg (jv tr (nB hh n) l aX ds hv hr),tr,fun _ _=>⟨rfl,rfl⟩⟩
theorem ax{σ:Type}{l:List V}{h:av}{s:σ}{r:D}{ds:List D}(hv:cS (fm h 0) l=some ds:=by exact rfl)(hr:V.d (j6 ds)=V.d r:=by exact rfl):pJ l h s fun v h' s'=>(v = .d r/\h' = [])/\s'=s:=ba 0 hv ⟨⟨hr,rfl⟩,rfl⟩
def uN(l:List V):V:=
 match l with
 | [x]=>x
 | l=>oF l
def v8(nk:List Nat)(i:Nat):Nat:=
 match Nat.blt i 2000000 with
 | true=>i
 | false=>match nk[i-2000000]? with
  | some k=>k
  | none=>0
def Am(R:Nat->Nat)(h:av):av->Prop
 | []=>True
 | (i,o)::r=>get h (R i)=some (ir R o)/\Am R h r
theorem iM{R:Nat->Nat}{h:av}:∀ {h1:av},Am R h h1 -> ∀ i o,get h1 i=some o->get h (R i)=some (ir R o)
 | [],_,i,o,hi=>by cases hi
 | (k,p)::r,hh,i,o,hi=>by
  simp only[get]at hi;split at hi
  ·rename_i he
   have:=Nat.eq_of_beq_eq_true he;subst this;cases hi;exact hh.1
  ·exact iM hh.2 i o hi
def cv:av->List Nat
 | []=>[]
 | (i,_)::r=>i::cv r
theorem jU:∀ {h:av} {i:Nat} {o:Obj},get h i=some o->i∈cv h
 | [],i,o,h=>by cases h
 | (k,p)::r,i,o,h=>by
  simp only[get]at h;split at h
  ·rename_i he
   have:=Nat.eq_of_beq_eq_true he;subst this;simp[cv]
  ·simp[cv,jU h]
theorem bD{σ:Type}{l:List V}{h:av}{s:σ}{Q:V->av->σ->Prop}(nk:List Nat)(l1:List V)(h1:av)(hl:og (v8 nk) l1=l)(CO:Am (v8 nk) h h1)(qT:e8 ((cv h1).map (v8 nk))=true)
  (hq:Q (uN l1) h1 s):pJ l h s Q:=by
 refine⟨fun cx L F aX w hh hr=>?_⟩;have hR:∀ i,pinned i->v8 nk i=i:=fun i hi=>by
  unfold v8;rw[show Nat.blt i 2000000=true from Nat.ble_eq_true_of_le hi.2]
 generalize v8 nk=R at hl CO qT hR;subst hl;have sq:∀ i j,i∈cv h1->j∈cv h1->R i=R j->i=j:=by
  have hn:=gC qT;intro i j hi hj jN;obtain⟨a,ha⟩:=List.mem_iff_getElem?.1 hi;obtain⟨b,hb⟩:=List.mem_iff_getElem?.1 hj;have k1:((cv h1).map R)[a]?=some (R i):=by rw[List.getElem?_map,ha];rfl
  have k2:((cv h1).map R)[b]?=some (R i):=by rw[List.getElem?_map,hb,jN];rfl
  have:=ri hn k1 k2;subst this;rw[ha]at hb;exact Option.some.inj hb
 have GO:aq cx.yv ⟨fun i=>L.ρ (R i),fun i=>L.κ (R i)⟩ F w l1 aX:=(aq.kY (R:=R) l1 _ fun _ _=>⟨rfl,rfl⟩).1 hr;refine⟨_,h1,⟨fun i=>L.ρ (R i),fun i=>L.κ (R i)⟩,F,hq,⟨hh.hg,hh.iW,hh.fresh,fun i o hi=>?_,fun i o hi hb=>?_,fun i j o p hi hj kj gJ jN=>?_⟩,?_,Tr.refl F w,fun i hi=>by
  show L.ρ (R i)=L.ρ i/\L.κ (R i)=L.κ i;rw[hR i hi];exact⟨rfl,rfl⟩⟩
 ·exact(bG.kY (R:=R) (L:=⟨fun i=>L.ρ (R i),fun i=>L.κ (R i)⟩) (L':=L) i o (fun _ _=>⟨rfl,rfl⟩) ⟨rfl,rfl⟩).1 (hh.obj _ _ (iM CO i o hi))
 ·exact hh.own _ _ (iM CO i o hi) ((bN (R:=R) (L:=⟨fun i=>L.ρ (R i),fun i=>L.κ (R i)⟩) (L':=L) i o rfl).2 hb)
 ·refine sq i j (jU hi) (jU hj) ?_
  exact hh.inj _ _ _ _ (iM CO i o hi) (iM CO j p hj) ((bN (R:=R) (L:=⟨fun i=>L.ρ (R i),fun i=>L.κ (R i)⟩) (L':=L) i o rfl).2 kj)
   ((bN (R:=R) (L:=⟨fun i=>L.ρ (R i),fun i=>L.κ (R i)⟩) (L':=L) j p rfl).2 gJ) jN
 ·cases l1 with
  | nil=>
   have:aX = []:=GO;subst this;exact⟨#[],rfl,rfl⟩
  | cons v r=>
   cases r with
   | nil=>
    obtain⟨x,l,rfl,hx,hl⟩:=GO;have:l = []:=hl;subst this;exact hx
   | cons u r=>
    obtain⟨x,l,rfl,hx,y,l',rfl,hy,jz⟩:=GO;have gS:aq cx.yv ⟨fun i=>L.ρ (R i),fun i=>L.κ (R i)⟩ F w (v::u::r) (x::y::l'):=⟨x,_,rfl,hx,y,l',rfl,hy,jz⟩;show a6 _ _ _ _ (oF (v::u::r)) (.tuple (x::y::l').toArray);unfold oF;split
    ·rename_i ds CJ
     refine⟨_,rfl,?_⟩;rw[iy CJ]at gS;exact aq.inj.1 gS
    ·exact⟨_,rfl,gS⟩
mutual
def js:D->Bool
 | .bool _=>true
 | .int _ _=>true
 | .str _=>true
 | .agg cs=>j7 cs
 | .tup cs=>j7 cs
 | .vs _=>false
 | .nils=>true
 | .ref _=>false
 | .nilp=>true
 | .mv _=>false
 | .nilm=>true
 | .clo _ cs=>j7 cs
 | .mth _ cs=>j7 cs
 | .nilf=>true
 | .ifc _ v=>js v
 | .nili=>true
def j7:List D->Bool
 | []=>true
 | v::r=>js v&&j7 r
end
mutual
theorem bC.free{F F':Nat->Nat}{w w':World}:∀ (v:D) (x:Value),js v=true->bC F w v x->bC F' w' v x
 | .bool _,_,_,h=>h
 | .int _ _,_,_,h=>h
 | .str _,_,_,h=>h
 | .agg cs,_,hf,h=>by
  obtain⟨l,rfl,hl⟩:=h;exact⟨l,rfl,aY.free cs _ hf hl⟩
 | .tup cs,_,hf,h=>by
  obtain⟨l,rfl,hl⟩:=h;exact⟨l,rfl,aY.free cs _ hf hl⟩
 | .vs _,_,hf,_=>by simp[js]at hf
 | .nils,_,_,h=>h
 | .ref _,_,hf,_=>by simp[js]at hf
 | .nilp,_,_,h=>h
 | .mv _,_,hf,_=>by simp[js]at hf
 | .nilm,_,_,h=>h
 | .clo _ cs,_,hf,h=>by
  obtain⟨l,rfl,hl⟩:=h;exact⟨l,rfl,aY.free cs _ hf hl⟩
 | .mth _ cs,_,hf,h=>by
  obtain⟨l,rfl,hl⟩:=h;exact⟨l,rfl,aY.free cs _ hf hl⟩
 | .nilf,_,_,h=>h
 | .ifc _ v,_,hf,h=>by
  obtain⟨y,rfl,hy⟩:=h;exact⟨y,rfl,bC.free v y hf hy⟩
 | .nili,_,_,h=>h
theorem aY.free{F F':Nat->Nat}{w w':World}:∀ (vs:List D) (l:List Value),j7 vs=true->aY F w vs l->aY F' w' vs l
 | [],_,_,h=>h
 | v::r,_,hf,h=>by
  simp only[j7,Bool.and_eq_true]at hf;obtain⟨x,l',rfl,hx,hl⟩:=h;exact⟨x,l',rfl,bC.free v x hf.1 hx,aY.free r l' hf.2 hl⟩
end
def cy(P:Program)(f:FuncId)(ds:List D)(r:D):Prop:=zH P f (inj ds) [] fun v h'=>v = .d r/\h' = []
section
variable {P : Program} {σ : Type} {cx : Cx σ} {r : Option Nat} {m : List Nat} {L : Loc} {F : Nat -> Nat} {st : St σ} {a : Act} {w : World}
theorem Good.E7(hg:Good cx r m L F st a w){F':Nat->Nat}{w':World}(tr:Tr F w F' w')(hk:∀ b,b<w.heap.size->w'.heap[b]?=w.heap[b]?/\F' b=F b)(hf:∀ b,w'.heap.size<=b->F' b=0):Good cx r m L F' st a w':=by
 refine⟨⟨cx.eV hg.heap.hg tr hf fun b hb=>hk b (hg.heap.iW b hb),fun b hb=>Nat.lt_of_lt_of_le (hg.heap.iW b hb) tr.size,hf,fun id o hi=>?_,fun id o hi hb=>?_,hg.heap.inj⟩,fun t v ht=>?_,hg.sI,fun b hb=>?_,hg.uy,fun l hl=>?_,hg.lG,hg.sD⟩
 ·exact bG.mono tr id o (fun _ _=>⟨rfl,rfl⟩) ⟨rfl,rfl⟩ (fun hb=>(hk _ ((hg.heap.obj id o hi).lt hb)).1) (hg.heap.obj id o hi)
 ·rw[(hk _ ((hg.heap.obj id o hi).lt hb)).2];exact hg.heap.own id o hi hb
 ·obtain⟨x,hx,hr⟩:=hg.env t v ht
  exact⟨x,hx,a6.mono tr v x (fun _ _=>⟨rfl,rfl⟩) hr⟩
 ·obtain⟨k1,k2⟩:=hg.oe b hb
  exact⟨by rw[(hk b (bL k1)).1];exact k1,k2⟩
 ·obtain⟨lp,k1⟩:=hg.lk l hl
  exact⟨lp,⟨by rw[(hk l (bL k1.1.1)).1];exact k1.1.1,k1.1.2⟩,k1.2⟩
theorem qF{f:FuncId}{ds:List D}{res:D}(hf:cy P f ds res)(dB:js res=true)(n:Nat){e:Env}{h:av}{d:Option Nat}{args:List V}(hv:cS (fm h n) args=some ds) :
  iw P e h d f args (a9 d (.d res)):=by
 refine⟨(hf (σ:=Unit) { y:=fun _ _ _ _=>False } ()).enter,?_⟩;intro σ cx sr r m L F st a w aX he hh hg hd hr;have e7:bo cx L F h st.s w:=(hg.sub (e:=st.env) (h:=h) (fun _ _ h=>h) hh).heap;have vh:=fT e7;generalize hF1:dP L F h w=F1 at vh;have q9:∀ b,cx.C st.s b->F1 b=F b:=fun b hb=>by rw[<- hF1];exact ll e7 hb
 have LW:aY F1 w ds aX.toList:=by
  rw[<- hF1];exact jv (fT e7) (nB e7 n) args _ ds hv hr
 let Q4:Cx σ:={
  C:=fun s b=>cx.C s b\/b<w.heap.size
  HG:=fun s w' F'=>cx.HG s w' F' /\ ∀ b,b<w.heap.size->w'.heap[b]?=w.heap[b]?/\F' b=F1 b
  yv:=cx.yv
  wC:=cx.wC
  pρ:=cx.pρ
  pκ:=cx.pκ
  eV:=by
   rintro s w1 TR w2 F2 ⟨h1,h2⟩ tr hf hk;refine⟨cx.eV h1 tr hf fun b hb=>hk b (.inl hb),fun b hb=>?_⟩;obtain⟨k1,k2⟩:=hk b (.inr hb);obtain⟨k3,k4⟩:=h2 b hb;exact⟨k1.trans k3,k2.trans k4⟩ }
 have KT:bo Q4 L F1 [] st.s w:=by
  refine⟨⟨cx.eV hg.heap.hg vh (by rw[<- hF1];exact dX e7) fun b hb=>⟨rfl,q9 b hb⟩,fun _ _=>⟨rfl,rfl⟩⟩,fun b hb=>hb.elim (hg.heap.iW b) id,?_,(fun _ _ hi=>by cases hi),(fun _ _ hi=>by cases hi),(fun _ _ _ _ hi=>by cases hi)⟩;rw[<- hF1];exact dX e7
 have dH:=(hf ({ y:=fun _ _ _ _=>False }:Hd σ) st.s).run Q4 ⟨fun _ _ _ _ _ _ hy=>hy.elim,fun s w F hh=>sr s w F hh.1⟩ L F1 aX w KT (aq.inj.2 LW);refine dH.mono ?_;rintro en w' ⟨x,rfl,v,h',s',L',F',⟨⟨rfl,rfl⟩,rfl⟩,hH,C1,tr,lG⟩;obtain⟨yt,g8⟩:=hH.hg
 let F2:Nat->Nat:=fun b=>if b<w.heap.size then F b else F' b
 have HL:∀ b,b<w.heap.size->F2 b=F b:=fun b hb=>if_pos hb;have KR:∀ b,w.heap.size<=b->F2 b=F' b:=fun b hb=>if_neg (by omega);have KS:∀ b o,o<F b->b<w.heap.size:=fun b o ho=>by
  rcases Nat.lt_or_ge b w.heap.size with h|h
  ·exact h
  ·rw[hg.heap.fresh b h]at ho;omega
 have DG:Tr F w F2 w':=by
  refine⟨tr.os,tr.tape,tr.output,tr.size,fun b=>?_,fun b o ho=>jx (g8 b (KS b o ho)).1,fun b en c hb hm=>by rw[(g8 b (KS b 0 hb)).1];exact hm⟩;rcases Nat.lt_or_ge b w.heap.size with h|h
  ·rw[HL b h];exact Nat.le_refl _
  ·rw[hg.heap.fresh b h];exact Nat.zero_le _
 have iX:=hg.E7 DG (fun b hb=>⟨(g8 b hb).1,HL b hb⟩) (fun b hb=>by
  rw[KR b (Nat.le_trans tr.size hb)];exact hH.fresh b hb)
 exact⟨x,rfl,L,F2,iX.a9 hd (bC.free res x dB C1),DG⟩
theorem a8{Y:Hd σ}{f:FuncId}{ds:List D}{res:D}(hf:cy P f ds res)(dB:js res=true)(n:Nat){e:Env}{h:av}{s:σ}{d:Option Nat}{args:List V}(hv:cS (fm h n) args=some ds)
  {K:St σ->Prop} (hk:bk (a9 d (.d res)) e h fun e h=>K ⟨e,h,s⟩):eE P Y ⟨e,h,s⟩ d f args K:=nN (qF hf dB n hv) hk
theorem cW{f:FuncId}{ds:List D}{res:D}(hf:cy P f ds res)(dB:js res=true)(n:Nat){e:Env}{h:av}{d:Option Nat}{args:List V}(hv:cS (fm h n) args=some ds)
  {K:List Wr->Prop} (hk:K (a9 d (.d res))):c8 P e h d f args K:=⟨_,hk,qF hf dB n hv⟩
theorem rk{f:FuncId}{ds:List D}{res:D}(hf:cy P f ds res){e:Env}{h:av}{d:Option Nat}{args:List V}(hv:args=inj ds)(hd:Nat.ble (d.getD 0) 10000=true):iw P e h d f args (a9 d (.d res)):=by
 have I2:og (br [] (d.getD 0)) (inj ds)=args:=by rw[hv];exact AM _ _
 have hB:g7 [] d (.d res) []=true:=by
  cases d with
  | none=>rfl
  | some d=>
   simp only[g7,cq,e8,bT,rI,bq,List.map_nil,iI,List.all_nil,List.length_nil,hd,Bool.and_true,Bool.true_and,bZ,fZ,dy,List.nil_append,a9,cE,bB];rfl
 exact pq hf [] I2 rfl hB
theorem aH{Y:Hd σ}{f:FuncId}{ds:List D}{res:D}(hf:cy P f ds res){e:Env}{h:av}{s:σ}{d:Option Nat}{args:List V}(hv:args=inj ds)(hd:Nat.ble (d.getD 0) 10000=true)
  {K:St σ->Prop} (hk:bk (a9 d (.d res)) e h fun e h=>K ⟨e,h,s⟩):eE P Y ⟨e,h,s⟩ d f args K:=nN (rk hf hv hd) hk
theorem aE{f:FuncId}{ds:List D}{res:D}(hf:cy P f ds res){e:Env}{h:av}{d:Option Nat}{args:List V}(hv:args=inj ds)(hd:Nat.ble (d.getD 0) 10000=true)
  {K:List Wr->Prop} (hk:K (a9 d (.d res))):c8 P e h d f args K:=⟨_,hk,rk hf hv hd⟩
end
end Go.PX
namespace Go.PX
open Go.RowKit
theorem uq{p:Nat->Prop}:∀ (n:Nat),p n -> ∃ m,p m /\ ∀ k,p k->m<=k:=by
 intro n
 induction n using Nat.strongRecOn with
 | _ n ih=>
  intro hn;by_cases h:∃ k,k<n/\p k
  ·obtain⟨k,hk,hp⟩:=h;exact ih k hk hp
  ·exact⟨n,hn,fun k hk=>Nat.le_of_not_lt fun eC=>h ⟨k,eC,hk⟩⟩
open Classical in
noncomputable def wH(p:Nat->Prop):Nat:=if h:∃ n,p n then (uq h.choose h.choose_spec).choose else 0
theorem wI{p:Nat->Prop}(h:∃ n,p n):p (wH p):=by
 unfold wH;rw[dif_pos h];exact(uq h.choose h.choose_spec).choose_spec.1
theorem zp{p:Nat->Prop}{k:Nat}(hk:p k):wH p<=k:=by
 have h:∃ n,p n:=⟨k,hk⟩;unfold wH;rw[dif_pos h];exact(uq h.choose h.choose_spec).choose_spec.2 k hk
def Wk{σ:Type}(st st':St σ):Prop:=
 ∀ (cx:Cx σ) (r:Option Nat) (m:List Nat) (L:Loc) (F:Nat->Nat) (a:Act) (w:World),Good cx r m L F st a w -> ∃ L' F',Good cx r m L' F' st' a w/\Tr F w F' w
theorem Wk.trans{σ:Type}{st st' Hm:St σ}(h:Wk st st')(k:Wk st' Hm):Wk st Hm:=fun cx r m L F a w hg=>by
 obtain⟨L',F',h1,h2⟩:=h cx r m L F a w hg;obtain⟨Ii,FK,h3,h4⟩:=k cx r m L' F' a w h1;exact⟨Ii,FK,h3,Tr.trans h2 h4⟩
def uY(e:Env):Env->Prop
 | []=>True
 | (k,v)::r=>get e k=some v/\uY e r
def iF(e:av):av->Prop
 | []=>True
 | (k,v)::r=>get e k=some v/\iF e r
theorem uZ{e:Env}:∀ {e':Env},uY e e'->cM e' e
 | [],_,s,v,h=>by cases h
 | (k,u)::r,hs,s,v,h=>by
  simp only[get]at h;split at h
  ·rename_i he
   have:=Nat.eq_of_beq_eq_true he;subst this;cases h;exact hs.1
  ·exact uZ hs.2 s v h
theorem lK{e:av}:∀ {e':av},iF e e'->cM e' e
 | [],_,s,v,h=>by cases h
 | (k,u)::r,hs,s,v,h=>by
  simp only[get]at h;split at h
  ·rename_i he
   have:=Nat.eq_of_beq_eq_true he;subst this;cases h;exact hs.1
  ·exact lK hs.2 s v h
theorem Wk.sub{σ:Type}{e e':Env}{h h':av}{s:σ}(he:uY e e')(hh:iF h h'):Wk (⟨e,h,s⟩:St σ) ⟨e',h',s⟩:=
 fun cx r m L F a w hg=>⟨L,F,hg.sub (uZ he) (lK hh),Tr.refl F w⟩
theorem aw{σ:Type}{e e':Env}{h h':av}{s:σ}(he:uY e e':=by repeat' first|exact trivial|refine⟨?_,?_⟩|rfl|simp[PX.get])(hh:iF h h':=by repeat' first|exact trivial|refine⟨?_,?_⟩|rfl|simp[PX.get]):Wk (⟨e,h,s⟩:St σ) ⟨e',h',s⟩:=Wk.sub he hh
theorem Wk.move{σ:Type}{e:Env}{h:av}{s:σ}(i j:Nat)(hj:Nat.blt j 1000000=true)(jN:Nat.beq i j=false) :
  Wk (⟨e,h,s⟩:St σ) ⟨cn (az (cK i j)) (cn (az (aQ j)) e),kA i j (cn (Obj.az (aQ j)) (cut h j)),s⟩:=by
 intro cx r m L F a w hg;have hj:=Nat.le_of_ble_eq_true hj;have jN:i≠j:=by rintro rfl;simp at jN
 have h1:Good cx r m L F ⟨e,cut h j,s⟩ a w:=hg.del j;have h2:=h1.kill j;have hu:=pd (e:=e) (h:=h) j (x:=j) (.inl rfl);exact⟨_,F,h2.move (by unfold pinned;omega) jN hu,Tr.refl F w⟩
mutual
def eB(g:Nat->Option DO):V->V
 | .d v=>.d v
 | .agg cs=>qv (ga g cs)
 | .tup cs=>oF (ga g cs)
 | .clo f cs=>match sh (ga g cs) with
  | some l=>.d (.clo f l)
  | none=>.clo f (ga g cs)
 | .ptr i o=>match eP g (.ptr i o) with
  | some v=>.d v
  | none=>.ptr i o
 | .ep i n j o=>.ep i n j o
 | .sl i n o l=>match eP g (.sl i n o l) with
  | some v=>.d v
  | none=>.sl i n o l
 | .mp i=>match eP g (.mp i) with
  | some v=>.d v
  | none=>.mp i
 | .it i=>.it i
 | .yld=>.yld
 | .unk=>.unk
def ga(g:Nat->Option DO):List V->List V
 | []=>[]
 | v::r=>eB g v::ga g r
end
def gp(g:Nat->Option DO):List (List V)->List (List V)
 | []=>[]
 | v::r=>ga g v::gp g r
def vP:List (List V)->Option (List (List D))
 | []=>some []
 | v::r=>match sh v,vP r with
  | some a,some l=>some (a::l)
  | _,_=>none
def jo(g:Nat->Option DO):Obj->Obj
 | .box (.vv l)=>match sh (ga g l) with
  | some l=>.box (.dd l)
  | none=>.box (.vv (ga g l))
 | .tb t l=>.tb t (ga g l)
 | .arr n (.vv l)=>match vP (gp g l) with
  | some l=>.arr n (.dd l)
  | none=>.arr n (.vv (gp g l))
 | o=>o
def kJ{α:Type}(t:sd α):List Nat->sd α
 | []=>t
 | i::r=>kJ (cut t i) r
theorem gR{α:Type}:∀ (l:List Nat) (t:sd α) (x:Nat),get (kJ t l) x=if x∈l then none else get t x
 | [],t,x=>by simp[kJ]
 | i::r,t,x=>by
  rw[kJ,gR r,c0];by_cases h1:x∈r
  ·simp[h1]
  ·by_cases h2:x=i
   ·simp[h2]
   ·simp[h1,h2]
section
variable {yv : Option Nat} {L : Loc} {F F1 : Nat -> Nat} {w : World} {g : Nat -> Option DO}
theorem a6.FF(tr:Tr F w F1 w)(hg:∀ id o,g id=some o->tf yv L F1 w id o){v:V}{x:Value}(hr:a6 yv L F w v x):a6 yv L F1 w (match eP g v with
  | some d=>.d d
  | none=>v) x:=by
 split
 ·rename_i d hd
  exact B8 tr hg v x d hd hr
 ·exact a6.mono tr v x (fun _ _=>⟨rfl,rfl⟩) hr
theorem a6.oF{cs:List V}{l:Array Value}(h:aq yv L F w cs l.toList):a6 yv L F w (oF cs) (.tuple l):=by
 unfold PX.oF;split
 ·rename_i ds CJ
  rw[iy CJ]at h;exact⟨l,rfl,aq.inj.1 h⟩
 ·exact⟨l,rfl,h⟩
mutual
theorem a6.eB(tr:Tr F w F1 w)(hg:∀ id o,g id=some o->tf yv L F1 w id o):∀ (v:V) (x:Value),a6 yv L F w v x->a6 yv L F1 w (eB g v) x
 | .d v,x,h=>by simp only[PX.eB];exact bC.mono tr v x h
 | .agg cs,x,h=>by
  obtain⟨l,rfl,hl⟩:=h;simp only[PX.eB];exact a6.qv (aq.eB tr hg cs _ hl)
 | .tup cs,x,h=>by
  obtain⟨l,rfl,hl⟩:=h;simp only[PX.eB];exact a6.oF (aq.eB tr hg cs _ hl)
 | .clo f cs,x,h=>by
  obtain⟨l,rfl,hl⟩:=h;simp only[PX.eB];have:=aq.eB tr hg cs _ hl;split
  ·rename_i ds CJ
   rw[iy CJ]at this;exact⟨l,rfl,aq.inj.1 this⟩
  ·exact⟨l,rfl,this⟩
 | .ptr i o,x,h=>by simp only[PX.eB];exact a6.FF tr hg h
 | .ep i n j o,x,h=>by simp only[PX.eB];exact a6.mono tr _ x (fun _ _=>⟨rfl,rfl⟩) h
 | .sl i n o l,x,h=>by simp only[PX.eB];exact a6.FF tr hg h
 | .mp i,x,h=>by simp only[PX.eB];exact a6.FF tr hg h
 | .it i,x,h=>by simp only[PX.eB];exact a6.mono tr _ x (fun _ _=>⟨rfl,rfl⟩) h
 | .yld,x,h=>by simp only[PX.eB];exact h
 | .unk,x,h=>by simp only[PX.eB];exact h
theorem aq.eB(tr:Tr F w F1 w)(hg:∀ id o,g id=some o->tf yv L F1 w id o):∀ (vs:List V) (l:List Value),aq yv L F w vs l->aq yv L F1 w (ga g vs) l
 | [],_,h=>h
 | v::r,_,h=>by
  obtain⟨x,l',rfl,hx,hl⟩:=h;exact⟨x,l',rfl,a6.eB tr hg v x hx,aq.eB tr hg r l' hl⟩
end
theorem xG(a b:List V):ga g (a++b)=ga g a++ga g b:=by
 induction a with
 | nil=>rfl
 | cons x r ih=>simp[ga,ih]
theorem xH(a:List V):(ga g a).length=a.length:=by
 induction a with
 | nil=>rfl
 | cons x r ih=>simp[ga,ih]
theorem r7:∀ (a:List (List V)),(gp g a).flatten=ga g a.flatten/\(gp g a).length=a.length /\ ∀ sz,cJ sz a->cJ sz (gp g a)
 | []=>⟨rfl,rfl,fun _ _ _ h=>by cases h⟩
 | e::r=>by
  obtain⟨h1,h2,h3⟩:=r7 r;refine⟨by simp[gp,h1,xG],by simp[gp,h2],fun sz hl x hx=>?_⟩;rcases List.mem_cons.1 hx with rfl|hx
  ·rw[xH];exact hl e (List.mem_cons_self ..)
  ·exact h3 sz (fun y hy=>hl y (List.mem_cons_of_mem _ hy)) x hx
theorem yf:∀ {l:List (List V)} {ds:List (List D)},vP l=some ds->l=aO ds
 | [],ds,h=>by simp only[vP,Option.some.injEq]at h;subst h;rfl
 | v::r,ds,h=>by
  simp only[vP]at h;split at h
  ·rename_i a l h1 h2
   cases h;simp only[aO];rw[iy h1,yf h2]
  ·cases h
theorem bG.eB(tr:Tr F w F1 w)(hg:∀ id o,g id=some o->tf yv L F1 w id o)(id:Nat)(o:Obj)(h:bG yv L F w id o):bG yv L F1 w id (jo g o):=by
 cases o with
 | box c=>
  cases c with
  | dd l=>exact bG.mono tr id _ (fun _ _=>⟨rfl,rfl⟩) ⟨rfl,rfl⟩ (fun _=>rfl) h
  | vv l=>
   obtain⟨c,T,hc,hr⟩:=h;have hr:=aq.eB tr hg l _ hr;simp only[jo];split
   ·rename_i ds CJ
    rw[iy CJ]at hr;exact⟨c,T,hc,hr⟩
   ·exact⟨c,T,hc,hr⟩
 | arr sz es=>
  cases es with
  | dd l=>exact bG.mono tr id _ (fun _ _=>⟨rfl,rfl⟩) ⟨rfl,rfl⟩ (fun _=>rfl) h
  | vv l=>
   obtain⟨hs,hl,h⟩:=h;obtain⟨k1,k2,k3⟩:=r7 (g:=g) l;have oc:bG yv L F1 w id (.arr sz (.vv (gp g l))):=by
    refine⟨hs,k3 sz hl,?_⟩;rcases h with⟨h,hk⟩|⟨c,T,hc,hk,hn,hr⟩
    ·left
     have h:l = []:=h;subst h;exact⟨rfl,hk⟩
    ·right
     refine⟨c,T,hc,hk,?_,?_⟩
     ·show(gp g l).length*sz<=_
      rw[k2];exact hn
     ·show aq yv L F1 w (gp g l).flatten (c.toList.take ((gp g l).length*sz))
      rw[k2,k1];exact aq.eB tr hg _ _ hr
   simp only[jo];split
   ·rename_i ds CJ
    rw[yf CJ]at oc;exact oc
   ·exact oc
 | map cc=>exact bG.mono tr id _ (fun _ _=>⟨rfl,rfl⟩) ⟨rfl,rfl⟩ (fun _=>rfl) h
 | iter s n=>exact bG.mono tr id _ (fun _ _=>⟨rfl,rfl⟩) ⟨rfl,rfl⟩ (fun _=>rfl) h
 | buf t s=>exact bG.mono tr id _ (fun _ _=>⟨rfl,rfl⟩) ⟨rfl,rfl⟩ (fun _=>rfl) h
 | tb t l=>
  obtain⟨c,hc,hr⟩:=h;exact⟨c,hc,aq.eB tr hg l _ hr⟩
 | mit v n l u=>exact bG.mono tr id _ (fun _ _=>⟨rfl,rfl⟩) ⟨rfl,rfl⟩ (fun _=>rfl) h
theorem gw(id:Nat)(o:Obj):aN L id (jo g o)↔aN L id o:=by
 cases o with
 | box c=>cases c with
  | dd l=>exact Iff.rfl
  | vv l=>simp only[jo];split<;>exact Iff.rfl
 | arr sz es=>cases es with
  | dd l=>exact Iff.rfl
  | vv l=>simp only[jo];split<;>exact Iff.rfl
 | map cc=>exact Iff.rfl
 | iter s n=>exact Iff.rfl
 | buf t s=>exact Iff.rfl
 | tb t l=>exact Iff.rfl
 | mit v n l u=>exact Iff.rfl
end
theorem nV{α:Type}:∀ (l:List Nat) (t:sd α) (x:Nat),get (aP l t) x=if sy l x then get t x else none
 | l,[],x=>by simp[aP,get]
 | l,(k,v)::r,x=>by
  simp only[aP];split
  ·rename_i hk
   simp only[get];split
   ·rename_i he
    have:=Nat.eq_of_beq_eq_true he;subst this;simp[hk]
   ·exact nV l r x
  ·rename_i hk
   rw[nV l r x];simp only[get]
   cases xm:Nat.beq k x with
   | true=>
    have:=Nat.eq_of_beq_eq_true xm;subst this;simp[hk]
   | false=>rfl
theorem Wk.MZ{σ:Type}{e:Env}{h:av}{s:σ}(n:Nat)(ids:List Nat) :
  Wk (⟨e,h,s⟩:St σ) ⟨cn (eB (fm (aP ids h) n)) e,cn (jo (fm (aP ids h) n)) (kJ h ids),s⟩:=by
 intro cx r m L F a w hg;have gY:cM (aP ids h) h:=dS ids h;have e7:bo cx L F (aP ids h) s w:=(hg.sub (e:=e) (h:=aP ids h) (fun _ _ h=>h) gY).heap;have tr:=fT e7;have q9:∀ b,cx.C s b->dP L F (aP ids h) w b=F b:=fun b hb=>ll e7 hb;have tQ:∀ id o,get h id=some o->id∉ids->aN L id o->dP L F (aP ids h) w (L.ρ id)=F (L.ρ id):=by
  intro id o hi hn hb;refine eQ ?_;rintro ⟨j,p,hj,gJ,jN⟩;have:=hg.heap.inj j id p o (gY j p hj) hi gJ hb jN;subst this;exact hn (iP ids h j p hj)
 have As:=dX e7;have mM:=nB e7 n;generalize dP L F (aP ids h) w=F1 at tr q9 tQ As mM;generalize fm (aP ids h) n=g at mM;have kQ:∀ i o',get (cn (jo g) (kJ h ids)) i=some o'->i∉ids /\ ∃ o0,get h i=some o0/\o'=jo g o0:=by
  intro i o' hi;rw[bl,gR]at hi;split at hi
  ·cases hi
  ·rename_i hn
   cases h0:get h i with
   | none=>simp[h0]at hi
   | some o0=>simp[h0]at hi;exact⟨hn,o0,rfl,hi.symm⟩
 refine⟨L,F1,⟨⟨cx.eV hg.heap.hg tr As fun b hb=>⟨rfl,q9 b hb⟩,hg.heap.iW,As,?_,?_,?_⟩,?_,hg.sI,hg.oe,hg.uy,hg.lk,hg.lG,hg.sD⟩,tr⟩
 ·intro i o' hi
  obtain⟨_,o0,h0,rfl⟩:=kQ i o' hi;exact bG.eB tr mM i o0 (hg.heap.obj i o0 h0)
 ·intro i o' hi hb
  obtain⟨hn,o0,h0,rfl⟩:=kQ i o' hi;have hb:=(gw i o0).1 hb;rw[tQ i o0 h0 hn hb];exact hg.heap.own i o0 h0 hb
 ·intro i j o' p hi hj kj gJ he
  obtain⟨_,o0,h0,rfl⟩:=kQ i o' hi;obtain⟨_,p0,xV,rfl⟩:=kQ j p hj;exact hg.heap.inj i j o0 p0 h0 xV ((gw i o0).1 kj) ((gw j p0).1 gJ) he
 ·intro t v ht
  simp only[bl]at ht
  cases h0:get e t with
  | none=>simp[h0]at ht
  | some v0=>
   simp[h0]at ht;subst ht;obtain⟨x,hx,hr⟩:=hg.env t v0 h0;exact⟨x,hx,a6.eB tr mM v0 x hr⟩
section
variable {P : Program} {T : dM} {σ : Type} {Y : Hd σ}
theorem zJ.wk{c:Code}{st st':St σ}{K:ew->St σ->Prop}(hw:Wk st st')(h:zJ P Y c st' K):zJ P Y c st K:=by
 intro cx hY r m L F a w hg hc;obtain⟨L',F',dY,tr⟩:=hw cx r m L F a w hg;refine wpIn_mono (h cx hY r m L' F' a w dY hc) fun ex a' w' hq=>?_;rcases hq with⟨e',oh,m',L1,F1,h1,h2,h3,h4,h5⟩|hp
 ·exact .inl ⟨e',oh,m',L1,F1,h1,h2,h3,Tr.trans tr h4,h5⟩
 ·exact .inr (hp.trans tr rfl)
theorem fM(hT:bj P T){ft:FT}{c:Code}(hD:cY P T ft c){α:Type}(I:α->St σ)(Pr:α->Prop)(μ:α->Nat)(x0:α){st:St σ}{K:ew->St σ->Prop}(h0:Wk st (I x0))(p0:Pr x0)
  (round:∀ x,Pr x->FI P T ft Y c (I x) fun e st'=>match e with
   | .normal=>∃ y,μ y<μ x/\Pr y/\Wk st' (I y)
   | e=>K e st'):x4 P ft Y c st K:=by
 refine⟨zJ.wk h0 ?_⟩;intro cx hY r m0 L0 F0 a w hg hc;have hc:codeOk a.tmps.size c=true:=hc
 let J:Act->World->α->Prop:=fun a' w' x=>Pr x /\ ∃ m L F,Good cx r m L F (I x) a' w'/\Tr F0 w F w'/\a'.tmps.size=a.tmps.size
 let M:Act->World->Nat:=fun a' w'=>wH fun n=>∃ x,J a' w' x/\μ x=n
 refine wpIn_loop (fun a' w'=>∃ x,J a' w' x) M ⟨x0,p0,m0,L0,F0,hg,Tr.refl F0 w,rfl⟩ fun a' w' hJ=>?_;obtain⟨x,⟨hp,m,L,F,dY,tr,hs⟩,hx⟩:=wI (p:=fun n=>∃ x,J a' w' x/\μ x=n) (by obtain⟨x,hx⟩:=hJ;exact⟨μ x,x,hx,rfl⟩);refine wpIn_mono (dU hT c hD (I x) _ (round x hp) cx hY r m L F a' w' dY (by rw[hs];exact hc)) fun ex Hz B9 hq=>?_;rcases hq with⟨e',oh,m1,L1,F1,rfl,h2,h3,h4,h5⟩|JU
 case inr=>
  have I7:=JU;obtain⟨v,pe,ph,ps,m',L',F',rfl,_⟩:=JU;exact .inr (I7.trans tr hs)
 cases e' with
 | normal=>
  obtain⟨y,hy,PQ,ER⟩:=h2;obtain⟨L2,F2,iX,DG⟩:=ER cx r m1 L1 F1 Hz B9 h3;have KU:J Hz B9 y:=⟨PQ,m1,L2,F2,iX,Tr.trans tr (Tr.trans h4 DG),h5.trans hs⟩;refine⟨⟨y,KU⟩,?_⟩;have:M Hz B9<=μ y:=zp ⟨y,KU,rfl⟩;have hx:μ x=M a' w':=hx;omega
 | exit i=>exact .inl ⟨.exit i,oh,m1,L1,F1,rfl,h2,h3,Tr.trans tr h4,h5.trans hs⟩
 | ret=>exact .inl ⟨.ret,oh,m1,L1,F1,rfl,h2,h3,Tr.trans tr h4,h5.trans hs⟩
end
section
variable {σ : Type}
theorem Good.Mn{cx:Cx σ}{r:Option Nat}{m:List Nat}{L:Loc}{F:Nat->Nat}{e:Env}{h:av}{s:σ}{a:Act}{w:World}(hg:Good cx r m L F ⟨e,h,s⟩ a w){t:Nat}{v v':V}(ht:get e t=some v)
  (hv:∀ x,a6 cx.yv L F w v x->a6 cx.yv L F w v' x):Good cx r m L F ⟨put e t v',h,s⟩ a w:=by
 refine⟨hg.heap,fun u y hu=>?_,hg.sI,hg.oe,hg.uy,hg.lk,hg.lG,hg.sD⟩;rw[cH]at hu;split at hu
 ·rename_i he
  cases hu;subst he
  obtain⟨x,hx,hr⟩:=hg.env u v ht;exact⟨x,hx,hv x hr⟩
 ·exact hg.env u y hu
theorem Wk.born{e:Env}{h:av}{s:σ}(t id sz:Nat)(dZ:Nat.blt id 1000000=true)(hs:Nat.blt 0 sz=true)(ht:get e t=some (.d .nils)) :
  Wk (⟨e,h,s⟩:St σ) ⟨put (cn (az (aQ id)) e) t (.sl id sz 0 0),((id,.arr sz (.dd []))::cn (Obj.az (aQ id)) (cut h id)),s⟩:=by
 intro cx r m L F a w hg;have dZ:=Nat.le_of_ble_eq_true dZ;have hs:=Nat.le_of_ble_eq_true hs;have h1:=hg.lC id sz (by unfold pinned;omega) hs (.dd []) rfl;refine⟨_,F,Good.Mn (t:=t) (v:=.d .nils) h1 (by rw[bl,ht];rfl) fun x hx=>?_,Tr.refl F w⟩;have hx:x = .slice none 0 0:=hx;subst hx;exact⟨none,0,rfl,Nat.le_refl _,hs,.inl ⟨rfl,rfl⟩⟩
end
end Go.PX
namespace Go.PX
open Go.RowKit
mutual
def xS:D->D->Bool
 | .bool a,.bool b=>a ==b
 | .int k n,.int k' m=>decide (k=k')&&decide (n=m)
 | .str a,.str b=>decide (a=b)
 | .agg a,.agg b=>yk a b
 | .tup a,.tup b=>yk a b
 | .nils,.nils=>true
 | .nilp,.nilp=>true
 | .nilm,.nilm=>true
 | .nilf,.nilf=>true
 | .nili,.nili=>true
 | _,_=>false
def yk:List D->List D->Bool
 | [],[]=>true
 | a::r,b::l=>xS a b&&yk r l
 | _,_=>false
end
mutual
theorem D8:∀ (a b:D),xS a b=true->a=b
 | .bool a,b,h=>by cases b<;>simp[xS]at h;rw[h]
 | .int k n,b,h=>by cases b<;>simp[xS]at h;rw[h.1,h.2]
 | .str a,b,h=>by cases b<;>simp[xS]at h;rw[h]
 | .agg a,b,h=>by cases b<;>simp[xS]at h;rw[nQ _ _ h]
 | .tup a,b,h=>by cases b<;>simp[xS]at h;rw[nQ _ _ h]
 | .nils,b,h=>by cases b<;>simp[xS]at h;rfl
 | .nilp,b,h=>by cases b<;>simp[xS]at h;rfl
 | .nilm,b,h=>by cases b<;>simp[xS]at h;rfl
 | .nilf,b,h=>by cases b<;>simp[xS]at h;rfl
 | .nili,b,h=>by cases b<;>simp[xS]at h;rfl
 | .vs _,b,h=>by cases b<;>simp[xS]at h
 | .ref _,b,h=>by cases b<;>simp[xS]at h
 | .mv _,b,h=>by cases b<;>simp[xS]at h
 | .clo _ _,b,h=>by cases b<;>simp[xS]at h
 | .mth _ _,b,h=>by cases b<;>simp[xS]at h
 | .ifc _ _,b,h=>by cases b<;>simp[xS]at h
theorem nQ:∀ (a b:List D),yk a b=true->a=b
 | [],b,h=>by cases b<;>simp[yk]at h;rfl
 | x::r,b,h=>by
  cases b with
  | nil=>simp[yk]at h
  | cons y l=>
   simp only[yk,Bool.and_eq_true]at h;rw[D8 x y h.1,nQ r l h.2]
end
def eqFields:List (Nat×TypeId)->List (Nat×TypeId)->Bool
 | [],[]=>true
 | (a,b)::r,(c,d)::l=>Nat.beq a c&&Nat.beq b d&&eqFields r l
 | _,_=>false
theorem ow:∀ (a b:List (Nat×TypeId)),eqFields a b=true->a=b
 | [],[],_=>rfl
 | [],_::_,h=>by simp[eqFields]at h
 | _::_,[],h=>by simp[eqFields]at h
 | (a,b)::r,(c,d)::l,h=>by
  simp only[eqFields,Bool.and_eq_true]at h;rw[Nat.eq_of_beq_eq_true h.1.1,Nat.eq_of_beq_eq_true h.1.2,ow r l h.2]
def Iy:Kd->Kd->Bool
 | .bool,.bool=>true
 | .int k,.int k'=>decide (k=k')
 | .str,.str=>true
 | .slice e,.slice e'=>Nat.beq e e'
 | .struct fs,.struct gs=>eqFields fs gs
 | .array n e,.array n' e'=>Nat.beq n n'&&Nat.beq e e'
 | .map k e,.map k' e'=>Nat.beq k k'&&Nat.beq e e'
 | .iface,.iface=>true
 | .other,.other=>true
 | _,_=>false
theorem Cr(a b:Kd)(h:Iy a b=true):a=b:=by
 cases a<;>cases b<;>simp only[Iy,Bool.and_eq_true,decide_eq_true_eq]at h<;>first|rfl|(cases h;done)|skip
 ·rw[h]
 ·rw[Nat.eq_of_beq_eq_true h]
 ·rw[ow _ _ h]
 ·rw[Nat.eq_of_beq_eq_true h.1,Nat.eq_of_beq_eq_true h.2]
 ·rw[Nat.eq_of_beq_eq_true h.1,Nat.eq_of_beq_eq_true h.2]
def MW:Bool->Bool->Bool
 | true,true=>true
 | false,false=>true
 | _,_=>false
def Qx(P:Program)(t:TypeId)(ti:oQ):Bool:=
 match P.info? t,P.underlying t with
 | some i,some d=>Nat.beq ti.size i.size&&Nat.beq ti.bytes i.bytes&&Iy ti.kd (ik d)&&MW ti.isAgg (pL d)&&(match ti.held with
   | true=>true
   | false=>!P.stoodInHeld t&&(match ti.kd with | .int _=>i.comparable|_=>true))&&(match ti.zero with
   | none=>true
   | some z=>match i.zero with
    | some zv=>match zeroCells zv with
     | some z'=>yk z' z&&MW (Ch zv) ti.isAgg
     | none=>false
    | none=>false)
 | _,_=>false
theorem FC{P:Program}{t:TypeId}{ti:oQ}(h:Qx P t ti=true):∃ i d,P.info? t=some i/\P.underlying t=some d/\ti.size=i.size/\ti.bytes=i.bytes/\ti.kd=ik d/\ti.isAgg=pL d /\
  (ti.held=false->P.stoodInHeld t=false /\ ∀ k,ti.kd = .int k->i.comparable=true)/\(∀ z,ti.zero=some z -> ∃ zv,i.zero=some zv/\zeroCells zv=some z/\Ch zv=ti.isAgg):=by
 unfold Qx at h;split at h;case h_2=>cases h
 rename_i i d hi hd;simp only[Bool.and_eq_true]at h;obtain⟨⟨⟨⟨⟨h1,h2⟩,h3⟩,h4⟩,h5⟩,h6⟩:=h;refine⟨i,d,hi,hd,Nat.eq_of_beq_eq_true h1,Nat.eq_of_beq_eq_true h2,Cr _ _ h3,?_,fun hh=>?_,fun z hz=>?_⟩
 ·revert h4;cases ti.isAgg<;>cases pL d<;>simp[MW]
 ·rw[hh]at h5
  simp only[Bool.and_eq_true,Bool.not_eq_true']at h5;refine⟨h5.1,fun k hk=>?_⟩;have:=h5.2;rw[hk]at this;exact this
 ·rw[hz]at h6
  simp only at h6;split at h6;case h_2=>cases h6
  rename_i zv C3;split at h6;case h_2=>cases h6
  rename_i z' Qh;simp only[Bool.and_eq_true]at h6;exact⟨zv,C3,by rw[Qh,nQ _ _ h6.1],by have:=h6.2;revert this;cases Ch zv<;>cases ti.isAgg<;>simp[MW]⟩
def Hq(P:Program):dM->Bool
 | .lf=>true
 | .nd l k v r=>Hq P l&&Qx P k v&&Hq P r
theorem rD{P:Program}:∀ {T:dM},Hq P T=true->bj P T
 | .lf,_,t,ti,h=>by cases h
 | .nd l k v r,hT,t,ti,h=>by
  simp only[Hq,Bool.and_eq_true]at hT;simp only[dM.get]at h;split at h
  ·rename_i he
   have:=Nat.eq_of_beq_eq_true he;subst this;cases h;exact FC hT.1.2
  ·split at h
   ·exact rD hT.1.1 t ti h
   ·exact rD hT.2 t ti h
end Go.PX
namespace Go.PX
theorem tn{k:IntKind}{n:Int}{K:V->Prop}(h:k.wrap n=n)(hK:K (.d (.int k n))):arith k n K:=by constructor;rw[h];exact hK
theorem ak{b:Bool}{X Y:Prop}(h:b=true->X)(k:b=false->Y):HC b X Y:=by cases b<;>simp_all[HC]
theorem aR{b:Bool}{K:Prop}(h:b=true)(k:K):fc b K:=by subst h;exact k
theorem fQ{es:List (List D)}{i:Int}{K:List D->Prop}(l:List D)(h:0<=i/\es[i.toNat]?=some l)(k:K l):vQ es i K:=by simp[vQ,h.1,h.2,k]
theorem gf{α:Type}{cs:List α}{n:Nat}{K:α->Prop}(v:α)(h:cs[n]?=some v)(k:K v):mX cs n K:=by simp[mX,h,k]
theorem wrap_i64{n:Int}(h : -9223372036854775808<=n/\n<=9223372036854775807):IntKind.wrap .i64 n=n:=IntWalk.i64_in n h
theorem ah{n:Int}{K:V->Prop}(hK:K (.d (.int .i64 n)))(h:IntKind.wrap .i64 n=n:=by exact wrap_i64 (by(try dsimp only);omega)):arith .i64 n K:=tn h hK
abbrev i64(n:Int):D:=.int .i64 n
theorem xe{P:Program}{T:dM}(hm:P.follows .mixedOrders=true)(hT:bj P T){f:FuncId}{fn:Func}{c:Code}(hf:P.funcs[f]?=some fn)(hb:fn.body=some c){ft:FT}{ds:List D}{r:D}(n:Nat)(e7:zK ft fn n=true)(hn:ds.length=n)
     (hw:∀ {σ:Type} (Y:Hd σ) (s:σ),FI P T ft Y c ⟨dO 0 (inj ds),[],s⟩ (MY T fn.results.toList fun v h' s'=>(v = .d r/\h' = [])/\s'=s)):cy P f ds r:=by
  intro σ Y s;exact ic hm hT hf hb (by rw[dI,hn];exact e7) (hw Y.np s)
end Go.PX
namespace Go.PX
open Go.RowKit
def dQ(R:Nat->Nat):av->av
 | []=>[]
 | (k,o)::r=>(R k,ir R o)::dQ R r
def sC(R:Nat->Nat)(e:Env):Env:=cn (az (fG R)) e
theorem jJ{R:Nat->Nat}:∀ {h:av} {k:Nat} {o:Obj},get (dQ R h) k=some o -> ∃ j o1,get h j=some o1/\k=R j/\o=ir R o1
 | [],k,o,h=>by cases h
 | (j,p)::r,k,o,h=>by
  simp only[dQ,get]at h;split at h
  ·rename_i he
   have:=Nat.eq_of_beq_eq_true he;subst this;cases h;exact⟨j,p,by simp[get],rfl,rfl⟩
  ·rename_i he
   obtain⟨j',o1,h1,rfl,rfl⟩:=jJ h;refine⟨j',o1,?_,rfl,rfl⟩;have:Nat.beq j j'=false:=by
    rw[Bool.eq_false_iff];intro e;have:=Nat.eq_of_beq_eq_true e;subst this;simp at he
   simp[get,this,h1]
section
variable {σ : Type} {cx : Cx σ} {L L' : Loc} {F : Nat -> Nat} {s : σ} {w : World} {R : Nat -> Nat}
theorem bo.kY{h:av}(hh:bo cx L F h s w)(hn:∀ i∈bT h,L'.ρ (R i)=L.ρ i/\L'.κ (R i)=L.κ i):bo cx L' F (dQ R h) s w:=by
 refine⟨hh.hg,hh.iW,hh.fresh,fun k o hk=>?_,fun k o hk hb=>?_,fun k l o p hk hl kO HO e=>?_⟩
 ·obtain⟨j,o1,h1,rfl,rfl⟩:=jJ hk
  obtain⟨n1,n2⟩:=a5 h1;exact(bG.kY (R:=R) (L:=L) (L':=L') j o1 (fun i hi=>hn i (n2 i (cp i o1 hi))) (hn j n1)).2 (hh.obj j o1 h1)
 ·obtain⟨j,o1,h1,rfl,rfl⟩:=jJ hk
  obtain⟨n1,n2⟩:=a5 h1;rw[(hn j n1).1];exact hh.own j o1 h1 ((bN (R:=R) (L:=L) (L':=L') j o1 (hn j n1).2).1 hb)
 ·obtain⟨j,o1,h1,rfl,rfl⟩:=jJ hk
  obtain⟨i,o2,h2,rfl,rfl⟩:=jJ hl;obtain⟨n1,_⟩:=a5 h1;obtain⟨n2,_⟩:=a5 h2;rw[(hn j n1).1,(hn i n2).1]at e;rw[hh.inj j i o1 o2 h1 h2 ((bN (R:=R) (L:=L) (L':=L') j o1 (hn j n1).2).1 kO) ((bN (R:=R) (L:=L) (L':=L') i o2 (hn i n2).2).1 HO) e]
def fv:Env->List Nat
 | []=>[]
 | (_,v)::r=>bq v++fv r
theorem gO:∀ {e:Env} {t:Nat} {v:V} {i:Nat},get e t=some v->fD v i->i∈fv e
 | [],t,v,i,h,_=>by cases h
 | (k,u)::r,t,v,i,h,hi=>by
  simp only[get]at h;split at h
  ·cases h
   exact List.mem_append.2 (.inl (dD i _ hi))
  ·exact List.mem_append.2 (.inr (gO h hi))
end
def idx:List Nat->Nat->Nat->Option Nat
 | [],_,_=>none
 | k::r,n,i=>match Nat.beq k i with
  | true=>some n
  | false=>idx r (n+1) i
def oM(c:Nat)(tb:List Nat)(i:Nat):Nat:=
 match idx tb c i with
 | some k=>k
 | none=>i
def pC(c:Nat)(tb:List Nat)(j:Nat):Nat:=
 match Nat.ble c j with
 | true=>match tb[j-c]? with
  | some i=>i
  | none=>j
 | false=>j
theorem uf:∀ {tb:List Nat} {n i k:Nat},idx tb n i=some k->n<=k/\tb[k-n]?=some i
 | [],n,i,k,h=>by cases h
 | t::r,n,i,k,h=>by
  simp only[idx]at h;split at h
  ·rename_i he
   have:=Nat.eq_of_beq_eq_true he;subst this;cases h;exact⟨Nat.le_refl _,by simp⟩
  ·obtain⟨h1,h2⟩:=uf h
   refine⟨by omega,?_⟩;have:k-n=(k-(n+1))+1:=by omega
   rw[this,List.getElem?_cons_succ];exact h2
theorem yN:∀ {tb:List Nat} {n i:Nat},idx tb n i=none->i∉tb
 | [],n,i,h=>by simp
 | t::r,n,i,h=>by
  simp only[idx]at h;split at h
  ·cases h
  ·rename_i he
   intro hm;rcases List.mem_cons.1 hm with rfl|hm
   ·simp at he
   ·exact yN h hm
theorem Tr.NB{F:Nat->Nat}{w:World}{b:Nat}{o o':Go.Obj}(h:w.heap[b]?=some o)(hc:∀ c T x,o ≠ .cells c T x)(hm:∀ e c,o ≠ .map e c)(sR:∀ c T x,o' ≠ .cells c T x):Tr F w F (w.putObj b o'):=by
 have hk:∀ x,x≠b->(w.putObj b o').heap[x]?=w.heap[x]?:=fun x hx=>World.putObj_heap_other hx;refine⟨rfl,rfl,rfl,by simp,fun _=>Nat.le_refl _,fun x i hx=>?_,fun x en c hx Ay=>?_⟩
 ·by_cases he:x=b
  ·subst he
   have h1:=World.putObj_heap_same (w:=w) (o:=o') (bL h);have k1:w.cell? ⟨x,i,none⟩=none:=by
    simp only[World.cell?,h];cases o<;>first|rfl|exact absurd rfl (hc _ _ _)
   have k2:(w.putObj x o').cell? ⟨x,i,none⟩=none:=by
    simp only[World.cell?,h1];cases o'<;>first|rfl|exact absurd rfl (sR _ _ _)
   rw[k1,k2]
  ·exact jx (hk x he)
 ·by_cases he:x=b
  ·subst he;rw[h]at Ay;cases Ay;exact absurd rfl (hm _ _)
  ·rw[hk x he];exact Ay
theorem bG.qy{yv:Option Nat}{L:Loc}{F:Nat->Nat}{w:World}{id:Nat}{o:Obj}(h:bG yv L F w id o)(hb:aN L id o){x:Go.Obj}(hx:w.heap[L.ρ id]?=some x):(∀ lp,x ≠ .loop lp)/\(∀ d,x ≠ .deferred d):=by
 cases o with
 | box c=>obtain⟨c',T,hc,_⟩:=h;rw[hc]at hx;cases hx;exact⟨fun _ h=>(by cases h),fun _ h=>(by cases h)⟩
 | arr sz es=>
  obtain⟨_,_,h⟩:=h;rcases h with⟨_,hk⟩|⟨c,T,hc,_⟩
  ·exact absurd hk hb
  ·rw[hc]at hx;cases hx;exact⟨fun _ h=>(by cases h),fun _ h=>(by cases h)⟩
 | map cc=>obtain⟨en,c,hc,_⟩:=h;rw[hc]at hx;cases hx;exact⟨fun _ h=>(by cases h),fun _ h=>(by cases h)⟩
 | iter s n=>
  have hc:w.heap[L.ρ id]?=_:=h;rw[hc]at hx;cases hx;exact⟨fun _ h=>(by cases h),fun _ h=>(by cases h)⟩
 | buf t s=>obtain⟨_,hc,_⟩:=h;rw[hc]at hx;cases hx;exact⟨fun _ h=>(by cases h),fun _ h=>(by cases h)⟩
 | tb t l=>obtain⟨_,hc,_⟩:=h;rw[hc]at hx;cases hx;exact⟨fun _ h=>(by cases h),fun _ h=>(by cases h)⟩
 | mit v n l u=>obtain⟨_,_,_,hc,_⟩:=h;rw[hc]at hx;cases hx;exact⟨fun _ h=>(by cases h),fun _ h=>(by cases h)⟩
theorem bo.G0{σ:Type}{cx:Cx σ}{L:Loc}{F F':Nat->Nat}{h:av}{s:σ}{w w':World}(hh:bo cx L F h s w)(tr:Tr F w F' w')(hf:∀ b,w'.heap.size<=b->F' b=0)
  (hC:∀ b,cx.C s b->w'.heap[b]?=w.heap[b]?/\F' b=F b) (ho:∀ id o,get h id=some o->aN L id o->w'.heap[L.ρ id]?=w.heap[L.ρ id]?/\F' (L.ρ id)=F (L.ρ id)):bo cx L F' h s w':=by
 refine⟨cx.eV hh.hg tr hf hC,fun b hb=>Nat.lt_of_lt_of_le (hh.iW b hb) tr.size,hf,fun id o hi=>?_,fun id o hi hb=>?_,hh.inj⟩
 ·exact bG.mono tr id o (fun _ _=>⟨rfl,rfl⟩) ⟨rfl,rfl⟩ (fun hb=>(ho id o hi hb).1) (hh.obj id o hi)
 ·rw[(ho id o hi hb).2];exact hh.own id o hi hb
end Go.PX
