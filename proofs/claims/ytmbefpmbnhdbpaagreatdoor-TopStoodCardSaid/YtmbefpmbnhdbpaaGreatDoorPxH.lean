import Derived.Test.YtmbefpmbnhdbpaaGreatDoorPxG
import Derived.IntWalk
import Derived.RangeFuncNested
set_option linter.all false
namespace Go.PX
open Go.RowKit
theorem Ec{tb:List Nat}{d:Option Nat}{v:V}{h':Heap}(h:gG tb d v h'=true):fO (cL tb d v h')=true:=by
 simp only[gG,Bool.and_eq_true]at h;exact h.2
theorem uM{l:List Nat}(h:l.Nodup){i j a:Nat}(hi:l[i]?=some a)(hj:l[j]?=some a):i=j:=by
 obtain⟨wa,uC⟩:=List.getElem?_eq_some_iff.1 hi;obtain⟨PT,hj2⟩:=List.getElem?_eq_some_iff.1 hj;have hp:=List.pairwise_iff_getElem.1 h;rcases Nat.lt_trichotomy i j with dN|heq|SG
 ·exact absurd (uC.trans hj2.symm) (hp i j wa PT dN)
 ·exact heq
 ·exact absurd (hj2.trans uC.symm) (hp j i PT wa SG)
def lY(L L':Loc)(NL:List Nat)(c:Nat):Loc:=⟨fun x=>if x∈NL then L'.ρ (x-c+2000000) else L.ρ x,fun x=>if x∈NL then L'.κ (x-c+2000000) else L.κ x⟩
theorem F8{L L':Loc}{NL:List Nat}{c x:Nat}(hx:x∉NL):(lY L L' NL c).ρ x=L.ρ x/\(lY L L' NL c).κ x=L.κ x:=⟨if_neg hx,if_neg hx⟩
theorem F7{L L':Loc}{NL:List Nat}{c x:Nat}(hx:x∈NL):(lY L L' NL c).ρ x=L'.ρ (x-c+2000000)/\(lY L L' NL c).κ x=L'.κ (x-c+2000000):=⟨if_pos hx,if_pos hx⟩
theorem HP{h st h0:Heap}{R:Nat->Nat}{tb:List Nat}(hh:dB h st)(e8:jr R h 1000000 tb h0)(nb:∀ k id,tb[k]?=some id->R (1000000+k)=id) :
  ∀ i o,get h0 i=some o -> ∃ k id,i=1000000+k/\tb[k]?=some id/\R i=id/\get st id=some (kf R o):=by
 intro i o hi;obtain⟨k,id,h1,h2,h3⟩:=vA e8 i o hi;exact⟨k,id,h1,h2,by rw[h1];exact nb k id h2,hh _ _ h3⟩
theorem To{σ:Type}:∀ (ws:List Wr) (st st':St σ),st.env=st'.env->st.heap=st'.heap->dr (aR st ws)=dr (aR st' ws)
 | [],⟨e,h,s⟩,⟨e',h',s'⟩,h1,h2=>by
  simp only at h1 h2;subst h1;subst h2;rfl
 | w::r,⟨e,h,s⟩,⟨e',h',s'⟩,h1,h2=>by
  simp only at h1 h2;subst h1;subst h2;rw[aR,aR];exact To r _ _ (by cases w<;>rfl) (by cases w<;>rfl)
theorem fH{L L2:Loc}{y:Nat}{o:Obj}(h:L2.κ y=L.κ y)(hb:aV L2 y o):aV L y o:=by
 cases o with
 | arr sz es=>intro e;exact hb (h.trans e)
 | box c=>exact trivial
 | map cJ=>exact trivial
 | iter s n=>exact trivial
 | buf t s=>exact trivial
 | tb t l=>exact trivial
 | mit v n l u=>exact trivial
def xa(R:Nat->Nat)(L:Loc)(h0:Heap)(b:Nat):Prop:=∃ i o,get h0 i=some o/\aV ⟨fun i=>L.ρ (R i),fun i=>L.κ (R i)⟩ i o/\L.ρ (R i)=b
theorem ov{σ:Type}{cx:Cx σ}{r:Option Nat}{m:List Nat}{L:Loc}{F:Nat->Nat}{st:St σ}{a:Act}{w:World}{tb:List Nat}{d:Option Nat}{v:V}{h':Heap}(hB:gG tb d v h'=true){R:Nat->Nat}(hR:eU tb (d.getD 0)=R)
  {h h0:Heap} (hh:dB h st.heap) (e8:jr R h 1000000 tb h0) (hg:Good cx r m L F st a w) (hd:∀ k,d=some k->k<a.tmps.size) {s':σ} {x:Value} {w':World} {L':Loc} {F':Nat->Nat}
  (zF:cx.HG s' w' F') (rS:∀ b,cx.C s' b->b<w'.heap.size) (Ds:∀ b,b<w.heap.size->¬ xa R L h0 b->¬ cx.C st.s b->¬ cx.C s' b)
  (im:∀ b,b<w.heap.size->¬ xa R L h0 b->¬ cx.C st.s b->w'.heap[b]?=w.heap[b]?/\F' b=F b) (yi:∀ b,w'.heap.size<=b->F' b=0)
  (pc:∀ i o,get h' i=some o->cb cx.yv L' F' w' i o)
  (DF:∀ i o,get h' i=some o->aV L' i o->F' (L'.ρ i)=0/\¬ cx.C s' (L'.ρ i)/\(L'.ρ i<w.heap.size->xa R L h0 (L'.ρ i)))
  (Rh:∀ i j o p,get h' i=some o->get h' j=some p->aV L' i o->aV L' j p->L'.ρ i=L'.ρ j->i=j)
  (hv:bg cx.yv L' F' w' v x) (tr:Tr F w F' w') (jy:mh ⟨fun i=>L.ρ (R i),fun i=>L.κ (R i)⟩ L') :
  ∃ L2,Good cx r m L2 F' (aR ⟨st.env,st.heap,s'⟩ (cL tb d v h')) (a.put d x) w':=by
 have Lw:=Ec hB;simp only[gG,Bool.and_eq_true]at hB;obtain⟨⟨⟨⟨⟨⟨⟨⟨⟨b1,b2⟩,b3⟩,b4⟩,b5⟩,b6⟩,b7⟩,b8⟩,b9⟩,_⟩:=hB;have sx:=gX b1;have b4:=ij b4;have b5:=rG b5;have b6:=rG b6;have b7:∀ i∈dG h',i<2000064:=fun i hi=>Nat.le_of_ble_eq_true (List.all_eq_true.1 b7 i hi);have b8:=Nat.le_of_ble_eq_true b8;have b9:=Nat.le_of_ble_eq_true b9;rw[hR]at b4;have nb:∀ k id,tb[k]?=some id->R (1000000+k)=id:=fun k id hk=>by rw[<- hR];exact od hk b9
 have S4:∀ i,2000000<=i->R i=100000+64*d.getD 0+(i-2000000):=fun i hi=>by rw[<- hR];exact Iq hi
 obtain⟨ug,PN⟩:∃ ug,ug=xa R L h0:=⟨_,rfl⟩;rw[<- PN]at Ds im DF;have Nf:∀ b,ug b ↔ ∃ i o,get h0 i=some o/\aV ⟨fun i=>L.ρ (R i),fun i=>L.κ (R i)⟩ i o/\L.ρ (R i)=b:=fun b=>by rw[PN];exact Iff.rfl
 have Rf:=HP hh e8 nb;have K8:∀ i o,get h0 i=some o->cb cx.yv ⟨fun i=>L.ρ (R i),fun i=>L.κ (R i)⟩ F w i o:=fun i o hi=>by
  obtain⟨k,id,rfl,h2,h3,h4⟩:=Rf i o hi;have:=hg.heap.obj id _ h4;rw[<- h3]at this;exact(cb.o6 (R:=R) (L:=⟨fun i=>L.ρ (R i),fun i=>L.κ (R i)⟩) (L':=L) (1000000+k) o (fun _ _=>⟨rfl,rfl⟩) ⟨rfl,rfl⟩).1 this
 let NL:=(dG h').map R
 obtain⟨L2,WY⟩:∃ L2,L2=lY L L' NL (100000+64*d.getD 0):=⟨_,rfl⟩;have pk:∀ x,x∉NL->L2.ρ x=L.ρ x/\L2.κ x=L.κ x:=fun x hx=>by rw[WY];exact F8 hx
 have S0:∀ i,i∈dG h'->L2.ρ (R i)=L'.ρ i/\L2.κ (R i)=L'.κ i:=by
  intro i hi;have AF:=oF hi;have hm:R i∈NL:=List.mem_map.2 ⟨i,hi,rfl⟩;have:R i-(100000+64*d.getD 0)+2000000=i:=by rw[S4 i AF];omega
  have h2:=F7 (L:=L) (L':=L') (c:=100000+64*d.getD 0) hm;rw[this]at h2;rw[WY];exact h2
 have Qt:∀ i,1000000<=i->i<1000000+tb.length->L2.ρ (R i)=L'.ρ i/\L2.κ (R i)=L'.κ i:=by
  intro i h1 h2;obtain⟨k,jj⟩:∃ k,i=1000000+k:=⟨i-1000000,by omega⟩;have dN:k<tb.length:=by omega
  obtain⟨y,hk⟩:∃ y,tb[k]?=some y:=⟨_,List.getElem?_eq_getElem dN⟩;have hRi:R i=y:=by rw[jj];exact nb _ _ hk
  have hn:R i∉NL:=by rw[hRi];exact b4 _ (List.mem_of_getElem? hk)
  obtain⟨p1,p2⟩:=jy i ⟨h1,by omega⟩;exact⟨(pk _ hn).1.trans p1.symm,(pk _ hn).2.trans p2.symm⟩
 have uf:∀ i,((1000000<=i/\i<1000000+tb.length)\/i∈dG h')->L2.ρ (R i)=L'.ρ i/\L2.κ (R i)=L'.κ i:=fun i hi=>hi.elim (fun h=>Qt i h.1 h.2) (S0 i);have eo:=hg.rI NL;have Vh:=G8 NL st (fun _=>False) (fun _ h=>h.elim);have rV:(rI st NL).s=st.s:=Po _ _;have UL:∀ (ws:List Wr),dr (aR (⟨st.env,st.heap,s'⟩:St σ) ws)=dr (aR st ws):=fun ws=>To ws _ _ rfl rfl;have JV:dr (aR st (cL tb d v h'))=cA (dr (rI st NL)) (cL tb d v h'):=by
  rw[Dm _ _ Lw,GL,hR]
 have QV:∀ x∈NL,100000<=x/\x<1000000:=by
  intro x hx;obtain⟨i,hi,rfl⟩:=List.mem_map.1 hx;have h1:=oF hi;have h2:=b7 i hi;rw[S4 i h1];omega
 have B3:cL tb d v h'=qd R h' (dG h')++(lU R h' 1000000 tb++bz d (o6 R v)):=by rw[<- hR];rfl
 have Zl:∀ t u,get (aR (⟨st.env,st.heap,s'⟩:St σ) (cL tb d v h')).env t=some u->(d=some t/\u=o6 R v)\/(d≠some t/\get (rI st NL).env t=some u):=by
  intro t u SN;have ht:(dr (aR (⟨st.env,st.heap,s'⟩:St σ) (cL tb d v h'))).env t=some u:=SN;clear SN;rw[UL,JV,B3,kP,kP]at ht
  cases d with
  | none=>
   simp only[bz,cA,yB,Cb]at ht;exact .inr ⟨by simp,ht⟩
  | some d=>
   simp only[bz,cA,gJ,yB,Cb]at ht;split at ht
   ·rename_i e1;cases ht;exact .inl ⟨by rw[e1],rfl⟩
   ·rename_i e1;exact .inr ⟨by simpa using Ne.symm e1,ht⟩
 have DA:∀ y o,get (aR (⟨st.env,st.heap,s'⟩:St σ) (cL tb d v h')).heap y=some o->(∃ i o0,((1000000<=i/\i<1000000+tb.length)\/i∈dG h')/\y=R i/\get h' i=some o0/\o=kf R o0)\/(y∉tb/\y∉NL/\get (rI st NL).heap y=some o):=by
  intro y o hy;have hy:(dr (aR (⟨st.env,st.heap,s'⟩:St σ) (cL tb d v h'))).heap y=some o:=hy;rw[UL,JV,B3,kP,kP]at hy;have hy:(cA (cA (dr (rI st NL)) (qd R h' (dG h'))) (lU R h' 1000000 tb)).heap y=some o:=by
   cases d with
   | none=>exact hy
   | some d=>exact hy
  rcases AP R h' tb 1000000 _ y o hy with⟨k,o0,k1,k2,k3⟩|⟨k1,k2⟩
  ·have hk:k<tb.length:=(List.getElem?_eq_some_iff.1 k1).1
   exact .inl ⟨1000000+k,o0,.inl ⟨by omega,by omega⟩,(nb k y k1).symm,k2,k3⟩
  ·rcases Ea R h' (dG h') _ y o (fun i hi=>vG hi) k2 with⟨i,o0,j1,j2,j3,j4⟩|⟨j1,j2⟩
   ·exact .inl ⟨i,o0,.inr j1,j2,j3,j4⟩
   ·exact .inr ⟨k1,j1,j2⟩
 have rest:∀ y o,y∉tb->y∉NL->get (rI st NL).heap y=some o->aV L y o->¬ ug (L.ρ y):=by
  intro y o h1 h2 hy hb Ls;obtain⟨i,o',hi,mq,mW⟩:=(Nf _).1 Ls;obtain⟨k,id,g1,g2,g3,g4⟩:=Rf i o' hi;have UR:id∉NL:=b4 _ (List.mem_of_getElem? g2);have Ze:get (rI st NL).heap id=some (pY NL (kf R o')):=by
   rw[nh,if_neg UR,g4];rfl
  have pa:aV L id (kf R o'):=by rw[<- g3];exact(cG (R:=R) (L:=⟨fun i=>L.ρ (R i),fun i=>L.κ (R i)⟩) (L':=L) i o' rfl).2 mq
  have N8:∀ (l:List Nat) (p:Obj),aV L id p->aV L id (pY l p):=by
   intro l
   induction l with
   | nil=>exact fun p hp=>hp
   | cons i r ih=>exact fun p hp=>ih _ ((eT L i id p).2 hp)
  have:=eo.heap.inj id y _ o Ze hy (N8 NL _ pa) hb (by rw[<- g3];exact mW);subst this;exact h1 (List.mem_of_getElem? g2)
 have mY:(aR (⟨st.env,st.heap,s'⟩:St σ) (cL tb d v h')).s=s':=dM _ _;have trk:Tr F w F' w':=tr;refine⟨L2,⟨by rw[mY];exact zF,fun b hb=>rS b (by rw[<- mY];exact hb),yi,?_,?_,?_⟩,?_,?_,?_,hg.vD,?_,?_,?_⟩
 ·intro y o hy
  rcases DA y o hy with⟨i,o0,hi,rfl,h2,rfl⟩|⟨h1,h2,h3⟩
  ·have:=pc i o0 h2
   refine(cb.o6 (R:=R) (L:=L') (L':=L2) i o0 (fun j hj=>uf j (b5 j ((bj h2).2 j (fu j o0 hj)))) (uf i hi)).2 this
  ·refine cb.mono tr y o (fun j hj=>pk j fun hm=>(Vh j (.inl hm)).heap y o h3 hj) (pk y h2) (fun hb=>?_) (eo.heap.obj y o h3)
   exact(im _ ((eo.heap.obj y o h3).lt hb) (rest y o h1 h2 h3 hb) (by rw[<- rV];exact(eo.heap.own y o h3 hb).2)).1
 ·intro y o hy hb
  rcases DA y o hy with⟨i,o0,hi,rfl,h2,rfl⟩|⟨h1,h2,h3⟩
  ·have kS:aV L' i o0:=(cG (R:=R) (L:=L') (L':=L2) i o0 (uf i hi).2).1 hb
   obtain⟨k1,k2,_⟩:=DF i o0 h2 kS;rw[(uf i hi).1];exact⟨k1,by rw[mY];exact k2⟩
  ·have kS:aV L y o:=fH (pk y h2).2 hb
   obtain⟨k1,k2⟩:=eo.heap.own y o h3 kS;rw[(pk y h2).1];rw[rV]at k2;have dN:=(eo.heap.obj y o h3).lt kS;have hr:=rest y o h1 h2 h3 kS;exact⟨(im _ dN hr k2).2.trans k1,by rw[mY];exact Ds _ dN hr k2⟩
 ·intro y z o p hy hz Hr W2 Nu
  have out:∀ y o,y∉tb->y∉NL->get (rI st NL).heap y=some o->aV L2 y o->aV L y o/\(L.ρ y<w.heap.size/\¬ ug (L.ρ y))/\L2.ρ y=L.ρ y:=by
   intro y o h1 h2 h3 hb;have kS:aV L y o:=fH (pk y h2).2 hb;exact⟨kS,⟨(eo.heap.obj y o h3).lt kS,rest y o h1 h2 h3 kS⟩,(pk y h2).1⟩
  rcases DA y o hy with⟨i,o0,hi,rfl,h2,rfl⟩|⟨h1,h2,h3⟩<;>rcases DA z p hz with⟨j,p0,hj,rfl,g2,rfl⟩|⟨g1,g2,g3⟩
  ·have pa:aV L' i o0:=(cG (R:=R) (L:=L') (L':=L2) i o0 (uf i hi).2).1 Hr
   have mn:aV L' j p0:=(cG (R:=R) (L:=L') (L':=L2) j p0 (uf j hj).2).1 W2;rw[(uf i hi).1,(uf j hj).1]at Nu;rw[Rh i j o0 p0 h2 g2 pa mn Nu]
  ·exfalso
   have pa:aV L' i o0:=(cG (R:=R) (L:=L') (L':=L2) i o0 (uf i hi).2).1 Hr;obtain⟨q1,q2,q3⟩:=out z p g1 g2 g3 W2;rw[(uf i hi).1,q3]at Nu;exact q2.2 (by rw[<- Nu];exact(DF i o0 h2 pa).2.2 (by rw[Nu];exact q2.1))
  ·exfalso
   have mn:aV L' j p0:=(cG (R:=R) (L:=L') (L':=L2) j p0 (uf j hj).2).1 W2;obtain⟨q1,q2,q3⟩:=out y o h1 h2 h3 Hr;rw[(uf j hj).1,q3]at Nu;exact q2.2 (by rw[Nu];exact(DF j p0 g2 mn).2.2 (by rw[<- Nu];exact q2.1))
  ·obtain⟨q1,q2,q3⟩:=out y o h1 h2 h3 Hr
   obtain⟨q4,q5,q6⟩:=out z p g1 g2 g3 W2;rw[q3,q6]at Nu;exact eo.heap.inj y z o p h3 g3 q1 q4 Nu
 ·intro t u ht
  rcases Zl t u ht with⟨rfl,rfl⟩|⟨h1,h2⟩
  ·refine⟨x,?_,?_⟩
   ·simp[Act.put,Array.getElem?_setIfInBounds,hd t rfl]
   ·exact(bg.o6 (R:=R) (L:=L') (L':=L2) v x fun j hj=>uf j (b6 j (jd j v hj))).2 hv
  ·obtain⟨y,hy,DN⟩:=eo.env t u h2
   refine⟨y,?_,bg.mono tr u y (fun j hj=>pk j fun hm=>(Vh j (.inl hm)).env t u h2 hj) DN⟩
   cases d with
   | none=>exact hy
   | some d=>
    simp only[Act.put];rw[Array.getElem?_setIfInBounds_ne (by rintro rfl;exact h1 rfl)];exact hy
 ·cases d with
  | none=>exact hg.sR
  | some d=>exact hg.sR
 ·intro b hb
  obtain⟨k1,k2⟩:=hg.pg b hb;have nt:¬ ug b:=?_
  ·refine⟨?_,by rw[mY];exact Ds b (cf k1) nt k2⟩
   rw[(im b (cf k1) nt k2).1];exact k1
  intro Ls;obtain⟨i,o,hi,jn,rfl⟩:=(Nf _).1 Ls;have:=K8 i o hi
  cases o with
  | box c=>obtain⟨c',T,hc,_⟩:=this;rw[k1]at hc;cases hc
  | arr sz es=>
   obtain⟨_,_,h⟩:=this;rcases h with⟨_,hk⟩|⟨c,T,hc,_⟩
   ·exact jn hk
   ·rw[k1]at hc;cases hc
  | map cJ=>obtain⟨en,c,hc,_⟩:=this;rw[k1]at hc;cases hc
  | iter s n=>have hc:w.heap[L.ρ (R i)]?=_:=this;rw[k1]at hc;cases hc
  | buf t s=>obtain⟨_,hc,_⟩:=this;rw[k1]at hc;cases hc
  | tb t l=>obtain⟨_,hc,_⟩:=this;rw[k1]at hc;cases hc
  | mit v n l u=>obtain⟨_,_,_,hc,_⟩:=this;rw[k1]at hc;cases hc
 ·intro l hl
  obtain⟨lp,⟨k1,k0⟩,k2⟩:=hg.lk l hl;have nt:¬ ug l:=?_
  ·refine⟨lp,⟨?_,k0⟩,by rw[mY];exact Ds l (cf k1) nt k2⟩
   rw[(im l (cf k1) nt k2).1];exact k1
  intro Ls;obtain⟨i,o,hi,jn,rfl⟩:=(Nf _).1 Ls;have:=K8 i o hi
  cases o with
  | box c=>obtain⟨c',T,hc,_⟩:=this;rw[k1]at hc;cases hc
  | arr sz es=>
   obtain⟨_,_,h⟩:=this;rcases h with⟨_,hk⟩|⟨c,T,hc,_⟩
   ·exact jn hk
   ·rw[k1]at hc;cases hc
  | map cJ=>obtain⟨en,c,hc,_⟩:=this;rw[k1]at hc;cases hc
  | iter s n=>have hc:w.heap[L.ρ (R i)]?=_:=this;rw[k1]at hc;cases hc
  | buf t s=>obtain⟨_,hc,_⟩:=this;rw[k1]at hc;cases hc
  | tb t l=>obtain⟨_,hc,_⟩:=this;rw[k1]at hc;cases hc
  | mit v n l u=>obtain⟨_,_,_,hc,_⟩:=this;rw[k1]at hc;cases hc
 ·intro i hi
  have hn:i∉NL:=fun hm=>by have:=QV i hm;unfold pinned at hi;omega
  rw[(pk i hn).1,(pk i hn).2];exact hg.jy i hi
 ·rw[fw];exact hg.ud
theorem uA{σ:Type}{cx:Cx σ}{r:Option Nat}{m:List Nat}{L:Loc}{F:Nat->Nat}{st:St σ}{a:Act}{w:World}{tb:List Nat}{R:Nat->Nat}{h h0:Heap}(hh:dB h st.heap)(e8:jr R h 1000000 tb h0)
  (nb:∀ k id,tb[k]?=some id->R (1000000+k)=id) (sx:tb.Nodup) (hg:Good cx r m L F st a w) :
  aZ cx ⟨fun i=>L.ρ (R i),fun i=>L.κ (R i)⟩ F h0 st.s w:=by
 have Rf:=HP hh e8 nb;refine⟨hg.heap.hg,hg.heap.iw,hg.heap.fresh,fun i o hi=>?_,fun i o hi jn=>?_,fun i j o p hi hj mq jx mW=>?_⟩
 ·obtain⟨k,id,rfl,h2,h3,h4⟩:=Rf i o hi
  have:=hg.heap.obj id _ h4;rw[<- h3]at this;exact(cb.o6 (R:=R) (L:=⟨fun i=>L.ρ (R i),fun i=>L.κ (R i)⟩) (L':=L) (1000000+k) o (fun _ _=>⟨rfl,rfl⟩) ⟨rfl,rfl⟩).1 this
 ·obtain⟨k,id,h1,h2,h3,h4⟩:=Rf i o hi
  have kS:aV L id (kf R o):=by rw[<- h3];exact(cG (R:=R) (L:=⟨fun i=>L.ρ (R i),fun i=>L.κ (R i)⟩) (L':=L) i o rfl).2 jn
  obtain⟨k1,k2⟩:=hg.heap.own id _ h4 kS;rw[<- h3]at k1 k2;exact⟨k1,k2⟩
 ·obtain⟨k,id,h1,h2,h3,h4⟩:=Rf i o hi
  obtain⟨k',oA,CD,h2',h3',h4'⟩:=Rf j p hj;have pa:aV L id (kf R o):=by rw[<- h3];exact(cG (R:=R) (L:=⟨fun i=>L.ρ (R i),fun i=>L.κ (R i)⟩) (L':=L) i o rfl).2 mq
  have mn:aV L oA (kf R p):=by rw[<- h3'];exact(cG (R:=R) (L:=⟨fun i=>L.ρ (R i),fun i=>L.κ (R i)⟩) (L':=L) j p rfl).2 jx
  have mW:L.ρ (R i)=L.ρ (R j):=mW;have:=hg.heap.inj id oA _ _ h4 h4' pa mn (by rw[<- h3,<- h3'];exact mW);subst this;rw[h1,CD,uM sx h2 h2']
def B9{σ:Type}(cx:Cx σ)(s0:σ)(w:World)(F:Nat->Nat)(ug:Nat->Prop):Cx σ where
 C:=fun s b=>cx.C s b\/(b<w.heap.size/\¬ ug b)
 HG:=fun s w' F'=>cx.HG s w' F'/\w.heap.size<=w'.heap.size/\(∀ b,b<w.heap.size->¬ cx.C s0 b->¬ cx.C s b) /\ ∀ b,b<w.heap.size->¬ ug b->¬ cx.C s0 b->w'.heap[b]?=w.heap[b]?/\F' b=F b
 yv:=cx.yv
 A2:=cx.A2
 pρ:=cx.pρ
 pκ:=cx.pκ
 fS:=by
  rintro s w1 F1 w2 F2 ⟨h1,h0,h2,h3⟩ tr hf hk;refine⟨cx.fS h1 tr hf fun b hb=>hk b (.inl hb),Nat.le_trans h0 tr.size,h2,fun b hb hl hc=>?_⟩;obtain⟨k1,k2⟩:=hk b (.inr ⟨hb,hl⟩);obtain⟨k3,k4⟩:=h3 b hb hl hc;exact⟨k1.trans k3,k2.trans k4⟩
theorem lT{σ:Type}{P:Program}{Y:Hd σ}{cx:Cx σ}{s0:σ}{w:World}{F:Nat->Nat}{ug:Nat->Prop}(hY:ct P Y cx):ct P Y (B9 cx s0 w F ug):=by
 refine⟨?_,fun s w F hh=>hY.laid s w F hh.1⟩;intro l hl args h s Q hy L1 F1 aT w1 hh hr;obtain⟨zF,dc,Ds,im⟩:=hh.hg;obtain⟨fn,tmps,zq,body,h1,h2⟩:=hY.yld l hl args h s Q hy L1 F1 aT w1 ⟨zF,fun b hb=>hh.iw b (.inl hb),hh.fresh,hh.obj,fun id o ho hb=>⟨(hh.own id o ho hb).1,fun hC=>(hh.own id o ho hb).2 (.inl hC)⟩,hh.inj⟩ hr;refine⟨fn,tmps,zq,body,h1,h2.mono ?_⟩;rintro e w' ⟨x,he,v,h',s',L',F',hq,mc,hv,tr,jy,k1,k2,k3⟩;have fF:∀ b,b<w.heap.size->¬ ug b->b<w1.heap.size /\ ∀ id o,get h id=some o->aV L1 id o->L1.ρ id≠b:=fun b hb hl=>
  ⟨hh.iw b (.inr ⟨hb,hl⟩),fun id o ho jn e=>(hh.own id o ho jn).2 (.inr ⟨by rw[e];exact hb,by rw[e];exact hl⟩)⟩
 refine⟨x,he,v,h',s',L',F',hq,⟨⟨mc.hg,Nat.le_trans dc tr.size,fun b hb hc=>k1 b (Nat.lt_of_lt_of_le hb dc) (Ds b hb hc),fun b hb hl hc=>?_⟩,fun b hb=>?_,mc.fresh,mc.obj,fun id o ho hb=>⟨(mc.own id o ho hb).1,fun hC=>?_⟩,mc.inj⟩,hv,tr,jy,fun b hb hC K7=>?_,fun b hb hC=>k2 b hb (fun h=>hC (.inl h)),k3⟩
 ·obtain⟨p1,p2⟩:=fF b hb hl
  obtain⟨q1,q2⟩:=im b hb hl hc;obtain⟨r1,r2⟩:=k2 b p1 (Ds b hb hc) p2;exact⟨r1.trans q1,r2.trans q2⟩
 ·rcases hb with hb|⟨hb,hl⟩
  ·exact mc.iw b hb
  ·exact Nat.lt_of_lt_of_le (fF b hb hl).1 tr.size
 ·rcases hC with hC|⟨c1,c2⟩
  ·exact(mc.own id o ho hb).2 hC
  ·obtain⟨p1,p2⟩:=fF _ c1 c2
   obtain⟨oA,o',zJ,kS,e⟩:=k3 id o ho hb p1;exact p2 oA o' zJ kS e
 ·rcases K7 with K7|K7
  ·exact k1 b hb (fun h=>hC (.inl h)) K7
  ·exact hC (.inr K7)
theorem CX{σ:Type}{P:Program}{Y:Hd σ}{f:FuncId}{args0:List V}{h0:Heap}{Q:V->Heap->σ->Prop}{cx:Cx σ}{r:Option Nat}{m:List Nat}{L:Loc}{F:Nat->Nat}{st:St σ}{a:Act}{w:World}(hf:Nx P Y f args0 h0 st.s Q)
  (tb:List Nat) {h:Heap} {d:Option Nat} {args:List V} (dx:tN (eU tb (d.getD 0)) args0=args) (e8:jr (eU tb (d.getD 0)) h 1000000 tb h0) (sx:nodupB tb=true) (yl:Nat.ble tb.length 1000=true)
  (hY:ct P Y cx) (hh:dB h st.heap) (hg:Good cx r m L F st a w) (hd:∀ k,d=some k->k<a.tmps.size) {aT:Array Value} (hr:aq cx.yv L F w args aT.toList) :
  CallsIn Fence.wide 0 P f aT w fun e w'=>∃ x,e = .returned x /\ ∃ v h' s',Q v h' s'/\(gG tb d v h'=true -> ∃ L2 F',Good cx r m L2 F' (aR ⟨st.env,st.heap,s'⟩ (cL tb d v h')) (a.put d x) w'/\Tr F w F' w'):=by
 have sx:=gX sx;have yl:=Nat.le_of_ble_eq_true yl;obtain⟨R,hR⟩:∃ R,R=eU tb (d.getD 0):=⟨_,rfl⟩;have nb:∀ k id,tb[k]?=some id->R (1000000+k)=id:=fun k id hk=>by rw[hR];exact od hk yl
 rw[<- hR]at dx e8;subst dx;have hH:=uA hh e8 nb sx hg;have Fq:aZ (B9 cx st.s w F (xa R L h0)) ⟨fun i=>L.ρ (R i),fun i=>L.κ (R i)⟩ F h0 st.s w:=
  ⟨⟨hg.heap.hg,Nat.le_refl _,fun b hb hc=>hc,fun b hb hl hc=>⟨rfl,rfl⟩⟩,fun b hb=>hb.elim (hg.heap.iw b) (fun h=>h.1),hH.fresh,hH.obj,fun i o hi jn=>⟨(hH.own i o hi jn).1,fun hC=>hC.elim (hH.own i o hi jn).2 fun hC=>hC.2 ⟨i,o,hi,jn,rfl⟩⟩,hH.inj⟩
 have uz:aq cx.yv ⟨fun i=>L.ρ (R i),fun i=>L.κ (R i)⟩ F w args0 aT.toList:=(aq.o6 (R:=R) args0 _ fun _ _=>⟨rfl,rfl⟩).1 hr;have ea:=hf.run _ (lT hY) _ F aT w Fq uz;refine ea.mono ?_;rintro en w' ⟨x,rfl,v,h',s',L',F',hq,qA,hv,tr,jy⟩;refine⟨x,rfl,v,h',s',hq,fun hB=>?_⟩;obtain⟨zF,_,Ds,im⟩:=qA.hg;obtain⟨L2,gC⟩:=ov hB hR.symm hh e8 hg hd zF (fun b hb=>qA.iw b (.inl hb)) (fun b hb hl hc=>Ds b hb hc) im qA.fresh qA.obj
  (fun i o hi hb=>⟨(qA.own i o hi hb).1,fun hC=>(qA.own i o hi hb).2 (.inl hC),fun dN=>Classical.byContradiction fun hl=>(qA.own i o hi hb).2 (.inr ⟨dN,hl⟩)⟩)
  qA.inj hv tr jy
 exact⟨L2,F',gC,tr⟩
theorem r8{P:Program}{f:FuncId}{args0:List V}{h0:Heap}{v0:V}{h1:Heap}(hf:o9 P f args0 h0 fun v h'=>v=v0/\h'=h1)(tb:List Nat){e:Env}{h:Heap}{d:Option Nat}{args:List V}
  (dx:tN (eU tb (d.getD 0)) args0=args) (e8:jr (eU tb (d.getD 0)) h 1000000 tb h0) (hB:gG tb d v0 h1=true):jR P e h d f args (cL tb d v0 h1):=by
 refine⟨(hf (σ:=Unit) { y:=fun _ _ _ _=>False } ()).enter,?_⟩;intro σ cx yk r m L F st a w aT he hh hg hd hr;have hB0:=hB;simp only[gG,Bool.and_eq_true]at hB0;obtain⟨⟨⟨⟨⟨⟨⟨⟨⟨b1,b2⟩,b3⟩,b4⟩,b5⟩,b6⟩,b7⟩,b8⟩,b9⟩,_⟩:=hB0;refine(CX (hf ({ y:=fun _ _ _ _=>False }:Hd σ) st.s) tb dx e8 b1 b9 ⟨fun _ _ _ _ _ _ hy=>hy.elim,yk⟩ hh hg hd hr).mono ?_;rintro en w' ⟨x,rfl,v,h',s',⟨⟨rfl,rfl⟩,rfl⟩,hk⟩;obtain⟨L2,F',gC,tr⟩:=hk hB;exact⟨x,rfl,L2,F',gC,tr⟩
theorem Ky{σ:Type}{P:Program}{Y:Hd σ}{f:FuncId}{args0:List V}{h0:Heap}{s:σ}{Q:V->Heap->σ->Prop}(hf:Nx P Y f args0 h0 s Q)(tb:List Nat){e:Env}{h:Heap}{d:Option Nat}{args:List V}{K:St σ->Prop}
  (dx:tN (eU tb (d.getD 0)) args0=args) (e8:jr (eU tb (d.getD 0)) h 1000000 tb h0) (sx:nodupB tb=true) (yl:Nat.ble tb.length 1000=true)
  (hq:∀ v h1 s',Q v h1 s'->gG tb d v h1=true/\K (aR ⟨e,h,s'⟩ (cL tb d v h1))):dO P Y ⟨e,h,s⟩ d f args K:=by
 refine⟨hf.enter,fun cx hY r m L F a w aT hg hd hr=>?_⟩;refine(CX (st:=⟨e,h,s⟩) hf tb dx e8 sx yl hY (fun _ _ h=>h) hg hd hr).mono ?_;rintro en w' ⟨x,rfl,v,h',s',hv,hk⟩;obtain⟨hB,hK⟩:=hq _ _ _ hv;obtain⟨L2,F',gC,tr⟩:=hk hB;exact .inl ⟨x,rfl,_,L2,F',hK,gC,tr⟩
theorem Ph{σ:Type}{P:Program}{Y:Hd σ}{args0:List V}{h0:Heap}{s:σ}{Q:V->Heap->σ->Prop}(tb:List Nat){e:Env}{h:Heap}{d:Option Nat}{args:List V}{K:St σ->Prop}(hy:Y.y args0 h0 s Q)
  (dx:tN (eU tb (d.getD 0)) args0=args) (e8:jr (eU tb (d.getD 0)) h 1000000 tb h0) (sx:nodupB tb=true) (yl:Nat.ble tb.length 1000=true)
  (hq:∀ v h1 s',Q v h1 s'->gG tb d v h1=true/\K (aR ⟨e,h,s'⟩ (cL tb d v h1))):Qy P Y ⟨e,h,s⟩ d args K:=by
 refine⟨fun cx hY l hl r m L F a w aT hg hd hr=>?_⟩;have sx:=gX sx;have yl:=Nat.le_of_ble_eq_true yl;obtain⟨R,hR⟩:∃ R,R=eU tb (d.getD 0):=⟨_,rfl⟩;have nb:∀ k id,tb[k]?=some id->R (1000000+k)=id:=fun k id hk=>by rw[hR];exact od hk yl
 rw[<- hR]at dx e8;subst dx;have hH:=uA (st:=⟨e,h,s⟩) (fun _ _ h=>h) e8 nb sx hg;obtain⟨fn,tmps,zq,body,h1,h2⟩:=hY.yld l hl args0 h0 s Q hy ⟨fun i=>L.ρ (R i),fun i=>L.κ (R i)⟩ F aT w hH ((aq.o6 (R:=R) args0 _ fun _ _=>⟨rfl,rfl⟩).1 hr);refine⟨fn,tmps,zq,body,h1,h2.mono ?_⟩;rintro en w' ⟨x,rfl,v,h',s',L',F',hv,qA,DM,tr,jy,k1,k2,k3⟩;obtain⟨hB,hK⟩:=hq _ _ _ hv;have nt:∀ b,¬ xa R L h0 b -> ∀ id o,get h0 id=some o->aV ⟨fun i=>L.ρ (R i),fun i=>L.κ (R i)⟩ id o->L.ρ (R id)≠b:=fun b hb id o ho jn e=>hb ⟨id,o,ho,jn,e⟩;obtain⟨L2,gC⟩:=ov (st:=⟨e,h,s⟩) hB hR.symm (fun _ _ h=>h) e8 hg hd qA.hg qA.iw (fun b hb hl hc=>k1 b hb hc) (fun b hb hl hc=>k2 b hb hc (nt b hl)) qA.fresh qA.obj
  (fun i o hi hb=>⟨(qA.own i o hi hb).1,(qA.own i o hi hb).2,fun dN=>by
   obtain⟨oA,o',zJ,kS,e'⟩:=k3 i o hi hb dN;exact⟨oA,o',zJ,kS,e'⟩⟩)
  qA.inj DM tr jy
 exact⟨x,rfl,_,L2,F',hK,gC,tr⟩
section
variable {P : Program} {T : e7} {σ : Type} {Y : Hd σ} {e : Env} {h : Heap} {s : σ} {d : Option Nat} {f : FuncId} {args : List V}
theorem qu{ws:List Wr}(ho:jR P e h d f args ws){K:St σ->Prop}(hk:bw ws e h fun e h=>K ⟨e,h,s⟩):dO P Y ⟨e,h,s⟩ d f args K:=by
 refine⟨ho.1,fun cx hY r m L F a w aT hg hd hr=>(ho.2 cx hY.laid r m L F ⟨e,h,s⟩ a w aT (fun _ _ h=>h) (fun _ _ h=>h) hg hd hr).mono ?_⟩;rintro en w' ⟨x,rfl,L',F',dp,tr⟩;rw[cU s]at hk;have hs:(aR (⟨e,h,s⟩:St σ) ws).s=s:=dM _ _;refine .inl ⟨x,rfl,_,L',F',?_,dp,tr⟩;generalize aR (⟨e,h,s⟩:St σ) ws=st at hk hs;obtain⟨e1,h1,s1⟩:=st;simp only at hs;subst hs;exact hk
theorem aY{args0:List V}{h0:Heap}{v0:V}{h1:Heap}(hf:o9 P f args0 h0 fun v h'=>v=v0/\h'=h1)(tb:List Nat)(dx:tN (eU tb (d.getD 0)) args0=args)
  (e8:jr (eU tb (d.getD 0)) h 1000000 tb h0) (hB:gG tb d v0 h1=true) {K:St σ->Prop} (hk:bw (cL tb d v0 h1) e h fun e h=>K ⟨e,h,s⟩):dO P Y ⟨e,h,s⟩ d f args K:=
 qu (r8 hf tb dx e8 hB) hk
theorem cE{args0:List V}{h0:Heap}{v0:V}{h1:Heap}(hf:o9 P f args0 h0 fun v h'=>v=v0/\h'=h1)(tb:List Nat)(dx:tN (eU tb (d.getD 0)) args0=args)
  (e8:jr (eU tb (d.getD 0)) h 1000000 tb h0) (hB:gG tb d v0 h1=true) {K:List Wr->Prop} (hk:K (cL tb d v0 h1)):ef P e h d f args K:=
 ⟨_,hk,r8 hf tb dx e8 hB⟩
end
inductive DO where
 | box (l:List D)
 | arr (sz:Nat) (l:List (List D))
 | map (l:List (D×D))
mutual
def dA(g:Nat->Option DO):V->Option D
 | .d v=>some v
 | .agg cs=>match cI g cs with
  | some l=>some (.agg l)
  | none=>none
 | .tup cs=>match cI g cs with
  | some l=>some (.tup l)
  | none=>none
 | .clo f cs=>match cI g cs with
  | some l=>some (.clo f l)
  | none=>none
 | .ptr id off=>match g id with
  | some (.box l)=>some (.ref (l.drop off))
  | _=>none
 | .sl id sz off len=>match g id with
  | some (.arr m l)=>match Nat.beq m sz,Nat.ble (off+len) l.length with
   | true,true=>some (.vs ((l.drop off).take len))
   | _,_=>none
  | _=>none
 | .mp id=>match g id with
  | some (.map cJ)=>some (.mv cJ)
  | _=>none
 | .ep _ _ _ _=>none
 | .it _=>none
 | .yld=>none
 | .unk=>none
def cI(g:Nat->Option DO):List V->Option (List D)
 | []=>some []
 | v::r=>match dA g v,cI g r with
  | some a,some l=>some (a::l)
  | _,_=>none
end
def gn(g:Nat->Option DO):List (List V)->Option (List (List D))
 | []=>some []
 | v::r=>match cI g v,gn g r with
  | some a,some l=>some (a::l)
  | _,_=>none
def ek(h:Heap):Nat->Nat->Option DO
 | 0,_=>none
 | n+1,id=>match get h id with
  | some (.box (.dd l))=>some (.box l)
  | some (.box (.vv l))=>match cI (ek h n) l with
   | some l=>some (.box l)
   | none=>none
  | some (.arr sz (.dd l))=>some (.arr sz l)
  | some (.arr sz (.vv l))=>match gn (ek h n) l with
   | some l=>some (.arr sz l)
   | none=>none
  | some (.map cJ)=>some (.map cJ)
  | _=>none
def sO(w:World)(b:Nat):Nat:=
 match w.heap[b]? with
 | some (.cells c _ _)=>c.size
 | some (.map _ _)=>1
 | _=>0
open Classical in
noncomputable def eZ(L:Loc)(F:Nat->Nat)(h:Heap)(w:World):Nat->Nat:=fun b=>if ∃ id o,get h id=some o/\aV L id o/\L.ρ id=b then sO w b else F b
section
variable {σ : Type} {cx : Cx σ} {L : Loc} {F : Nat -> Nat} {h : Heap} {s : σ} {w : World}
theorem nq{id:Nat}{o:Obj}(hi:get h id=some o)(hb:aV L id o):eZ L F h w (L.ρ id)=sO w (L.ρ id):=if_pos ⟨id,o,hi,hb,rfl⟩
theorem gb{b:Nat}(hb:¬ ∃ id o,get h id=some o/\aV L id o/\L.ρ id=b):eZ L F h w b=F b:=if_neg hb
theorem IH(hh:aZ cx L F h s w)(b:Nat):F b<=eZ L F h w b:=by
 by_cases hb:∃ id o,get h id=some o/\aV L id o/\L.ρ id=b
 ·obtain⟨id,o,hi,jn,rfl⟩:=hb
  rw[(hh.own id o hi jn).1];exact Nat.zero_le _
 ·rw[gb hb];exact Nat.le_refl _
theorem nn(hh:aZ cx L F h s w){b:Nat}(hC:cx.C s b):eZ L F h w b=F b:=
 gb fun⟨id,o,hi,hb,e⟩=>(hh.own id o hi hb).2 (by rw[e];exact hC)
theorem gz(hh:aZ cx L F h s w):Tr F w (eZ L F h w) w:=
 ⟨rfl,rfl,rfl,Nat.le_refl _,IH hh,fun _ _ _=>rfl,fun _ _ _ _ h=>h⟩
theorem fm(hh:aZ cx L F h s w)(b:Nat)(hb:w.heap.size<=b):eZ L F h w b=0:=by
 by_cases h1:∃ id o,get h id=some o/\aV L id o/\L.ρ id=b
 ·obtain⟨id,o,hi,jn,rfl⟩:=h1
  have:=(hh.obj id o hi).lt jn;omega
 ·rw[gb h1];exact hh.fresh b hb
theorem AB(hh:aZ cx L F h s w):aZ cx L (eZ L F h w) [] s w:=
 ⟨cx.fS hh.hg (gz hh) (fm hh) fun b hb=>⟨rfl,nn hh hb⟩,hh.iw,fm hh,(fun id o hi=>by cases hi),(fun id o hi=>by cases hi),(fun i j o p hi=>by cases hi)⟩
def xd(yv:Option Nat)(L:Loc)(F:Nat->Nat)(w:World)(id:Nat):DO->Prop
 | .box l=>cR F w (L.ρ id) 0 l
 | .arr sz l=>dj sz l/\((l = []/\L.κ id=0)\/(cR F w (L.ρ id) 0 l.flatten))
 | .map cJ=>∃ en c,0<F (L.ρ id)/\w.heap[L.ρ id]?=some (.map en c)/\bW F w cJ en.toList
theorem dz.of_flat{F:Nat->Nat}{w:World}{b sz:Nat}:∀ {es:List (List D)} {off:Nat},dj sz es->cR F w b off es.flatten->dz F w b off sz es
 | [],_,_,_=>trivial
 | e::r,off,hl,h=>by
  have he:=hl e (List.mem_cons_self ..);have RH:∀ {a c:List D} {off:Nat},cR F w b off (a++c)->cR F w b off a/\cR F w b (off+a.length) c:=by
   intro a
   induction a with
   | nil=>exact fun h=>⟨trivial,h⟩
   | cons x r ih=>
    intro c off h;obtain⟨h1,h2,h3⟩:=h;obtain⟨h4,h5⟩:=ih h3;refine⟨⟨h1,h2,h4⟩,?_⟩
    rwa [show off+(x::r).length=off+1+r.length by simp;omega]
  rw[List.flatten_cons]at h;obtain⟨h1,h2⟩:=RH h;rw[he]at h2;exact⟨he,h1,dz.of_flat (fun x hx=>hl x (List.mem_cons_of_mem _ hx)) h2⟩
theorem cR.qe{F:Nat->Nat}{w:World}{b:Nat}:∀ {cs:List D} {off:Nat} {l:List Value},bc F w cs l->(∀ i x,l[i]?=some x->off+i<F b/\w.cell? ⟨b,off+i,none⟩=some x)->cR F w b off cs
 | [],_,_,_,_=>trivial
 | c::r,off,_,h,hc=>by
  obtain⟨x,l',rfl,h1,h2⟩:=h;obtain⟨k1,k2⟩:=hc 0 x (by simp);refine⟨by simpa using k1,⟨x,by simpa using k2,h1⟩,cR.qe h2 fun i y hy=>?_⟩;have:=hc (i+1) y (by simpa using hy)
  rwa [show off+(i+1)=off+1+i by omega]at this
mutual
theorem Ib{g:Nat->Option DO}{F1:Nat->Nat}{yv:Option Nat}{L:Loc}{F:Nat->Nat}{w:World}(tr:Tr F w F1 w)(hg:∀ id o,g id=some o->xd yv L F1 w id o):∀ (v:V) (x:Value) (d:D),dA g v=some d->bg yv L F w v x->bM F1 w d x
 | .d v,x,d,hv,hr=>by
  simp only[dA,Option.some.injEq]at hv;subst hv;exact bM.mono tr _ _ hr
 | .agg cs,x,d,hv,hr=>by
  simp only[dA]at hv;split at hv
  ·rename_i l hl
   cases hv;obtain⟨a,rfl,ha⟩:=hr;exact⟨a,rfl,jW tr hg cs _ l hl ha⟩
  ·cases hv
 | .tup cs,x,d,hv,hr=>by
  simp only[dA]at hv;split at hv
  ·rename_i l hl
   cases hv;obtain⟨a,rfl,ha⟩:=hr;exact⟨a,rfl,jW tr hg cs _ l hl ha⟩
  ·cases hv
 | .clo f cs,x,d,hv,hr=>by
  simp only[dA]at hv;split at hv
  ·rename_i l hl
   cases hv;obtain⟨a,rfl,ha⟩:=hr;exact⟨a,rfl,jW tr hg cs _ l hl ha⟩
  ·cases hv
 | .ptr id off,x,d,hv,hr=>by
  simp only[dA]at hv;split at hv
  ·rename_i l hl
   cases hv;have tY:cR F1 w (L.ρ id) 0 l:=hg id _ hl;have tY:=cR.drop off tY;rw[Nat.zero_add]at tY;exact⟨L.ρ id,off,hr,tY⟩
  ·cases hv
 | .sl id sz off len,x,d,hv,hr=>by
  simp only[dA]at hv;split at hv;case h_2=>cases hv
  rename_i m l hl;split at hv;case h_2=>cases hv
  rename_i hm hlen;cases hv;have hm:=Nat.eq_of_beq_eq_true hm;subst hm;have hlen:=Nat.le_of_ble_eq_true hlen;obtain⟨a,cap,rfl,h1,h2,h3⟩:=hr;obtain⟨ZK,Od⟩:=hg id _ hl;refine⟨a,len,cap,rfl,by rw[List.length_take,List.length_drop];omega,h1,fun eW=>?_⟩;have Hy:len≠0:=by
   rintro rfl;simp at eW
  rcases h3 with⟨h3,_⟩|⟨h3,h4⟩
  ·exact absurd h3 Hy
  rcases Od with⟨rfl,_⟩|tY
  ·simp at eW
  ·refine⟨L.ρ id,off*m,m,h3,h2,?_⟩
   have fe:=dz.of_flat ZK tY;have fe:=dz.drop off fe;rw[Nat.zero_add]at fe;exact dz.take len fe
 | .mp id,x,d,hv,hr=>by
  simp only[dA]at hv;split at hv
  ·rename_i l hl
   cases hv;obtain⟨en,c,h1,h2,h3⟩:=hg id _ hl;exact⟨L.ρ id,en,c,hr,h1,h2,h3⟩
  ·cases hv
 | .ep _ _ _ _,_,_,hv,_=>by simp[dA]at hv
 | .it _,_,_,hv,_=>by simp[dA]at hv
 | .yld,_,_,hv,_=>by simp[dA]at hv
 | .unk,_,_,hv,_=>by simp[dA]at hv
theorem jW{g:Nat->Option DO}{F1:Nat->Nat}{yv:Option Nat}{L:Loc}{F:Nat->Nat}{w:World}(tr:Tr F w F1 w)(hg:∀ id o,g id=some o->xd yv L F1 w id o):∀ (vs:List V) (l:List Value) (ds:List D),cI g vs=some ds->aq yv L F w vs l->bc F1 w ds l
 | [],l,ds,hv,hr=>by
  simp only[cI,Option.some.injEq]at hv;subst hv;exact hr
 | v::r,l,ds,hv,hr=>by
  simp only[cI]at hv;split at hv
  ·rename_i a m h1 h2
   cases hv;obtain⟨x,l',rfl,h3,h4⟩:=hr;exact⟨x,l',rfl,Ib tr hg v x a h1 h3,jW tr hg r l' m h2 h4⟩
  ·cases hv
end
theorem qp{g:Nat->Option DO}:∀ {es:List (List V)} {l:List (List D)},gn g es=some l->cI g es.flatten=some l.flatten/\l.length=es.length /\ ∀ sz,dj sz es->dj sz l
 | [],l,h=>by
  simp only[gn,Option.some.injEq]at h;subst h;exact⟨rfl,rfl,fun _ _ _ he=>by cases he⟩
 | e::r,l,h=>by
  simp only[gn]at h;split at h
  ·rename_i a m h1 h2
   cases h;obtain⟨k1,k2,k3⟩:=qp h2;have app:∀ {a b:List V} {x y:List D},cI g a=some x->cI g b=some y->cI g (a++b)=some (x++y)/\x.length=a.length:=by
    intro a
    induction a with
    | nil=>intro b x y h1 h2;simp only[cI,Option.some.injEq]at h1;subst h1;exact⟨h2,rfl⟩
    | cons v r ih=>
     intro b x y h1 h2;simp only[cI]at h1;split at h1
     ·rename_i p q h3 h4
      cases h1;obtain⟨k1,k2⟩:=ih h4 h2;refine⟨?_,by simp[k2]⟩;simp only[List.cons_append,cI,h3,k1]
     ·cases h1
   obtain⟨j1,j2⟩:=app h1 k1;refine⟨by simpa using j1,by simp[k2],fun sz hl x hx=>?_⟩;rcases List.mem_cons.1 hx with rfl|hx
   ·rw[j2];exact hl e (List.mem_cons_self ..)
   ·exact k3 sz (fun y hy=>hl y (List.mem_cons_of_mem _ hy)) x hx
  ·cases h
theorem og{w:World}{b:Nat}{c:Array Value}{T:TypeId}(h:w.heap[b]?=some (.cells c T (0,0))){i:Nat}{x:Value}(hx:c.toList[i]?=some x):i<sO w b/\w.cell? ⟨b,i,none⟩=some x:=by
 have hx:c[i]?=some x:=by simpa using hx
 have hi:=(Array.getElem?_eq_some_iff.1 hx).1;refine⟨by simp only[sO,h];exact hi,?_⟩;rw[cell_of_row _ _ _ _ _ _ h];simpa using hx
theorem oG(hh:aZ cx L F h s w):∀ (n:Nat) (id:Nat) (o:DO),ek h n id=some o->xd cx.yv L (eZ L F h w) w id o
 | 0,_,_,ho=>by cases ho
 | n+1,id,o,ho=>by
  have tr:=gz hh;simp only[ek]at ho;split at ho
  ·rename_i l hi
   cases ho;obtain⟨c,T,hc,hr⟩:=hh.obj id _ hi;have hr:bc F w l c.toList:=aq.inj.1 hr;refine cR.qe (bc.mono tr _ _ hr) fun i x hx=>?_;rw[Nat.zero_add,nq hi trivial];exact og hc hx
  ·rename_i l hi
   split at ho
   ·rename_i l' hl
    cases ho;obtain⟨c,T,hc,hr⟩:=hh.obj id _ hi;have hr:=jW tr (oG hh n) l _ l' hl hr;refine cR.qe hr fun i x hx=>?_;rw[Nat.zero_add,nq hi trivial];exact og hc hx
   ·cases ho
  ·rename_i sz l hi
   cases ho;obtain⟨h1,h2,h3⟩:=hh.obj id _ hi;have ZK:dj sz l:=fun e he=>by
    have:=h2 (inj e) (by rw[aK.bm,bV];exact List.mem_map_of_mem he)
    rwa [eC]at this
   refine⟨ZK,?_⟩;rcases h3 with⟨h3,h4⟩|⟨c,T,hc,hk,hn,hr⟩
   ·left
    rw[aK.bm,bV,List.map_eq_nil_iff]at h3;exact⟨h3,h4⟩
   ·by_cases DC:L.κ id=0
    ·left
     refine⟨?_,DC⟩;rw[hk,DC]at hn;rw[aK.bm,bV,List.length_map]at hn;have:l.length=0:=by
      rcases Nat.eq_zero_or_pos l.length with h|h
      ·exact h
      ·have:=Nat.mul_pos h h1;omega
     exact List.length_eq_zero_iff.1 this
    ·right
     rw[aK.bm,dt]at hr;have hr:=aq.inj.1 hr;refine cR.qe (bc.mono tr _ _ hr) fun i x hx=>?_;rw[Nat.zero_add,nq hi DC];rw[List.getElem?_take]at hx;split at hx
     ·exact og hc hx
     ·cases hx
  ·rename_i sz l hi
   split at ho;case h_2=>cases ho
   rename_i l' hl;cases ho;obtain⟨h1,h2,h3⟩:=hh.obj id _ hi;obtain⟨j1,j2,j3⟩:=qp hl;refine⟨j3 sz h2,?_⟩;rcases h3 with⟨h3,h4⟩|⟨c,T,hc,hk,hn,hr⟩
   ·left
    have h3:l = []:=h3;subst h3;exact⟨List.length_eq_zero_iff.1 j2,h4⟩
   ·by_cases DC:L.κ id=0
    ·left
     refine⟨?_,DC⟩;rw[hk,DC]at hn;have:l.length=0:=by
      rcases Nat.eq_zero_or_pos l.length with h|h
      ·exact h
      ·have:=Nat.mul_pos h h1
       have hn:l.length*sz<=0:=hn;omega
     exact List.length_eq_zero_iff.1 (by rw[j2];exact this)
    ·right
     have hr:=jW tr (oG hh n) l.flatten _ l'.flatten j1 hr;refine cR.qe hr fun i x hx=>?_;rw[Nat.zero_add,nq hi DC];rw[List.getElem?_take]at hx;split at hx
     ·exact og hc hx
     ·cases hx
  ·rename_i cJ hi
   cases ho;obtain⟨en,c,hc,hr⟩:=hh.obj id _ hi;refine⟨en,c,?_,hc,bW.mono tr _ _ hr.1⟩;rw[nq hi trivial];simp[sO,hc]
  ·cases ho
end
end Go.PX
namespace Go.PX
open Go.RowKit
def js(ds:List D):D:=
 match ds with
 | [x]=>x
 | l=>.tup l
theorem HZ{F:Nat->Nat}{w:World}{ds:List D}{aT:List Value}(h:bc F w ds aT):bM F w (js ds) (H0 aT):=by
 cases ds with
 | nil=>
  have:aT = []:=h;subst this;exact⟨#[],rfl,rfl⟩
 | cons a r=>
  obtain⟨x,l,rfl,hx,hl⟩:=h
  cases r with
  | nil=>
   have:l = []:=hl;subst this;exact hx
  | cons b r=>
   obtain⟨y,l',rfl,hy,kM⟩:=hl;refine⟨(x::y::l').toArray,rfl,?_⟩;exact⟨x,y::l',rfl,hx,y,l',rfl,hy,kM⟩
theorem ab{σ:Type}{l:List V}{h:Heap}{s:σ}{Q:V->Heap->σ->Prop}(n:Nat){ds:List D}(hv:cI (ek h n) l=some ds)(hq:Q (.d (js ds)) [] s):rD l h s Q:=by
 refine⟨fun cx L F aT w hh hr=>?_⟩;have tr:=gz hh;exact⟨_,[],L,eZ L F h w,hq,AB hh,HZ (jW tr (oG hh n) l aT ds hv hr),tr,fun _ _=>⟨rfl,rfl⟩⟩
def Sc(l:List V):V:=
 match l with
 | [x]=>x
 | l=>vC l
def fW(nk:List Nat)(i:Nat):Nat:=
 match Nat.blt i 2000000 with
 | true=>i
 | false=>match nk[i-2000000]? with
  | some k=>k
  | none=>0
def Fu(R:Nat->Nat)(h:Heap):Heap->Prop
 | []=>True
 | (i,o)::r=>get h (R i)=some (kf R o)/\Fu R h r
theorem j6{R:Nat->Nat}{h:Heap}:∀ {h1:Heap},Fu R h h1 -> ∀ i o,get h1 i=some o->get h (R i)=some (kf R o)
 | [],_,i,o,hi=>by cases hi
 | (k,p)::r,hh,i,o,hi=>by
  simp only[get]at hi;split at hi
  ·rename_i he
   have:=Nat.eq_of_beq_eq_true he;subst this;cases hi;exact hh.1
  ·exact j6 hh.2 i o hi
def cY:Heap->List Nat
 | []=>[]
 | (i,_)::r=>i::cY r
theorem lQ:∀ {h:Heap} {i:Nat} {o:Obj},get h i=some o->i∈cY h
 | [],i,o,h=>by cases h
 | (k,p)::r,i,o,h=>by
  simp only[get]at h;split at h
  ·rename_i he
   have:=Nat.eq_of_beq_eq_true he;subst this;simp[cY]
  ·simp[cY,lQ h]
theorem aC{σ:Type}{l:List V}{h:Heap}{s:σ}{Q:V->Heap->σ->Prop}(nk:List Nat)(l1:List V)(h1:Heap)(hl:tN (fW nk) l1=l)(Ln:Fu (fW nk) h h1)(tZ:nodupB ((cY h1).map (fW nk))=true)
  (hq:Q (Sc l1) h1 s):rD l h s Q:=by
 refine⟨fun cx L F aT w hh hr=>?_⟩;have hR:∀ i,pinned i->fW nk i=i:=fun i hi=>by
  unfold fW;rw[show Nat.blt i 2000000=true from Nat.ble_eq_true_of_le hi.2]
 generalize fW nk=R at hl Ln tZ hR;subst hl;have Rh:∀ i j,i∈cY h1->j∈cY h1->R i=R j->i=j:=by
  have hn:=gX tZ;intro i j hi hj mW;obtain⟨a,ha⟩:=List.mem_iff_getElem?.1 hi;obtain⟨b,hb⟩:=List.mem_iff_getElem?.1 hj;have k1:((cY h1).map R)[a]?=some (R i):=by rw[List.getElem?_map,ha];rfl
  have k2:((cY h1).map R)[b]?=some (R i):=by rw[List.getElem?_map,hb,mW];rfl
  have:=uM hn k1 k2;subst this;rw[ha]at hb;exact Option.some.inj hb
 have Rw:aq cx.yv ⟨fun i=>L.ρ (R i),fun i=>L.κ (R i)⟩ F w l1 aT:=(aq.o6 (R:=R) l1 _ fun _ _=>⟨rfl,rfl⟩).1 hr;refine⟨_,h1,⟨fun i=>L.ρ (R i),fun i=>L.κ (R i)⟩,F,hq,⟨hh.hg,hh.iw,hh.fresh,fun i o hi=>?_,fun i o hi hb=>?_,fun i j o p hi hj mq jx mW=>?_⟩,?_,Tr.refl F w,fun i hi=>by
  show L.ρ (R i)=L.ρ i/\L.κ (R i)=L.κ i;rw[hR i hi];exact⟨rfl,rfl⟩⟩
 ·exact(cb.o6 (R:=R) (L:=⟨fun i=>L.ρ (R i),fun i=>L.κ (R i)⟩) (L':=L) i o (fun _ _=>⟨rfl,rfl⟩) ⟨rfl,rfl⟩).1 (hh.obj _ _ (j6 Ln i o hi))
 ·exact hh.own _ _ (j6 Ln i o hi) ((cG (R:=R) (L:=⟨fun i=>L.ρ (R i),fun i=>L.κ (R i)⟩) (L':=L) i o rfl).2 hb)
 ·refine Rh i j (lQ hi) (lQ hj) ?_
  exact hh.inj _ _ _ _ (j6 Ln i o hi) (j6 Ln j p hj) ((cG (R:=R) (L:=⟨fun i=>L.ρ (R i),fun i=>L.κ (R i)⟩) (L':=L) i o rfl).2 mq)
   ((cG (R:=R) (L:=⟨fun i=>L.ρ (R i),fun i=>L.κ (R i)⟩) (L':=L) j p rfl).2 jx) mW
 ·cases l1 with
  | nil=>
   have:aT = []:=Rw;subst this;exact⟨#[],rfl,rfl⟩
  | cons v r=>
   cases r with
   | nil=>
    obtain⟨x,l,rfl,hx,hl⟩:=Rw;have:l = []:=hl;subst this;exact hx
   | cons u r=>
    obtain⟨x,l,rfl,hx,y,l',rfl,hy,kM⟩:=Rw;have cn:aq cx.yv ⟨fun i=>L.ρ (R i),fun i=>L.κ (R i)⟩ F w (v::u::r) (x::y::l'):=⟨x,_,rfl,hx,y,l',rfl,hy,kM⟩;show bg _ _ _ _ (vC (v::u::r)) (.tuple (x::y::l').toArray);unfold vC;split
    ·rename_i ds Le
     refine⟨_,rfl,?_⟩;rw[kQ Le]at cn;exact aq.inj.1 cn
    ·exact⟨_,rfl,cn⟩
mutual
def kX:D->Bool
 | .bool _=>true
 | .int _ _=>true
 | .str _=>true
 | .agg cs=>l6 cs
 | .tup cs=>l6 cs
 | .vs _=>false
 | .nils=>true
 | .ref _=>false
 | .nilp=>true
 | .mv _=>false
 | .nilm=>true
 | .clo _ cs=>l6 cs
 | .mth _ cs=>l6 cs
 | .nilf=>true
 | .ifc _ v=>kX v
 | .nili=>true
def l6:List D->Bool
 | []=>true
 | v::r=>kX v&&l6 r
end
mutual
theorem bM.free{F F':Nat->Nat}{w w':World}:∀ (v:D) (x:Value),kX v=true->bM F w v x->bM F' w' v x
 | .bool _,_,_,h=>h
 | .int _ _,_,_,h=>h
 | .str _,_,_,h=>h
 | .agg cs,_,hf,h=>by
  obtain⟨l,rfl,hl⟩:=h;exact⟨l,rfl,bc.free cs _ hf hl⟩
 | .tup cs,_,hf,h=>by
  obtain⟨l,rfl,hl⟩:=h;exact⟨l,rfl,bc.free cs _ hf hl⟩
 | .vs _,_,hf,_=>by simp[kX]at hf
 | .nils,_,_,h=>h
 | .ref _,_,hf,_=>by simp[kX]at hf
 | .nilp,_,_,h=>h
 | .mv _,_,hf,_=>by simp[kX]at hf
 | .nilm,_,_,h=>h
 | .clo _ cs,_,hf,h=>by
  obtain⟨l,rfl,hl⟩:=h;exact⟨l,rfl,bc.free cs _ hf hl⟩
 | .mth _ cs,_,hf,h=>by
  obtain⟨l,rfl,hl⟩:=h;exact⟨l,rfl,bc.free cs _ hf hl⟩
 | .nilf,_,_,h=>h
 | .ifc _ v,_,hf,h=>by
  obtain⟨y,rfl,hy⟩:=h;exact⟨y,rfl,bM.free v y hf hy⟩
 | .nili,_,_,h=>h
theorem bc.free{F F':Nat->Nat}{w w':World}:∀ (vs:List D) (l:List Value),l6 vs=true->bc F w vs l->bc F' w' vs l
 | [],_,_,h=>h
 | v::r,_,hf,h=>by
  simp only[l6,Bool.and_eq_true]at hf;obtain⟨x,l',rfl,hx,hl⟩:=h;exact⟨x,l',rfl,bM.free v x hf.1 hx,bc.free r l' hf.2 hl⟩
end
def bq(P:Program)(f:FuncId)(ds:List D)(r:D):Prop:=o9 P f (inj ds) [] fun v h'=>v = .d r/\h' = []
section
variable {P : Program} {σ : Type} {cx : Cx σ} {r : Option Nat} {m : List Nat} {L : Loc} {F : Nat -> Nat} {st : St σ} {a : Act} {w : World}
theorem Good.Mj(hg:Good cx r m L F st a w){F':Nat->Nat}{w':World}(tr:Tr F w F' w')(hk:∀ b,b<w.heap.size->w'.heap[b]?=w.heap[b]?/\F' b=F b)(hf:∀ b,w'.heap.size<=b->F' b=0):Good cx r m L F' st a w':=by
 refine⟨⟨cx.fS hg.heap.hg tr hf fun b hb=>hk b (hg.heap.iw b hb),fun b hb=>Nat.lt_of_lt_of_le (hg.heap.iw b hb) tr.size,hf,fun id o hi=>?_,fun id o hi hb=>?_,hg.heap.inj⟩,fun t v ht=>?_,hg.sR,fun b hb=>?_,hg.vD,fun l hl=>?_,hg.jy,hg.ud⟩
 ·exact cb.mono tr id o (fun _ _=>⟨rfl,rfl⟩) ⟨rfl,rfl⟩ (fun hb=>(hk _ ((hg.heap.obj id o hi).lt hb)).1) (hg.heap.obj id o hi)
 ·rw[(hk _ ((hg.heap.obj id o hi).lt hb)).2];exact hg.heap.own id o hi hb
 ·obtain⟨x,hx,hr⟩:=hg.env t v ht
  exact⟨x,hx,bg.mono tr v x (fun _ _=>⟨rfl,rfl⟩) hr⟩
 ·obtain⟨k1,k2⟩:=hg.pg b hb
  exact⟨by rw[(hk b (cf k1)).1];exact k1,k2⟩
 ·obtain⟨lp,k1⟩:=hg.lk l hl
  exact⟨lp,⟨by rw[(hk l (cf k1.1.1)).1];exact k1.1.1,k1.1.2⟩,k1.2⟩
theorem tK{f:FuncId}{ds:List D}{res:D}(hf:bq P f ds res)(eV:kX res=true)(n:Nat){e:Env}{h:Heap}{d:Option Nat}{args:List V}(hv:cI (ek h n) args=some ds) :
  jR P e h d f args (bz d (.d res)):=by
 refine⟨(hf (σ:=Unit) { y:=fun _ _ _ _=>False } ()).enter,?_⟩;intro σ cx yk r m L F st a w aT he hh hg hd hr;have gh:aZ cx L F h st.s w:=(hg.sub (e:=st.env) (h:=h) (fun _ _ h=>h) hh).heap;have sy:=gz gh;generalize hF1:eZ L F h w=F1 at sy;have uy:∀ b,cx.C st.s b->F1 b=F b:=fun b hb=>by rw[<- hF1];exact nn gh hb
 have Vj:bc F1 w ds aT.toList:=by
  rw[<- hF1];exact jW (gz gh) (oG gh n) args _ ds hv hr
 let Fg:Cx σ:={
  C:=fun s b=>cx.C s b\/b<w.heap.size
  HG:=fun s w' F'=>cx.HG s w' F' /\ ∀ b,b<w.heap.size->w'.heap[b]?=w.heap[b]?/\F' b=F1 b
  yv:=cx.yv
  A2:=cx.A2
  pρ:=cx.pρ
  pκ:=cx.pκ
  fS:=by
   rintro s w1 F1' w2 F2 ⟨h1,h2⟩ tr hf hk;refine⟨cx.fS h1 tr hf fun b hb=>hk b (.inl hb),fun b hb=>?_⟩;obtain⟨k1,k2⟩:=hk b (.inr hb);obtain⟨k3,k4⟩:=h2 b hb;exact⟨k1.trans k3,k2.trans k4⟩ }
 have Fq:aZ Fg L F1 [] st.s w:=by
  refine⟨⟨cx.fS hg.heap.hg sy (by rw[<- hF1];exact fm gh) fun b hb=>⟨rfl,uy b hb⟩,fun _ _=>⟨rfl,rfl⟩⟩,fun b hb=>hb.elim (hg.heap.iw b) id,?_,(fun _ _ hi=>by cases hi),(fun _ _ hi=>by cases hi),(fun _ _ _ _ hi=>by cases hi)⟩;rw[<- hF1];exact fm gh
 have ea:=(hf ({ y:=fun _ _ _ _=>False }:Hd σ) st.s).run Fg ⟨fun _ _ _ _ _ _ hy=>hy.elim,fun s w F hh=>yk s w F hh.1⟩ L F1 aT w Fq (aq.inj.2 Vj);refine ea.mono ?_;rintro en w' ⟨x,rfl,v,h',s',L',F',⟨⟨rfl,rfl⟩,rfl⟩,hH,LL,tr,jy⟩;obtain⟨zF,im⟩:=hH.hg
 let F2:Nat->Nat:=fun b=>if b<w.heap.size then F b else F' b
 have PL:∀ b,b<w.heap.size->F2 b=F b:=fun b hb=>if_pos hb;have Uq:∀ b,w.heap.size<=b->F2 b=F' b:=fun b hb=>if_neg (by omega);have Ur:∀ b o,o<F b->b<w.heap.size:=fun b o ho=>by
  rcases Nat.lt_or_ge b w.heap.size with h|h
  ·exact h
  ·rw[hg.heap.fresh b h]at ho;omega
 have Bf:Tr F w F2 w':=by
  refine⟨tr.os,tr.tape,tr.output,tr.size,fun b=>?_,fun b o ho=>jH (im b (Ur b o ho)).1,fun b en c hb hm=>by rw[(im b (Ur b 0 hb)).1];exact hm⟩;rcases Nat.lt_or_ge b w.heap.size with h|h
  ·rw[PL b h];exact Nat.le_refl _
  ·rw[hg.heap.fresh b h];exact Nat.zero_le _
 have gC:=hg.Mj Bf (fun b hb=>⟨(im b hb).1,PL b hb⟩) (fun b hb=>by
  rw[Uq b (Nat.le_trans tr.size hb)];exact hH.fresh b hb)
 exact⟨x,rfl,L,F2,gC.bz hd (bM.free res x eV LL),Bf⟩
theorem aB{Y:Hd σ}{f:FuncId}{ds:List D}{res:D}(hf:bq P f ds res)(eV:kX res=true)(n:Nat){e:Env}{h:Heap}{s:σ}{d:Option Nat}{args:List V}(hv:cI (ek h n) args=some ds)
  {K:St σ->Prop} (hk:bw (bz d (.d res)) e h fun e h=>K ⟨e,h,s⟩):dO P Y ⟨e,h,s⟩ d f args K:=qu (tK hf eV n hv) hk
theorem a7{f:FuncId}{ds:List D}{res:D}(hf:bq P f ds res)(eV:kX res=true)(n:Nat){e:Env}{h:Heap}{d:Option Nat}{args:List V}(hv:cI (ek h n) args=some ds)
  {K:List Wr->Prop} (hk:K (bz d (.d res))):ef P e h d f args K:=⟨_,hk,tK hf eV n hv⟩
theorem uN{f:FuncId}{ds:List D}{res:D}(hf:bq P f ds res){e:Env}{h:Heap}{d:Option Nat}{args:List V}(hv:args=inj ds)(hd:Nat.ble (d.getD 0) 10000=true):jR P e h d f args (bz d (.d res)):=by
 have Rj:tN (eU [] (d.getD 0)) (inj ds)=args:=by rw[hv];exact yF _ _
 have hB:gG [] d (.d res) []=true:=by
  cases d with
  | none=>rfl
  | some d=>
   simp only[gG,dG,nodupB,cX,z8,cy,List.map_nil,lB,List.all_nil,List.length_nil,hd,Bool.and_true,Bool.true_and,cL,qd,lU,List.nil_append,bz,fO,bR];rfl
 exact r8 hf [] Rj rfl hB
theorem ai{Y:Hd σ}{f:FuncId}{ds:List D}{res:D}(hf:bq P f ds res){e:Env}{h:Heap}{s:σ}{d:Option Nat}{args:List V}(hv:args=inj ds)(hd:Nat.ble (d.getD 0) 10000=true)
  {K:St σ->Prop} (hk:bw (bz d (.d res)) e h fun e h=>K ⟨e,h,s⟩):dO P Y ⟨e,h,s⟩ d f args K:=qu (uN hf hv hd) hk
theorem aH{f:FuncId}{ds:List D}{res:D}(hf:bq P f ds res){e:Env}{h:Heap}{d:Option Nat}{args:List V}(hv:args=inj ds)(hd:Nat.ble (d.getD 0) 10000=true)
  {K:List Wr->Prop} (hk:K (bz d (.d res))):ef P e h d f args K:=⟨_,hk,uN hf hv hd⟩
end
end Go.PX
namespace Go.PX
open Go.RowKit
theorem yA{p:Nat->Prop}:∀ (n:Nat),p n -> ∃ m,p m /\ ∀ k,p k->m<=k:=by
 intro n
 induction n using Nat.strongRecOn with
 | _ n ih=>
  intro hn;by_cases h:∃ k,k<n/\p k
  ·obtain⟨k,hk,hp⟩:=h;exact ih k hk hp
  ·exact⟨n,hn,fun k hk=>Nat.le_of_not_lt fun dN=>h ⟨k,dN,hk⟩⟩
open Classical in
noncomputable def A5(p:Nat->Prop):Nat:=if h:∃ n,p n then (yA h.choose h.choose_spec).choose else 0
theorem A6{p:Nat->Prop}(h:∃ n,p n):p (A5 p):=by
 unfold A5;rw[dif_pos h];exact(yA h.choose h.choose_spec).choose_spec.1
theorem ED{p:Nat->Prop}{k:Nat}(hk:p k):A5 p<=k:=by
 have h:∃ n,p n:=⟨k,hk⟩;unfold A5;rw[dif_pos h];exact(yA h.choose h.choose_spec).choose_spec.2 k hk
def Wk{σ:Type}(st st':St σ):Prop:=
 ∀ (cx:Cx σ) (r:Option Nat) (m:List Nat) (L:Loc) (F:Nat->Nat) (a:Act) (w:World),Good cx r m L F st a w -> ∃ L' F',Good cx r m L' F' st' a w/\Tr F w F' w
theorem Wk.trans{σ:Type}{st st' O7:St σ}(h:Wk st st')(k:Wk st' O7):Wk st O7:=fun cx r m L F a w hg=>by
 obtain⟨L',F',h1,h2⟩:=h cx r m L F a w hg;obtain⟨Ka,GV,h3,h4⟩:=k cx r m L' F' a w h1;exact⟨Ka,GV,h3,Tr.trans h2 h4⟩
def GB(e:Env):Env->Prop
 | []=>True
 | (k,v)::r=>get e k=some v/\GB e r
def qJ(e:Heap):Heap->Prop
 | []=>True
 | (k,v)::r=>get e k=some v/\qJ e r
theorem EK{e:Env}:∀ {e':Env},GB e e'->dB e' e
 | [],_,s,v,h=>by cases h
 | (k,u)::r,hs,s,v,h=>by
  simp only[get]at h;split at h
  ·rename_i he
   have:=Nat.eq_of_beq_eq_true he;subst this;cases h;exact hs.1
  ·exact EK hs.2 s v h
theorem jh{e:Heap}:∀ {e':Heap},qJ e e'->dB e' e
 | [],_,s,v,h=>by cases h
 | (k,u)::r,hs,s,v,h=>by
  simp only[get]at h;split at h
  ·rename_i he
   have:=Nat.eq_of_beq_eq_true he;subst this;cases h;exact hs.1
  ·exact jh hs.2 s v h
theorem Wk.sub{σ:Type}{e e':Env}{h h':Heap}{s:σ}(he:GB e e')(hh:qJ h h'):Wk (⟨e,h,s⟩:St σ) ⟨e',h',s⟩:=
 fun cx r m L F a w hg=>⟨L,F,hg.sub (EK he) (jh hh),Tr.refl F w⟩
theorem Wk.move{σ:Type}{e:Env}{h:Heap}{s:σ}(i j:Nat)(hj:Nat.blt j 1000000=true)(mW:Nat.beq i j=false) :
  Wk (⟨e,h,s⟩:St σ) ⟨cZ (aL (iH i j)) (cZ (aL (bf j)) e),nD i j (cZ (Obj.aL (bf j)) (cut h j)),s⟩:=by
 intro cx r m L F a w hg;have hj:=Nat.le_of_ble_eq_true hj;have mW:i≠j:=by rintro rfl;simp at mW
 have h1:Good cx r m L F ⟨e,cut h j,s⟩ a w:=hg.del j;have h2:=h1.kill j;have hu:=yy (e:=e) (h:=h) j (x:=j) (.inl rfl);exact⟨_,F,h2.move (by unfold pinned;omega) mW hu,Tr.refl F w⟩
mutual
def gx(g:Nat->Option DO):V->V
 | .d v=>.d v
 | .agg cs=>tC (ia g cs)
 | .tup cs=>vC (ia g cs)
 | .clo f cs=>match vY (ia g cs) with
  | some l=>.d (.clo f l)
  | none=>.clo f (ia g cs)
 | .ptr i o=>match dA g (.ptr i o) with
  | some v=>.d v
  | none=>.ptr i o
 | .ep i n j o=>.ep i n j o
 | .sl i n o l=>match dA g (.sl i n o l) with
  | some v=>.d v
  | none=>.sl i n o l
 | .mp i=>match dA g (.mp i) with
  | some v=>.d v
  | none=>.mp i
 | .it i=>.it i
 | .yld=>.yld
 | .unk=>.unk
def ia(g:Nat->Option DO):List V->List V
 | []=>[]
 | v::r=>gx g v::ia g r
end
def kE(g:Nat->Option DO):List (List V)->List (List V)
 | []=>[]
 | v::r=>ia g v::kE g r
def C2:List (List V)->Option (List (List D))
 | []=>some []
 | v::r=>match vY v,C2 r with
  | some a,some l=>some (a::l)
  | _,_=>none
def nI(g:Nat->Option DO):Obj->Obj
 | .box (.vv l)=>match vY (ia g l) with
  | some l=>.box (.dd l)
  | none=>.box (.vv (ia g l))
 | .tb t l=>.tb t (ia g l)
 | .arr n (.vv l)=>match C2 (kE g l) with
  | some l=>.arr n (.dd l)
  | none=>.arr n (.vv (kE g l))
 | o=>o
def mJ{α:Type}(t:wy α):List Nat->wy α
 | []=>t
 | i::r=>mJ (cut t i) r
theorem j5{α:Type}:∀ (l:List Nat) (t:wy α) (x:Nat),get (mJ t l) x=if x∈l then none else get t x
 | [],t,x=>by simp[mJ]
 | i::r,t,x=>by
  rw[mJ,j5 r,e6];by_cases h1:x∈r
  ·simp[h1]
  ·by_cases h2:x=i
   ·simp[h2]
   ·simp[h1,h2]
section
variable {yv : Option Nat} {L : Loc} {F F1 : Nat -> Nat} {w : World} {g : Nat -> Option DO}
theorem bg.M6(tr:Tr F w F1 w)(hg:∀ id o,g id=some o->xd yv L F1 w id o){v:V}{x:Value}(hr:bg yv L F w v x):bg yv L F1 w (match dA g v with
  | some d=>.d d
  | none=>v) x:=by
 split
 ·rename_i d hd
  exact Ib tr hg v x d hd hr
 ·exact bg.mono tr v x (fun _ _=>⟨rfl,rfl⟩) hr
theorem bg.vC{cs:List V}{l:Array Value}(h:aq yv L F w cs l.toList):bg yv L F w (vC cs) (.tuple l):=by
 unfold PX.vC;split
 ·rename_i ds Le
  rw[kQ Le]at h;exact⟨l,rfl,aq.inj.1 h⟩
 ·exact⟨l,rfl,h⟩
mutual
theorem bg.gx(tr:Tr F w F1 w)(hg:∀ id o,g id=some o->xd yv L F1 w id o):∀ (v:V) (x:Value),bg yv L F w v x->bg yv L F1 w (gx g v) x
 | .d v,x,h=>by simp only[PX.gx];exact bM.mono tr v x h
 | .agg cs,x,h=>by
  obtain⟨l,rfl,hl⟩:=h;simp only[PX.gx];exact bg.tC (aq.gx tr hg cs _ hl)
 | .tup cs,x,h=>by
  obtain⟨l,rfl,hl⟩:=h;simp only[PX.gx];exact bg.vC (aq.gx tr hg cs _ hl)
 | .clo f cs,x,h=>by
  obtain⟨l,rfl,hl⟩:=h;simp only[PX.gx];have:=aq.gx tr hg cs _ hl;split
  ·rename_i ds Le
   rw[kQ Le]at this;exact⟨l,rfl,aq.inj.1 this⟩
  ·exact⟨l,rfl,this⟩
 | .ptr i o,x,h=>by simp only[PX.gx];exact bg.M6 tr hg h
 | .ep i n j o,x,h=>by simp only[PX.gx];exact bg.mono tr _ x (fun _ _=>⟨rfl,rfl⟩) h
 | .sl i n o l,x,h=>by simp only[PX.gx];exact bg.M6 tr hg h
 | .mp i,x,h=>by simp only[PX.gx];exact bg.M6 tr hg h
 | .it i,x,h=>by simp only[PX.gx];exact bg.mono tr _ x (fun _ _=>⟨rfl,rfl⟩) h
 | .yld,x,h=>by simp only[PX.gx];exact h
 | .unk,x,h=>by simp only[PX.gx];exact h
theorem aq.gx(tr:Tr F w F1 w)(hg:∀ id o,g id=some o->xd yv L F1 w id o):∀ (vs:List V) (l:List Value),aq yv L F w vs l->aq yv L F1 w (ia g vs) l
 | [],_,h=>h
 | v::r,_,h=>by
  obtain⟨x,l',rfl,hx,hl⟩:=h;exact⟨x,l',rfl,bg.gx tr hg v x hx,aq.gx tr hg r l' hl⟩
end
theorem Cm(a b:List V):ia g (a++b)=ia g a++ia g b:=by
 induction a with
 | nil=>rfl
 | cons x r ih=>simp[ia,ih]
theorem Cn(a:List V):(ia g a).length=a.length:=by
 induction a with
 | nil=>rfl
 | cons x r ih=>simp[ia,ih]
theorem vL:∀ (a:List (List V)),(kE g a).flatten=ia g a.flatten/\(kE g a).length=a.length /\ ∀ sz,dj sz a->dj sz (kE g a)
 | []=>⟨rfl,rfl,fun _ _ _ h=>by cases h⟩
 | e::r=>by
  obtain⟨h1,h2,h3⟩:=vL r;refine⟨by simp[kE,h1,Cm],by simp[kE,h2],fun sz hl x hx=>?_⟩;rcases List.mem_cons.1 hx with rfl|hx
  ·rw[Cn];exact hl e (List.mem_cons_self ..)
  ·exact h3 sz (fun y hy=>hl y (List.mem_cons_of_mem _ hy)) x hx
theorem C3:∀ {l:List (List V)} {ds:List (List D)},C2 l=some ds->l=aG ds
 | [],ds,h=>by simp only[C2,Option.some.injEq]at h;subst h;rfl
 | v::r,ds,h=>by
  simp only[C2]at h;split at h
  ·rename_i a l h1 h2
   cases h;simp only[aG];rw[kQ h1,C3 h2]
  ·cases h
theorem cb.gx(tr:Tr F w F1 w)(hg:∀ id o,g id=some o->xd yv L F1 w id o)(id:Nat)(o:Obj)(h:cb yv L F w id o):cb yv L F1 w id (nI g o):=by
 cases o with
 | box c=>
  cases c with
  | dd l=>exact cb.mono tr id _ (fun _ _=>⟨rfl,rfl⟩) ⟨rfl,rfl⟩ (fun _=>rfl) h
  | vv l=>
   obtain⟨c,T,hc,hr⟩:=h;have hr:=aq.gx tr hg l _ hr;simp only[nI];split
   ·rename_i ds Le
    rw[kQ Le]at hr;exact⟨c,T,hc,hr⟩
   ·exact⟨c,T,hc,hr⟩
 | arr sz es=>
  cases es with
  | dd l=>exact cb.mono tr id _ (fun _ _=>⟨rfl,rfl⟩) ⟨rfl,rfl⟩ (fun _=>rfl) h
  | vv l=>
   obtain⟨hs,hl,h⟩:=h;obtain⟨k1,k2,k3⟩:=vL (g:=g) l;have tf:cb yv L F1 w id (.arr sz (.vv (kE g l))):=by
    refine⟨hs,k3 sz hl,?_⟩;rcases h with⟨h,hk⟩|⟨c,T,hc,hk,hn,hr⟩
    ·left
     have h:l = []:=h;subst h;exact⟨rfl,hk⟩
    ·right
     refine⟨c,T,hc,hk,?_,?_⟩
     ·show(kE g l).length*sz<=_
      rw[k2];exact hn
     ·show aq yv L F1 w (kE g l).flatten (c.toList.take ((kE g l).length*sz))
      rw[k2,k1];exact aq.gx tr hg _ _ hr
   simp only[nI];split
   ·rename_i ds Le
    rw[C3 Le]at tf;exact tf
   ·exact tf
 | map cJ=>exact cb.mono tr id _ (fun _ _=>⟨rfl,rfl⟩) ⟨rfl,rfl⟩ (fun _=>rfl) h
 | iter s n=>exact cb.mono tr id _ (fun _ _=>⟨rfl,rfl⟩) ⟨rfl,rfl⟩ (fun _=>rfl) h
 | buf t s=>exact cb.mono tr id _ (fun _ _=>⟨rfl,rfl⟩) ⟨rfl,rfl⟩ (fun _=>rfl) h
 | tb t l=>
  obtain⟨c,hc,hr⟩:=h;exact⟨c,hc,aq.gx tr hg l _ hr⟩
 | mit v n l u=>exact cb.mono tr id _ (fun _ _=>⟨rfl,rfl⟩) ⟨rfl,rfl⟩ (fun _=>rfl) h
theorem iV(id:Nat)(o:Obj):aV L id (nI g o)↔aV L id o:=by
 cases o with
 | box c=>cases c with
  | dd l=>exact Iff.rfl
  | vv l=>simp only[nI];split<;>exact Iff.rfl
 | arr sz es=>cases es with
  | dd l=>exact Iff.rfl
  | vv l=>simp only[nI];split<;>exact Iff.rfl
 | map cJ=>exact Iff.rfl
 | iter s n=>exact Iff.rfl
 | buf t s=>exact Iff.rfl
 | tb t l=>exact Iff.rfl
 | mit v n l u=>exact Iff.rfl
end
theorem Wk.Tn{σ:Type}{e:Env}{h:Heap}{s:σ}(n:Nat)(ids:List Nat) :
  Wk (⟨e,h,s⟩:St σ) ⟨cZ (gx (ek (aX ids h) n)) e,cZ (nI (ek (aX ids h) n)) (mJ h ids),s⟩:=by
 intro cx r m L F a w hg;have ji:dB (aX ids h) h:=ez ids h;have gh:aZ cx L F (aX ids h) s w:=(hg.sub (e:=e) (h:=aX ids h) (fun _ _ h=>h) ji).heap;have tr:=gz gh;have uy:∀ b,cx.C s b->eZ L F (aX ids h) w b=F b:=fun b hb=>nn gh hb;have yb:∀ id o,get h id=some o->id∉ids->aV L id o->eZ L F (aX ids h) w (L.ρ id)=F (L.ρ id):=by
  intro id o hi hn hb;refine gb ?_;rintro ⟨j,p,hj,jx,mW⟩;have:=hg.heap.inj j id p o (ji j p hj) hi jx hb mW;subst this;exact hn (j9 ids h j p hj)
 have zH:=fm gh;have pc:=oG gh n;generalize eZ L F (aX ids h) w=F1 at tr uy yb zH pc;generalize ek (aX ids h) n=g at pc;have mP:∀ i o',get (cZ (nI g) (mJ h ids)) i=some o'->i∉ids /\ ∃ o0,get h i=some o0/\o'=nI g o0:=by
  intro i o' hi;rw[bY,j5]at hi;split at hi
  ·cases hi
  ·rename_i hn
   cases h0:get h i with
   | none=>simp[h0]at hi
   | some o0=>simp[h0]at hi;exact⟨hn,o0,rfl,hi.symm⟩
 refine⟨L,F1,⟨⟨cx.fS hg.heap.hg tr zH fun b hb=>⟨rfl,uy b hb⟩,hg.heap.iw,zH,?_,?_,?_⟩,?_,hg.sR,hg.pg,hg.vD,hg.lk,hg.jy,hg.ud⟩,tr⟩
 ·intro i o' hi
  obtain⟨_,o0,h0,rfl⟩:=mP i o' hi;exact cb.gx tr pc i o0 (hg.heap.obj i o0 h0)
 ·intro i o' hi hb
  obtain⟨hn,o0,h0,rfl⟩:=mP i o' hi;have hb:=(iV i o0).1 hb;rw[yb i o0 h0 hn hb];exact hg.heap.own i o0 h0 hb
 ·intro i j o' p hi hj mq jx he
  obtain⟨_,o0,h0,rfl⟩:=mP i o' hi;obtain⟨_,p0,wb,rfl⟩:=mP j p hj;exact hg.heap.inj i j o0 p0 h0 wb ((iV i o0).1 mq) ((iV j p0).1 jx) he
 ·intro t v ht
  simp only[bY]at ht
  cases h0:get e t with
  | none=>simp[h0]at ht
  | some v0=>
   simp[h0]at ht;subst ht;obtain⟨x,hx,hr⟩:=hg.env t v0 h0;exact⟨x,hx,bg.gx tr pc v0 x hr⟩
section
variable {P : Program} {T : e7} {σ : Type} {Y : Hd σ}
theorem EW.wk{c:Code}{st st':St σ}{K:fg->St σ->Prop}(hw:Wk st st')(h:EW P Y c st' K):EW P Y c st K:=by
 intro cx hY r m L F a w hg hc;obtain⟨L',F',dp,tr⟩:=hw cx r m L F a w hg;refine wpIn_mono (h cx hY r m L' F' a w dp hc) fun ex a' w' hq=>?_;rcases hq with⟨e',tR,m',L1,F1,h1,h2,h3,h4,h5⟩|hp
 ·exact .inl ⟨e',tR,m',L1,F1,h1,h2,h3,Tr.trans tr h4,h5⟩
 ·exact .inr (hp.trans tr rfl)
theorem dh(hT:bA P T){ft:FT}{c:Code}(hD:dD P T ft c){α:Type}(I:α->St σ)(Pr:α->Prop)(μ:α->Nat)(x0:α){st:St σ}{K:fg->St σ->Prop}(h0:Wk st (I x0))(p0:Pr x0)
  (round:∀ x,Pr x->Cy P T ft Y c (I x) fun e st'=>match e with
   | .normal=>∃ y,μ y<μ x/\Pr y/\Wk st' (I y)
   | e=>K e st'):CS P ft Y c st K:=by
 refine⟨EW.wk h0 ?_⟩;intro cx hY r m0 L0 F0 a w hg hc;have hc:codeOk a.tmps.size c=true:=hc
 let J:Act->World->α->Prop:=fun a' w' x=>Pr x /\ ∃ m L F,Good cx r m L F (I x) a' w'/\Tr F0 w F w'/\a'.tmps.size=a.tmps.size
 let M:Act->World->Nat:=fun a' w'=>A5 fun n=>∃ x,J a' w' x/\μ x=n
 refine wpIn_loop (fun a' w'=>∃ x,J a' w' x) M ⟨x0,p0,m0,L0,F0,hg,Tr.refl F0 w,rfl⟩ fun a' w' hJ=>?_;obtain⟨x,⟨hp,m,L,F,dp,tr,hs⟩,hx⟩:=A6 (p:=fun n=>∃ x,J a' w' x/\μ x=n) (by obtain⟨x,hx⟩:=hJ;exact⟨μ x,x,hx,rfl⟩);refine wpIn_mono (dX hT c hD (I x) _ (round x hp) cx hY r m L F a' w' dp (by rw[hs];exact hc)) fun ex Pl wv hq=>?_;rcases hq with⟨e',tR,m1,L1,F1,rfl,h2,h3,h4,h5⟩|P0
 case inr=>
  have Rv:=P0;obtain⟨v,pe,ph,ps,m',L',F',rfl,_⟩:=P0;exact .inr (Rv.trans tr hs)
 cases e' with
 | normal=>
  obtain⟨y,hy,ZX,E2⟩:=h2;obtain⟨L2,F2,gC,Bf⟩:=E2 cx r m1 L1 F1 Pl wv h3;have Us:J Pl wv y:=⟨ZX,m1,L2,F2,gC,Tr.trans tr (Tr.trans h4 Bf),h5.trans hs⟩;refine⟨⟨y,Us⟩,?_⟩;have:M Pl wv<=μ y:=ED ⟨y,Us,rfl⟩;have hx:μ x=M a' w':=hx;omega
 | exit i=>exact .inl ⟨.exit i,tR,m1,L1,F1,rfl,h2,h3,Tr.trans tr h4,h5.trans hs⟩
 | ret=>exact .inl ⟨.ret,tR,m1,L1,F1,rfl,h2,h3,Tr.trans tr h4,h5.trans hs⟩
end
section
variable {σ : Type}
theorem Good.Wa{cx:Cx σ}{r:Option Nat}{m:List Nat}{L:Loc}{F:Nat->Nat}{e:Env}{h:Heap}{s:σ}{a:Act}{w:World}(hg:Good cx r m L F ⟨e,h,s⟩ a w){t:Nat}{v v':V}(ht:get e t=some v)
  (hv:∀ x,bg cx.yv L F w v x->bg cx.yv L F w v' x):Good cx r m L F ⟨put e t v',h,s⟩ a w:=by
 refine⟨hg.heap,fun u y hu=>?_,hg.sR,hg.pg,hg.vD,hg.lk,hg.jy,hg.ud⟩;rw[eM]at hu;split at hu
 ·rename_i he
  cases hu;subst he
  obtain⟨x,hx,hr⟩:=hg.env u v ht;exact⟨x,hx,hv x hr⟩
 ·exact hg.env u y hu
theorem Wk.born{e:Env}{h:Heap}{s:σ}(t id sz:Nat)(hid:Nat.blt id 1000000=true)(hs:Nat.blt 0 sz=true)(ht:get e t=some (.d .nils)) :
  Wk (⟨e,h,s⟩:St σ) ⟨put (cZ (aL (bf id)) e) t (.sl id sz 0 0),((id,.arr sz (.dd []))::cZ (Obj.aL (bf id)) (cut h id)),s⟩:=by
 intro cx r m L F a w hg;have hid:=Nat.le_of_ble_eq_true hid;have hs:=Nat.le_of_ble_eq_true hs;have h1:=hg.kb id sz (by unfold pinned;omega) hs (.dd []) rfl;refine⟨_,F,Good.Wa (t:=t) (v:=.d .nils) h1 (by rw[bY,ht];rfl) fun x hx=>?_,Tr.refl F w⟩;have hx:x = .slice none 0 0:=hx;subst hx;exact⟨none,0,rfl,Nat.le_refl _,hs,.inl ⟨rfl,rfl⟩⟩
end
end Go.PX
namespace Go.PX
open Go.RowKit
mutual
def CC:D->D->Bool
 | .bool a,.bool b=>a ==b
 | .int k n,.int k' m=>decide (k=k')&&decide (n=m)
 | .str a,.str b=>decide (a=b)
 | .agg a,.agg b=>Dc a b
 | .tup a,.tup b=>Dc a b
 | .nils,.nils=>true
 | .nilp,.nilp=>true
 | .nilm,.nilm=>true
 | .nilf,.nilf=>true
 | .nili,.nili=>true
 | _,_=>false
def Dc:List D->List D->Bool
 | [],[]=>true
 | a::r,b::l=>CC a b&&Dc r l
 | _,_=>false
end
mutual
theorem KN:∀ (a b:D),CC a b=true->a=b
 | .bool a,b,h=>by cases b<;>simp[CC]at h;rw[h]
 | .int k n,b,h=>by cases b<;>simp[CC]at h;rw[h.1,h.2]
 | .str a,b,h=>by cases b<;>simp[CC]at h;rw[h]
 | .agg a,b,h=>by cases b<;>simp[CC]at h;rw[qy _ _ h]
 | .tup a,b,h=>by cases b<;>simp[CC]at h;rw[qy _ _ h]
 | .nils,b,h=>by cases b<;>simp[CC]at h;rfl
 | .nilp,b,h=>by cases b<;>simp[CC]at h;rfl
 | .nilm,b,h=>by cases b<;>simp[CC]at h;rfl
 | .nilf,b,h=>by cases b<;>simp[CC]at h;rfl
 | .nili,b,h=>by cases b<;>simp[CC]at h;rfl
 | .vs _,b,h=>by cases b<;>simp[CC]at h
 | .ref _,b,h=>by cases b<;>simp[CC]at h
 | .mv _,b,h=>by cases b<;>simp[CC]at h
 | .clo _ _,b,h=>by cases b<;>simp[CC]at h
 | .mth _ _,b,h=>by cases b<;>simp[CC]at h
 | .ifc _ _,b,h=>by cases b<;>simp[CC]at h
theorem qy:∀ (a b:List D),Dc a b=true->a=b
 | [],b,h=>by cases b<;>simp[Dc]at h;rfl
 | x::r,b,h=>by
  cases b with
  | nil=>simp[Dc]at h
  | cons y l=>
   simp only[Dc,Bool.and_eq_true]at h;rw[KN x y h.1,qy r l h.2]
end
def eqFields:List (Nat×TypeId)->List (Nat×TypeId)->Bool
 | [],[]=>true
 | (a,b)::r,(c,d)::l=>Nat.beq a c&&Nat.beq b d&&eqFields r l
 | _,_=>false
theorem re:∀ (a b:List (Nat×TypeId)),eqFields a b=true->a=b
 | [],[],_=>rfl
 | [],_::_,h=>by simp[eqFields]at h
 | _::_,[],h=>by simp[eqFields]at h
 | (a,b)::r,(c,d)::l,h=>by
  simp only[eqFields,Bool.and_eq_true]at h;rw[Nat.eq_of_beq_eq_true h.1.1,Nat.eq_of_beq_eq_true h.1.2,re r l h.2]
def QJ:Kd->Kd->Bool
 | .bool,.bool=>true
 | .int k,.int k'=>decide (k=k')
 | .str,.str=>true
 | .slice e,.slice e'=>Nat.beq e e'
 | .struct fs,.struct gs=>eqFields fs gs
 | .array n e,.array n' e'=>Nat.beq n n'&&Nat.beq e e'
 | .map k e,.map k' e'=>Nat.beq k k'&&Nat.beq e e'
 | .iface,.iface=>true
 | .other,.other=>true
 | _,_=>false
theorem IA(a b:Kd)(h:QJ a b=true):a=b:=by
 cases a<;>cases b<;>simp only[QJ,Bool.and_eq_true,decide_eq_true_eq]at h<;>first|rfl|(cases h;done)|skip
 ·rw[h]
 ·rw[Nat.eq_of_beq_eq_true h]
 ·rw[re _ _ h]
 ·rw[Nat.eq_of_beq_eq_true h.1,Nat.eq_of_beq_eq_true h.2]
 ·rw[Nat.eq_of_beq_eq_true h.1,Nat.eq_of_beq_eq_true h.2]
def WO:Bool->Bool->Bool
 | true,true=>true
 | false,false=>true
 | _,_=>false
def tyB(P:Program)(t:TypeId)(ti:rE):Bool:=
 match P.info? t,P.underlying t with
 | some i,some d=>Nat.beq ti.size i.size&&Nat.beq ti.bytes i.bytes&&QJ ti.kd (jM d)&&WO ti.isAgg (sG d)&&(match ti.held with
   | true=>true
   | false=>!P.stoodInHeld t&&(match ti.kd with | .int _=>i.comparable|_=>true))&&(match ti.zero with
   | none=>true
   | some z=>match i.zero with
    | some zv=>match zeroCells zv with
     | some z'=>Dc z' z&&WO (Ik zv) ti.isAgg
     | none=>false
    | none=>false)
 | _,_=>false
theorem M3{P:Program}{t:TypeId}{ti:rE}(h:tyB P t ti=true):∃ i d,P.info? t=some i/\P.underlying t=some d/\ti.size=i.size/\ti.bytes=i.bytes/\ti.kd=jM d/\ti.isAgg=sG d /\
  (ti.held=false->P.stoodInHeld t=false /\ ∀ k,ti.kd = .int k->i.comparable=true)/\(∀ z,ti.zero=some z -> ∃ zv,i.zero=some zv/\zeroCells zv=some z/\Ik zv=ti.isAgg):=by
 unfold tyB at h;split at h;case h_2=>cases h
 rename_i i d hi hd;simp only[Bool.and_eq_true]at h;obtain⟨⟨⟨⟨⟨h1,h2⟩,h3⟩,h4⟩,h5⟩,h6⟩:=h;refine⟨i,d,hi,hd,Nat.eq_of_beq_eq_true h1,Nat.eq_of_beq_eq_true h2,IA _ _ h3,?_,fun hh=>?_,fun z hz=>?_⟩
 ·revert h4;cases ti.isAgg<;>cases sG d<;>simp[WO]
 ·rw[hh]at h5
  simp only[Bool.and_eq_true,Bool.not_eq_true']at h5;refine⟨h5.1,fun k hk=>?_⟩;have:=h5.2;rw[hk]at this;exact this
 ·rw[hz]at h6
  simp only at h6;split at h6;case h_2=>cases h6
  rename_i zv I2;split at h6;case h_2=>cases h6
  rename_i z' hz';simp only[Bool.and_eq_true]at h6;exact⟨zv,I2,by rw[hz',qy _ _ h6.1],by have:=h6.2;revert this;cases Ik zv<;>cases ti.isAgg<;>simp[WO]⟩
def Pc(P:Program):e7->Bool
 | .lf=>true
 | .nd l k v r=>Pc P l&&tyB P k v&&Pc P r
theorem uZ{P:Program}:∀ {T:e7},Pc P T=true->bA P T
 | .lf,_,t,ti,h=>by cases h
 | .nd l k v r,hT,t,ti,h=>by
  simp only[Pc,Bool.and_eq_true]at hT;simp only[e7.get]at h;split at h
  ·rename_i he
   have:=Nat.eq_of_beq_eq_true he;subst this;cases h;exact M3 hT.1.2
  ·split at h
   ·exact uZ hT.1.1 t ti h
   ·exact uZ hT.2 t ti h
end Go.PX
namespace Go.PX
theorem ae{k:IntKind}{n:Int}{K:V->Prop}(h:k.wrap n=n)(hK:K (.d (.int k n))):arith k n K:=by constructor;rw[h];exact hK
theorem af{b:Bool}{X Y:Prop}(h:b=true->X)(k:b=false->Y):Pn b X Y:=by cases b<;>simp_all[Pn]
theorem aQ{b:Bool}{K:Prop}(h:b=true)(k:K):gH b K:=by subst h;exact k
theorem bh{es:List (List D)}{i:Int}{K:List D->Prop}(l:List D)(h:0<=i/\es[i.toNat]?=some l)(k:K l):Ah es i K:=by simp[Ah,h.1,h.2,k]
theorem cD{α:Type}{cs:List α}{n:Nat}{K:α->Prop}(v:α)(h:cs[n]?=some v)(k:K v):pD cs n K:=by simp[pD,h,k]
theorem wrap_i64{n:Int}(h : -9223372036854775808<=n/\n<=9223372036854775807):IntKind.wrap .i64 n=n:=IntWalk.i64_in n h
abbrev i64(n:Int):D:=.int .i64 n
theorem aI{P:Program}{T:e7}(hm:P.follows .mixedOrders=true)(hT:bA P T){f:FuncId}{fn:Func}{c:Code}(hf:P.funcs[f]?=some fn)(hb:fn.body=some c){ft:FT}{ds:List D}{r:D}(n:Nat)(gh:nS ft fn n=true)(hn:ds.length=n)
     (hw:∀ {σ:Type} (Y:Hd σ) (s:σ),Cy P T ft Y c ⟨dy 0 (inj ds),[],s⟩ (Sz T fn.results.toList fun v h' s'=>(v = .d r/\h' = [])/\s'=s)):bq P f ds r:=by
  intro σ Y s;exact dQ hm hT hf hb (by rw[eC,hn];exact gh) (hw Y.np s)
end Go.PX
namespace Go.PX
open Go.RowKit
def fc(R:Nat->Nat):Heap->Heap
 | []=>[]
 | (k,o)::r=>(R k,kf R o)::fc R r
def wo(R:Nat->Nat)(e:Env):Env:=cZ (aL (qh R)) e
theorem lG{R:Nat->Nat}:∀ {h:Heap} {k:Nat} {o:Obj},get (fc R h) k=some o -> ∃ j o1,get h j=some o1/\k=R j/\o=kf R o1
 | [],k,o,h=>by cases h
 | (j,p)::r,k,o,h=>by
  simp only[fc,get]at h;split at h
  ·rename_i he
   have:=Nat.eq_of_beq_eq_true he;subst this;cases h;exact⟨j,p,by simp[get],rfl,rfl⟩
  ·rename_i he
   obtain⟨j',o1,h1,rfl,rfl⟩:=lG h;refine⟨j',o1,?_,rfl,rfl⟩;have:Nat.beq j j'=false:=by
    rw[Bool.eq_false_iff];intro e;have:=Nat.eq_of_beq_eq_true e;subst this;simp at he
   simp[get,this,h1]
section
variable {σ : Type} {cx : Cx σ} {L L' : Loc} {F : Nat -> Nat} {s : σ} {w : World} {R : Nat -> Nat}
theorem aZ.o6{h:Heap}(hh:aZ cx L F h s w)(hn:∀ i∈cX h,L'.ρ (R i)=L.ρ i/\L'.κ (R i)=L.κ i):aZ cx L' F (fc R h) s w:=by
 refine⟨hh.hg,hh.iw,hh.fresh,fun k o hk=>?_,fun k o hk hb=>?_,fun k l o p hk hl jn wF e=>?_⟩
 ·obtain⟨j,o1,h1,rfl,rfl⟩:=lG hk
  obtain⟨n1,n2⟩:=bj h1;exact(cb.o6 (R:=R) (L:=L) (L':=L') j o1 (fun i hi=>hn i (n2 i (fu i o1 hi))) (hn j n1)).2 (hh.obj j o1 h1)
 ·obtain⟨j,o1,h1,rfl,rfl⟩:=lG hk
  obtain⟨n1,n2⟩:=bj h1;rw[(hn j n1).1];exact hh.own j o1 h1 ((cG (R:=R) (L:=L) (L':=L') j o1 (hn j n1).2).1 hb)
 ·obtain⟨j,o1,h1,rfl,rfl⟩:=lG hk
  obtain⟨i,o2,h2,rfl,rfl⟩:=lG hl;obtain⟨n1,_⟩:=bj h1;obtain⟨n2,_⟩:=bj h2;rw[(hn j n1).1,(hn i n2).1]at e;rw[hh.inj j i o1 o2 h1 h2 ((cG (R:=R) (L:=L) (L':=L') j o1 (hn j n1).2).1 jn) ((cG (R:=R) (L:=L) (L':=L') i o2 (hn i n2).2).1 wF) e]
def gO:Env->List Nat
 | []=>[]
 | (_,v)::r=>cy v++gO r
theorem jl:∀ {e:Env} {t:Nat} {v:V} {i:Nat},get e t=some v->iC v i->i∈gO e
 | [],t,v,i,h,_=>by cases h
 | (k,u)::r,t,v,i,h,hi=>by
  simp only[get]at h;split at h
  ·cases h
   exact List.mem_append.2 (.inl (jd i _ hi))
  ·exact List.mem_append.2 (.inr (jl h hi))
end
def idx:List Nat->Nat->Nat->Option Nat
 | [],_,_=>none
 | k::r,n,i=>match Nat.beq k i with
  | true=>some n
  | false=>idx r (n+1) i
def rA(c:Nat)(tb:List Nat)(i:Nat):Nat:=
 match idx tb c i with
 | some k=>k
 | none=>i
def sr(c:Nat)(tb:List Nat)(j:Nat):Nat:=
 match Nat.ble c j with
 | true=>match tb[j-c]? with
  | some i=>i
  | none=>j
 | false=>j
theorem yq:∀ {tb:List Nat} {n i k:Nat},idx tb n i=some k->n<=k/\tb[k-n]?=some i
 | [],n,i,k,h=>by cases h
 | t::r,n,i,k,h=>by
  simp only[idx]at h;split at h
  ·rename_i he
   have:=Nat.eq_of_beq_eq_true he;subst this;cases h;exact⟨Nat.le_refl _,by simp⟩
  ·obtain⟨h1,h2⟩:=yq h
   refine⟨by omega,?_⟩;have:k-n=(k-(n+1))+1:=by omega
   rw[this,List.getElem?_cons_succ];exact h2
theorem DR:∀ {tb:List Nat} {n i:Nat},idx tb n i=none->i∉tb
 | [],n,i,h=>by simp
 | t::r,n,i,h=>by
  simp only[idx]at h;split at h
  ·cases h
  ·rename_i he
   intro hm;rcases List.mem_cons.1 hm with rfl|hm
   ·simp at he
   ·exact DR h hm
theorem Tr.XO{F:Nat->Nat}{w:World}{b:Nat}{o o':Go.Obj}(h:w.heap[b]?=some o)(hc:∀ c T x,o ≠ .cells c T x)(hm:∀ e c,o ≠ .map e c)(pb:∀ c T x,o' ≠ .cells c T x):Tr F w F (w.putObj b o'):=by
 have hk:∀ x,x≠b->(w.putObj b o').heap[x]?=w.heap[x]?:=fun x hx=>World.putObj_heap_other hx;refine⟨rfl,rfl,rfl,by simp,fun _=>Nat.le_refl _,fun x i hx=>?_,fun x en c hx Ob=>?_⟩
 ·by_cases he:x=b
  ·subst he
   have h1:=World.putObj_heap_same (w:=w) (o:=o') (cf h);have k1:w.cell? ⟨x,i,none⟩=none:=by
    simp only[World.cell?,h];cases o<;>first|rfl|exact absurd rfl (hc _ _ _)
   have k2:(w.putObj x o').cell? ⟨x,i,none⟩=none:=by
    simp only[World.cell?,h1];cases o'<;>first|rfl|exact absurd rfl (pb _ _ _)
   rw[k1,k2]
  ·exact jH (hk x he)
 ·by_cases he:x=b
  ·subst he;rw[h]at Ob;cases Ob;exact absurd rfl (hm _ _)
  ·rw[hk x he];exact Ob
theorem cb.tF{yv:Option Nat}{L:Loc}{F:Nat->Nat}{w:World}{id:Nat}{o:Obj}(h:cb yv L F w id o)(hb:aV L id o){x:Go.Obj}(hx:w.heap[L.ρ id]?=some x):(∀ lp,x ≠ .loop lp)/\(∀ d,x ≠ .deferred d):=by
 cases o with
 | box c=>obtain⟨c',T,hc,_⟩:=h;rw[hc]at hx;cases hx;exact⟨fun _ h=>(by cases h),fun _ h=>(by cases h)⟩
 | arr sz es=>
  obtain⟨_,_,h⟩:=h;rcases h with⟨_,hk⟩|⟨c,T,hc,_⟩
  ·exact absurd hk hb
  ·rw[hc]at hx;cases hx;exact⟨fun _ h=>(by cases h),fun _ h=>(by cases h)⟩
 | map cJ=>obtain⟨en,c,hc,_⟩:=h;rw[hc]at hx;cases hx;exact⟨fun _ h=>(by cases h),fun _ h=>(by cases h)⟩
 | iter s n=>
  have hc:w.heap[L.ρ id]?=_:=h;rw[hc]at hx;cases hx;exact⟨fun _ h=>(by cases h),fun _ h=>(by cases h)⟩
 | buf t s=>obtain⟨_,hc,_⟩:=h;rw[hc]at hx;cases hx;exact⟨fun _ h=>(by cases h),fun _ h=>(by cases h)⟩
 | tb t l=>obtain⟨_,hc,_⟩:=h;rw[hc]at hx;cases hx;exact⟨fun _ h=>(by cases h),fun _ h=>(by cases h)⟩
 | mit v n l u=>obtain⟨_,_,_,hc,_⟩:=h;rw[hc]at hx;cases hx;exact⟨fun _ h=>(by cases h),fun _ h=>(by cases h)⟩
theorem aZ.nA{σ:Type}{cx:Cx σ}{L:Loc}{F F':Nat->Nat}{h:Heap}{s:σ}{w w':World}(hh:aZ cx L F h s w)(tr:Tr F w F' w')(hf:∀ b,w'.heap.size<=b->F' b=0)
  (hC:∀ b,cx.C s b->w'.heap[b]?=w.heap[b]?/\F' b=F b) (ho:∀ id o,get h id=some o->aV L id o->w'.heap[L.ρ id]?=w.heap[L.ρ id]?/\F' (L.ρ id)=F (L.ρ id)):aZ cx L F' h s w':=by
 refine⟨cx.fS hh.hg tr hf hC,fun b hb=>Nat.lt_of_lt_of_le (hh.iw b hb) tr.size,hf,fun id o hi=>?_,fun id o hi hb=>?_,hh.inj⟩
 ·exact cb.mono tr id o (fun _ _=>⟨rfl,rfl⟩) ⟨rfl,rfl⟩ (fun hb=>(ho id o hi hb).1) (hh.obj id o hi)
 ·rw[(ho id o hi hb).2];exact hh.own id o hi hb
end Go.PX
