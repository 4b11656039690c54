import Derived.Test.YtdadolcglibjdaaGreatPxG
import Derived.IntWalk
import Derived.RangeFuncNested
set_option linter.all false
namespace Go.PX
open Go.RowKit
theorem Bh{tb:List Nat}{d:Option Nat}{v:V}{h':aq}(h:fA tb d v h'=true):dD (cO tb d v h')=true:=by
 simp only[fA,Bool.and_eq_true]at h;exact h.2
theorem su{l:List Nat}(h:l.Nodup){i j a:Nat}(hi:l[i]?=some a)(hj:l[j]?=some a):i=j:=by
 obtain⟨G3,Jh⟩:=List.getElem?_eq_some_iff.1 hi;obtain⟨EK,XC⟩:=List.getElem?_eq_some_iff.1 hj;have hp:=List.pairwise_iff_getElem.1 h;rcases Nat.lt_trichotomy i j with dI|heq|Sw
 ·exact absurd (Jh.trans XC.symm) (hp i j G3 EK dI)
 ·exact heq
 ·exact absurd (XC.trans Jh.symm) (hp j i EK G3 Sw)
def kC(L L':Loc)(NL:List Nat)(c:Nat):Loc:=⟨fun x=>if x∈NL then L'.ρ (x-c+2000000) else L.ρ x,fun x=>if x∈NL then L'.κ (x-c+2000000) else L.κ x⟩
theorem CG{L L':Loc}{NL:List Nat}{c x:Nat}(hx:x∉NL):(kC L L' NL c).ρ x=L.ρ x/\(kC L L' NL c).κ x=L.κ x:=⟨if_neg hx,if_neg hx⟩
theorem CF{L L':Loc}{NL:List Nat}{c x:Nat}(hx:x∈NL):(kC L L' NL c).ρ x=L'.ρ (x-c+2000000)/\(kC L L' NL c).κ x=L'.κ (x-c+2000000):=⟨if_pos hx,if_pos hx⟩
theorem DY{h st h0:aq}{R:Nat->Nat}{tb:List Nat}(hh:cN h st)(fe:gH R h 1000000 tb h0)(nG:∀ k id,tb[k]?=some id->R (1000000+k)=id) :
  ∀ i o,get h0 i=some o -> ∃ k id,i=1000000+k/\tb[k]?=some id/\R i=id/\get st id=some (iD R o):=by
 intro i o hi;obtain⟨k,id,h1,h2,h3⟩:=tk fe i o hi;exact⟨k,id,h1,h2,by rw[h1];exact nG k id h2,hh _ _ h3⟩
theorem OZ{σ:Type}:∀ (ws:List Wr) (st dm:St σ),st.env=dm.env->st.heap=dm.heap->cz (aF st ws)=cz (aF dm ws)
 | [],⟨e,h,s⟩,⟨e',h',s'⟩,h1,h2=>by
  simp only at h1 h2;subst h1;subst h2;rfl
 | w::r,⟨e,h,s⟩,⟨e',h',s'⟩,h1,h2=>by
  simp only at h1 h2;subst h1;subst h2;rw[aF,aF];exact OZ r _ _ (by cases w<;>rfl) (by cases w<;>rfl)
theorem ez{L L2:Loc}{y:Nat}{o:Obj}(h:L2.κ y=L.κ y)(hb:aJ L2 y o):aJ L y o:=by
 cases o with
 | arr sz es=>intro e;exact hb (h.trans e)
 | box c=>exact trivial
 | map b0=>exact trivial
 | iter s n=>exact trivial
 | buf t s=>exact trivial
 | tb t l=>exact trivial
 | fz l=>exact hb.elim
 | mit v n l u=>exact trivial
def xb(R:Nat->Nat)(L:Loc)(h0:aq)(b:Nat):Prop:=∃ i o,get h0 i=some o/\aJ ⟨fun i=>L.ρ (R i),fun i=>L.κ (R i)⟩ i o/\L.ρ (R i)=b
theorem u3{σ:Type}{cx:Cx σ}{r:Option Nat}{m:List Nat}{L:Loc}{F:Nat->Nat}{st:St σ}{a:Act}{w:World}{tb:List Nat}{d:Option Nat}{v:V}{h':aq}(hB:fA tb d v h'=true){R:Nat->Nat}(hR:ck tb (d.getD 0)=R)
  {h h0:aq} (hh:cN h st.heap) (fe:gH R h 1000000 tb h0) (hg:Good cx r m L F st a w) (hd:∀ k,d=some k->k<a.tmps.size) {s':σ} {x:Value} {w':World} {L':Loc} {F':Nat->Nat}
  (AH:cx.HG s' w' F') (qn:∀ b,cx.C s' b->b<w'.heap.size) (EG:∀ b,b<w.heap.size->¬ xb R L h0 b->¬ cx.C st.s b->¬ cx.C s' b)
  (iG:∀ b,b<w.heap.size->¬ xb R L h0 b->¬ cx.C st.s b->w'.heap[b]?=w.heap[b]?/\F' b=F b) (u9:∀ b,w'.heap.size<=b->F' b=0)
  (qo:∀ i o,get h' i=some o->bF cx.yv L' F' w' i o)
  (AS:∀ i o,get h' i=some o->aJ L' i o->F' (L'.ρ i)=0/\¬ cx.C s' (L'.ρ i)/\(L'.ρ i<w.heap.size->xb R L h0 (L'.ρ i)))
  (MC:∀ i j o p,get h' i=some o->get h' j=some p->aJ L' i o->aJ L' j p->L'.ρ i=L'.ρ j->i=j)
  (hv:aT cx.yv L' F' w' v x) (tr:Tr F w F' w') (mT:uC ⟨fun i=>L.ρ (R i),fun i=>L.κ (R i)⟩ L') :
  ∃ L2,Good cx r m L2 F' (aF ⟨st.env,st.heap,s'⟩ (cO tb d v h')) (a.put d x) w':=by
 have Hc:=Bh hB;simp only[fA,Bool.and_eq_true]at hB;obtain⟨⟨⟨⟨⟨⟨⟨⟨⟨b1,b2⟩,b3⟩,b4⟩,b5⟩,b6⟩,b7⟩,b8⟩,b9⟩,_⟩:=hB;have tO:=gT b1;have b4:=fV b4;have b5:=p8 b5;have b6:=p8 b6;have b7:∀ i∈cC h',i<2000064:=fun i hi=>Nat.le_of_ble_eq_true (List.all_eq_true.1 b7 i hi);have b8:=Nat.le_of_ble_eq_true b8;have b9:=Nat.le_of_ble_eq_true b9;rw[hR]at b4;have nG:∀ k id,tb[k]?=some id->R (1000000+k)=id:=fun k id hk=>by rw[<- hR];exact qc hk b9
 have NW:∀ i,2000000<=i->R i=100000+64*d.getD 0+(i-2000000):=fun i hi=>by rw[<- hR];exact r8 hi
 obtain⟨rZ,KP⟩:∃ rZ,rZ=xb R L h0:=⟨_,rfl⟩;rw[<- KP]at EG iG AS;have Vv:∀ b,rZ b ↔ ∃ i o,get h0 i=some o/\aJ ⟨fun i=>L.ρ (R i),fun i=>L.κ (R i)⟩ i o/\L.ρ (R i)=b:=fun b=>by rw[KP];exact Iff.rfl
 have Mx:=DY hh fe nG;have GS:∀ i o,get h0 i=some o->bF cx.yv ⟨fun i=>L.ρ (R i),fun i=>L.κ (R i)⟩ F w i o:=fun i o hi=>by
  obtain⟨k,id,rfl,h2,h3,h4⟩:=Mx i o hi;have:=hg.heap.obj id _ h4;rw[<- h3]at this;exact(bF.mg (R:=R) (L:=⟨fun i=>L.ρ (R i),fun i=>L.κ (R i)⟩) (L':=L) (1000000+k) o (fun _ _=>⟨rfl,rfl⟩) ⟨rfl,rfl⟩).1 this
 let NL:=(cC h').map R
 obtain⟨L2,Xq⟩:∃ L2,L2=kC L L' NL (100000+64*d.getD 0):=⟨_,rfl⟩;have nE:∀ x,x∉NL->L2.ρ x=L.ρ x/\L2.κ x=L.κ x:=fun x hx=>by rw[Xq];exact CG hx
 have NS:∀ i,i∈cC h'->L2.ρ (R i)=L'.ρ i/\L2.κ (R i)=L'.κ i:=by
  intro i hi;have G0:=mP hi;have hm:R i∈NL:=List.mem_map.2 ⟨i,hi,rfl⟩;have:R i-(100000+64*d.getD 0)+2000000=i:=by rw[NW i G0];omega
  have h2:=CF (L:=L) (L':=L') (c:=100000+64*d.getD 0) hm;rw[this]at h2;rw[Xq];exact h2
 have Ll:∀ i,1000000<=i->i<1000000+tb.length->L2.ρ (R i)=L'.ρ i/\L2.κ (R i)=L'.κ i:=by
  intro i h1 h2;obtain⟨k,jc⟩:∃ k,i=1000000+k:=⟨i-1000000,by omega⟩;have dI:k<tb.length:=by omega
  obtain⟨y,hk⟩:∃ y,tb[k]?=some y:=⟨_,List.getElem?_eq_getElem dI⟩;have YO:R i=y:=by rw[jc];exact nG _ _ hk
  have hn:R i∉NL:=by rw[YO];exact b4 _ (List.mem_of_getElem? hk)
  obtain⟨p1,p2⟩:=mT i ⟨h1,by omega⟩;exact⟨(nE _ hn).1.trans p1.symm,(nE _ hn).2.trans p2.symm⟩
 have rX:∀ i,((1000000<=i/\i<1000000+tb.length)\/i∈cC h')->L2.ρ (R i)=L'.ρ i/\L2.κ (R i)=L'.κ i:=fun i hi=>hi.elim (fun h=>Ll i h.1 h.2) (NS i);have fP:=hg.qe NL;have RI:=Dy NL st (fun _=>False) (fun _ h=>h.elim);have wE:(qe st NL).s=st.s:=KA _ _;have Rb:∀ (ws:List Wr),cz (aF (⟨st.env,st.heap,s'⟩:St σ) ws)=cz (aF st ws):=fun ws=>OZ ws _ _ rfl rfl;have FP:cz (aF st (cO tb d v h'))=bT (cz (qe st NL)) (cO tb d v h'):=by
  rw[AA _ _ Hc,De,hR]
 have Mf:∀ x∈NL,100000<=x/\x<1000000:=by
  intro x hx;obtain⟨i,hi,rfl⟩:=List.mem_map.1 hx;have h1:=mP hi;have h2:=b7 i hi;rw[NW i h1];omega
 have EZ:cO tb d v h'=oh R h' (cC h')++(kx R h' 1000000 tb++aO d (mg R v)):=by rw[<- hR];rfl
 have VT:∀ t u,get (aF (⟨st.env,st.heap,s'⟩:St σ) (cO tb d v h')).env t=some u->(d=some t/\u=mg R v)\/(d≠some t/\get (qe st NL).env t=some u):=by
  intro t u SI;have ht:(cz (aF (⟨st.env,st.heap,s'⟩:St σ) (cO tb d v h'))).env t=some u:=SI;clear SI;rw[Rb,FP,EZ,jO,jO]at ht
  cases d with
  | none=>
   simp only[aO,bT,vu,zw]at ht;exact .inr ⟨by simp,ht⟩
  | some d=>
   simp only[aO,bT,fI,vu,zw]at ht;split at ht
   ·rename_i e1;cases ht;exact .inl ⟨by rw[e1],rfl⟩
   ·rename_i e1;exact .inr ⟨by simpa using Ne.symm e1,ht⟩
 have AM:∀ y o,get (aF (⟨st.env,st.heap,s'⟩:St σ) (cO tb d v h')).heap y=some o->(∃ i o0,((1000000<=i/\i<1000000+tb.length)\/i∈cC h')/\y=R i/\get h' i=some o0/\o=iD R o0)\/(y∉tb/\y∉NL/\get (qe st NL).heap y=some o):=by
  intro y o hy;have hy:(cz (aF (⟨st.env,st.heap,s'⟩:St σ) (cO tb d v h'))).heap y=some o:=hy;rw[Rb,FP,EZ,jO,jO]at hy;have hy:(bT (bT (cz (qe st NL)) (oh R h' (cC h'))) (kx R h' 1000000 tb)).heap y=some o:=by
   cases d with
   | none=>exact hy
   | some d=>exact hy
  rcases xO R h' tb 1000000 _ y o hy with⟨k,o0,k1,k2,k3⟩|⟨k1,k2⟩
  ·have hk:k<tb.length:=(List.getElem?_eq_some_iff.1 k1).1
   exact .inl ⟨1000000+k,o0,.inl ⟨by omega,by omega⟩,(nG k y k1).symm,k2,k3⟩
  ·rcases Bf R h' (cC h') _ y o (fun i hi=>tw hi) k2 with⟨i,o0,j1,j2,j3,j4⟩|⟨j1,j2⟩
   ·exact .inl ⟨i,o0,.inr j1,j2,j3,j4⟩
   ·exact .inr ⟨k1,j1,j2⟩
 have rest:∀ y o,y∉tb->y∉NL->get (qe st NL).heap y=some o->aJ L y o->¬ rZ (L.ρ y):=by
  intro y o h1 h2 hy hb EO;obtain⟨i,o',hi,md,px⟩:=(Vv _).1 EO;obtain⟨k,id,g1,g2,g3,g4⟩:=Mx i o' hi;have Rf:id∉NL:=b4 _ (List.mem_of_getElem? g2);have VN:get (qe st NL).heap id=some (n6 NL (iD R o')):=by
   rw[lP,if_neg Rf,g4];rfl
  have nY:aJ L id (iD R o'):=by rw[<- g3];exact(bX (R:=R) (L:=⟨fun i=>L.ρ (R i),fun i=>L.κ (R i)⟩) (L':=L) i o' rfl).2 md
  have Jk:∀ (l:List Nat) (p:Obj),aJ L id p->aJ L id (n6 l p):=by
   intro l
   induction l with
   | nil=>exact fun p hp=>hp
   | cons i r ih=>exact fun p hp=>ih _ ((cM L i id p).2 hp)
  have:=fP.heap.inj id y _ o VN hy (Jk NL _ nY) hb (by rw[<- g3];exact px);subst this;exact h1 (List.mem_of_getElem? g2)
 have te:(aF (⟨st.env,st.heap,s'⟩:St σ) (cO tb d v h')).s=s':=cV _ _;have trk:Tr F w F' w':=tr;refine⟨L2,⟨by rw[te];exact AH,fun b hb=>qn b (by rw[<- te];exact hb),u9,?_,?_,?_⟩,?_,?_,?_,hg.wS,?_,?_,?_⟩
 ·intro y o hy
  rcases AM y o hy with⟨i,o0,hi,rfl,h2,rfl⟩|⟨h1,h2,h3⟩
  ·have:=qo i o0 h2
   refine(bF.mg (R:=R) (L:=L') (L':=L2) i o0 (fun j hj=>rX j (b5 j ((aU h2).2 j (ed j o0 hj)))) (rX i hi)).2 this
  ·refine bF.mono tr y o (fun j hj=>nE j fun hm=>(RI j (.inl hm)).heap y o h3 hj) (nE y h2) (fun hb=>?_) (fP.heap.obj y o h3)
   exact(iG _ ((fP.heap.obj y o h3).lt hb) (rest y o h1 h2 h3 hb) (by rw[<- wE];exact(fP.heap.own y o h3 hb).2)).1
 ·intro y o hy hb
  rcases AM y o hy with⟨i,o0,hi,rfl,h2,rfl⟩|⟨h1,h2,h3⟩
  ·have kR:aJ L' i o0:=(bX (R:=R) (L:=L') (L':=L2) i o0 (rX i hi).2).1 hb
   obtain⟨k1,k2,_⟩:=AS i o0 h2 kR;rw[(rX i hi).1];exact⟨k1,by rw[te];exact k2⟩
  ·have kR:aJ L y o:=ez (nE y h2).2 hb
   obtain⟨k1,k2⟩:=fP.heap.own y o h3 kR;rw[(nE y h2).1];rw[wE]at k2;have dI:=(fP.heap.obj y o h3).lt kR;have hr:=rest y o h1 h2 h3 kR;exact⟨(iG _ dI hr k2).2.trans k1,by rw[te];exact EG _ dI hr k2⟩
 ·intro y z o p hy hz DL Sr ID
  have out:∀ y o,y∉tb->y∉NL->get (qe st NL).heap y=some o->aJ L2 y o->aJ L y o/\(L.ρ y<w.heap.size/\¬ rZ (L.ρ y))/\L2.ρ y=L.ρ y:=by
   intro y o h1 h2 h3 hb;have kR:aJ L y o:=ez (nE y h2).2 hb;exact⟨kR,⟨(fP.heap.obj y o h3).lt kR,rest y o h1 h2 h3 kR⟩,(nE y h2).1⟩
  rcases AM y o hy with⟨i,o0,hi,rfl,h2,rfl⟩|⟨h1,h2,h3⟩<;>rcases AM z p hz with⟨j,p0,hj,rfl,g2,rfl⟩|⟨g1,g2,g3⟩
  ·have nY:aJ L' i o0:=(bX (R:=R) (L:=L') (L':=L2) i o0 (rX i hi).2).1 DL
   have wJ:aJ L' j p0:=(bX (R:=R) (L:=L') (L':=L2) j p0 (rX j hj).2).1 Sr;rw[(rX i hi).1,(rX j hj).1]at ID;rw[MC i j o0 p0 h2 g2 nY wJ ID]
  ·exfalso
   have nY:aJ L' i o0:=(bX (R:=R) (L:=L') (L':=L2) i o0 (rX i hi).2).1 DL;obtain⟨q1,q2,q3⟩:=out z p g1 g2 g3 Sr;rw[(rX i hi).1,q3]at ID;exact q2.2 (by rw[<- ID];exact(AS i o0 h2 nY).2.2 (by rw[ID];exact q2.1))
  ·exfalso
   have wJ:aJ L' j p0:=(bX (R:=R) (L:=L') (L':=L2) j p0 (rX j hj).2).1 Sr;obtain⟨q1,q2,q3⟩:=out y o h1 h2 h3 DL;rw[(rX j hj).1,q3]at ID;exact q2.2 (by rw[ID];exact(AS j p0 g2 wJ).2.2 (by rw[<- ID];exact q2.1))
  ·obtain⟨q1,q2,q3⟩:=out y o h1 h2 h3 DL
   obtain⟨q4,q5,q6⟩:=out z p g1 g2 g3 Sr;rw[q3,q6]at ID;exact fP.heap.inj y z o p h3 g3 q1 q4 ID
 ·intro t u ht
  rcases VT t u ht with⟨rfl,rfl⟩|⟨h1,h2⟩
  ·refine⟨x,?_,?_⟩
   ·simp[Act.put,Array.getElem?_setIfInBounds,hd t rfl]
   ·exact(aT.mg (R:=R) (L:=L') (L':=L2) v x fun j hj=>rX j (b6 j (gS j v hj))).2 hv
  ·obtain⟨y,hy,AW⟩:=fP.env t u h2
   refine⟨y,?_,aT.mono tr u y (fun j hj=>nE j fun hm=>(RI j (.inl hm)).env t u h2 hj) AW⟩
   cases d with
   | none=>exact hy
   | some d=>
    simp only[Act.put];rw[Array.getElem?_setIfInBounds_ne (by rintro rfl;exact h1 rfl)];exact hy
 ·cases d with
  | none=>exact hg.wA
  | some d=>exact hg.wA
 ·intro b hb
  obtain⟨k1,k2⟩:=hg.pR b hb;have nh:¬ rZ b:=?_
  ·refine⟨?_,by rw[te];exact EG b (bH k1) nh k2⟩
   rw[(iG b (bH k1) nh k2).1];exact k1
  intro EO;obtain⟨i,o,hi,j8,rfl⟩:=(Vv _).1 EO;have:=GS i o hi
  cases o with
  | box c=>obtain⟨c',T,hc,_⟩:=this;rw[k1]at hc;cases hc
  | arr sz es=>
   obtain⟨_,_,h⟩:=this;rcases h with⟨_,hk⟩|⟨c,T,hc,_⟩
   ·exact j8 hk
   ·rw[k1]at hc;cases hc
  | map b0=>obtain⟨en,c,hc,_⟩:=this;rw[k1]at hc;cases hc
  | iter s n=>have hc:w.heap[L.ρ (R i)]?=_:=this;rw[k1]at hc;cases hc
  | buf t s=>obtain⟨_,hc,_⟩:=this;rw[k1]at hc;cases hc
  | tb t l=>obtain⟨_,hc,_⟩:=this;rw[k1]at hc;cases hc
  | fz l=>exact j8
  | mit v n l u=>obtain⟨_,_,_,hc,_⟩:=this;rw[k1]at hc;cases hc
 ·intro l hl
  obtain⟨lp,⟨k1,k0⟩,k2⟩:=hg.lk l hl;have nh:¬ rZ l:=?_
  ·refine⟨lp,⟨?_,k0⟩,by rw[te];exact EG l (bH k1) nh k2⟩
   rw[(iG l (bH k1) nh k2).1];exact k1
  intro EO;obtain⟨i,o,hi,j8,rfl⟩:=(Vv _).1 EO;have:=GS i o hi
  cases o with
  | box c=>obtain⟨c',T,hc,_⟩:=this;rw[k1]at hc;cases hc
  | arr sz es=>
   obtain⟨_,_,h⟩:=this;rcases h with⟨_,hk⟩|⟨c,T,hc,_⟩
   ·exact j8 hk
   ·rw[k1]at hc;cases hc
  | map b0=>obtain⟨en,c,hc,_⟩:=this;rw[k1]at hc;cases hc
  | iter s n=>have hc:w.heap[L.ρ (R i)]?=_:=this;rw[k1]at hc;cases hc
  | buf t s=>obtain⟨_,hc,_⟩:=this;rw[k1]at hc;cases hc
  | tb t l=>obtain⟨_,hc,_⟩:=this;rw[k1]at hc;cases hc
  | fz l=>exact j8
  | mit v n l u=>obtain⟨_,_,_,hc,_⟩:=this;rw[k1]at hc;cases hc
 ·intro i hi
  have hn:i∉NL:=fun hm=>by have:=Mf i hm;unfold pinned at hi;omega
  rw[(nE i hn).1,(nE i hn).2];exact hg.mT i hi
 ·rw[dz];exact hg.wm
theorem xG{σ:Type}{cx:Cx σ}{r:Option Nat}{m:List Nat}{L:Loc}{F:Nat->Nat}{st:St σ}{a:Act}{w:World}{tb:List Nat}{R:Nat->Nat}{h h0:aq}(hh:cN h st.heap)(fe:gH R h 1000000 tb h0)
  (nG:∀ k id,tb[k]?=some id->R (1000000+k)=id) (tO:tb.Nodup) (hg:Good cx r m L F st a w) :
  bp cx ⟨fun i=>L.ρ (R i),fun i=>L.κ (R i)⟩ F h0 st.s w:=by
 have Mx:=DY hh fe nG;refine⟨hg.heap.hg,hg.heap.j6,hg.heap.fresh,fun i o hi=>?_,fun i o hi j8=>?_,fun i j o p hi hj md jv px=>?_⟩
 ·obtain⟨k,id,rfl,h2,h3,h4⟩:=Mx i o hi
  have:=hg.heap.obj id _ h4;rw[<- h3]at this;exact(bF.mg (R:=R) (L:=⟨fun i=>L.ρ (R i),fun i=>L.κ (R i)⟩) (L':=L) (1000000+k) o (fun _ _=>⟨rfl,rfl⟩) ⟨rfl,rfl⟩).1 this
 ·obtain⟨k,id,h1,h2,h3,h4⟩:=Mx i o hi
  have kR:aJ L id (iD R o):=by rw[<- h3];exact(bX (R:=R) (L:=⟨fun i=>L.ρ (R i),fun i=>L.κ (R i)⟩) (L':=L) i o rfl).2 j8
  obtain⟨k1,k2⟩:=hg.heap.own id _ h4 kR;rw[<- h3]at k1 k2;exact⟨k1,k2⟩
 ·obtain⟨k,id,h1,h2,h3,h4⟩:=Mx i o hi
  obtain⟨k',mI,za,YG,Xl,Xm⟩:=Mx j p hj;have nY:aJ L id (iD R o):=by rw[<- h3];exact(bX (R:=R) (L:=⟨fun i=>L.ρ (R i),fun i=>L.κ (R i)⟩) (L':=L) i o rfl).2 md
  have wJ:aJ L mI (iD R p):=by rw[<- Xl];exact(bX (R:=R) (L:=⟨fun i=>L.ρ (R i),fun i=>L.κ (R i)⟩) (L':=L) j p rfl).2 jv
  have px:L.ρ (R i)=L.ρ (R j):=px;have:=hg.heap.inj id mI _ _ h4 Xm nY wJ (by rw[<- h3,<- Xl];exact px);subst this;rw[h1,za,su tO h2 YG]
def CA{σ:Type}(cx:Cx σ)(s0:σ)(w:World)(F:Nat->Nat)(rZ:Nat->Prop):Cx σ where
 C:=fun s b=>cx.C s b\/(b<w.heap.size/\¬ rZ b)
 HG:=fun s w' F'=>cx.HG s w' F'/\w.heap.size<=w'.heap.size/\(∀ b,b<w.heap.size->¬ cx.C s0 b->¬ cx.C s b) /\ ∀ b,b<w.heap.size->¬ rZ b->¬ cx.C s0 b->w'.heap[b]?=w.heap[b]?/\F' b=F b
 yv:=cx.yv
 xZ:=cx.xZ
 pρ:=cx.pρ
 pκ:=cx.pκ
 eJ:=by
  rintro s w1 F1 w2 F2 ⟨h1,h0,h2,h3⟩ tr hf hk;refine⟨cx.eJ h1 tr hf fun b hb=>hk b (.inl hb),Nat.le_trans h0 tr.size,h2,fun b hb hl hc=>?_⟩;obtain⟨k1,k2⟩:=hk b (.inr ⟨hb,hl⟩);obtain⟨k3,k4⟩:=h3 b hb hl hc;exact⟨k1.trans k3,k2.trans k4⟩
theorem n8{σ:Type}{P:Program}{Y:Hd σ}{cx:Cx σ}{s0:σ}{w:World}{F:Nat->Nat}{rZ:Nat->Prop}(hY:dp P Y cx):dp P Y (CA cx s0 w F rZ):=by
 refine⟨?_,fun s w F hh=>hY.laid s w F hh.1⟩;intro l hl args h s Q hy L1 F1 a9 w1 hh hr;obtain⟨AH,cY,EG,iG⟩:=hh.hg;obtain⟨fn,tmps,zU,body,h1,h2⟩:=hY.yld l hl args h s Q hy L1 F1 a9 w1 ⟨AH,fun b hb=>hh.j6 b (.inl hb),hh.fresh,hh.obj,fun id o ho hb=>⟨(hh.own id o ho hb).1,fun hC=>(hh.own id o ho hb).2 (.inl hC)⟩,hh.inj⟩ hr;refine⟨fn,tmps,zU,body,h1,h2.mono ?_⟩;rintro e w' ⟨x,he,v,h',s',L',F',hq,tM,hv,tr,mT,k1,k2,k3⟩;have py:∀ b,b<w.heap.size->¬ rZ b->b<w1.heap.size /\ ∀ id o,get h id=some o->aJ L1 id o->L1.ρ id≠b:=fun b hb hl=>
  ⟨hh.j6 b (.inr ⟨hb,hl⟩),fun id o ho j8 e=>(hh.own id o ho j8).2 (.inr ⟨by rw[e];exact hb,by rw[e];exact hl⟩)⟩
 refine⟨x,he,v,h',s',L',F',hq,⟨⟨tM.hg,Nat.le_trans cY tr.size,fun b hb hc=>k1 b (Nat.lt_of_lt_of_le hb cY) (EG b hb hc),fun b hb hl hc=>?_⟩,fun b hb=>?_,tM.fresh,tM.obj,fun id o ho hb=>⟨(tM.own id o ho hb).1,fun hC=>?_⟩,tM.inj⟩,hv,tr,mT,fun b hb hC GR=>?_,fun b hb hC=>k2 b hb (fun h=>hC (.inl h)),k3⟩
 ·obtain⟨p1,p2⟩:=py b hb hl
  obtain⟨q1,q2⟩:=iG b hb hl hc;obtain⟨r1,r2⟩:=k2 b p1 (EG b hb hc) p2;exact⟨r1.trans q1,r2.trans q2⟩
 ·rcases hb with hb|⟨hb,hl⟩
  ·exact tM.j6 b hb
  ·exact Nat.lt_of_lt_of_le (py b hb hl).1 tr.size
 ·rcases hC with hC|⟨c1,c2⟩
  ·exact(tM.own id o ho hb).2 hC
  ·obtain⟨p1,p2⟩:=py _ c1 c2
   obtain⟨mI,o',Cp,kR,e⟩:=k3 id o ho hb p1;exact p2 mI o' Cp kR e
 ·rcases GR with GR|GR
  ·exact k1 b hb (fun h=>hC (.inl h)) GR
  ·exact hC (.inr GR)
theorem Ak{σ:Type}{P:Program}{Y:Hd σ}{f:FuncId}{args0:List V}{h0:aq}{Q:V->aq->σ->Prop}{cx:Cx σ}{r:Option Nat}{m:List Nat}{L:Loc}{F:Nat->Nat}{st:St σ}{a:Act}{w:World}(hf:FM P Y f args0 h0 st.s Q)
  (tb:List Nat) {h:aq} {d:Option Nat} {args:List V} (bR:kU (ck tb (d.getD 0)) args0=args) (fe:gH (ck tb (d.getD 0)) h 1000000 tb h0) (tO:fS tb=true) (zX:Nat.ble tb.length 1000=true)
  (hY:dp P Y cx) (hh:cN h st.heap) (hg:Good cx r m L F st a w) (hd:∀ k,d=some k->k<a.tmps.size) {a9:Array Value} (hr:aj cx.yv L F w args a9.toList) :
  CallsIn Fence.wide 0 P f a9 w fun e w'=>∃ x,e = .returned x /\ ∃ v h' s',Q v h' s'/\(fA tb d v h'=true -> ∃ L2 F',Good cx r m L2 F' (aF ⟨st.env,st.heap,s'⟩ (cO tb d v h')) (a.put d x) w'/\Tr F w F' w'):=by
 have tO:=gT tO;have zX:=Nat.le_of_ble_eq_true zX;obtain⟨R,hR⟩:∃ R,R=ck tb (d.getD 0):=⟨_,rfl⟩;have nG:∀ k id,tb[k]?=some id->R (1000000+k)=id:=fun k id hk=>by rw[hR];exact qc hk zX
 rw[<- hR]at bR fe;subst bR;have hH:=xG hh fe nG tO hg;have QQ:bp (CA cx st.s w F (xb R L h0)) ⟨fun i=>L.ρ (R i),fun i=>L.κ (R i)⟩ F h0 st.s w:=
  ⟨⟨hg.heap.hg,Nat.le_refl _,fun b hb hc=>hc,fun b hb hl hc=>⟨rfl,rfl⟩⟩,fun b hb=>hb.elim (hg.heap.j6 b) (fun h=>h.1),hH.fresh,hH.obj,fun i o hi j8=>⟨(hH.own i o hi j8).1,fun hC=>hC.elim (hH.own i o hi j8).2 fun hC=>hC.2 ⟨i,o,hi,j8,rfl⟩⟩,hH.inj⟩
 have zb:aj cx.yv ⟨fun i=>L.ρ (R i),fun i=>L.κ (R i)⟩ F w args0 a9.toList:=(aj.mg (R:=R) args0 _ fun _ _=>⟨rfl,rfl⟩).1 hr;have cJ:=hf.run _ (n8 hY) _ F a9 w QQ zb;refine cJ.mono ?_;rintro en w' ⟨x,rfl,v,h',s',L',F',hq,BT,hv,tr,mT⟩;refine⟨x,rfl,v,h',s',hq,fun hB=>?_⟩;obtain⟨AH,_,EG,iG⟩:=BT.hg;obtain⟨L2,mf⟩:=u3 hB hR.symm hh fe hg hd AH (fun b hb=>BT.j6 b (.inl hb)) (fun b hb hl hc=>EG b hb hc) iG BT.fresh BT.obj
  (fun i o hi hb=>⟨(BT.own i o hi hb).1,fun hC=>(BT.own i o hi hb).2 (.inl hC),fun dI=>Classical.byContradiction fun hl=>(BT.own i o hi hb).2 (.inr ⟨dI,hl⟩)⟩)
  BT.inj hv tr mT
 exact⟨L2,F',mf,tr⟩
theorem iW{P:Program}{f:FuncId}{args0:List V}{h0:aq}{v0:V}{h1:aq}(hf:sU P f args0 h0 fun v h'=>v=v0/\h'=h1)(tb:List Nat){e:Env}{h:aq}{d:Option Nat}{args:List V}
  (bR:kU (ck tb (d.getD 0)) args0=args) (fe:gH (ck tb (d.getD 0)) h 1000000 tb h0) (hB:fA tb d v0 h1=true):fx P e h d f args (cO tb d v0 h1):=by
 refine⟨(hf (σ:=Unit) { y:=fun _ _ _ _=>False } ()).enter,?_⟩;intro σ cx tN r m L F st a w a9 he hh hg hd hr;have Xo:=hB;simp only[fA,Bool.and_eq_true]at Xo;obtain⟨⟨⟨⟨⟨⟨⟨⟨⟨b1,b2⟩,b3⟩,b4⟩,b5⟩,b6⟩,b7⟩,b8⟩,b9⟩,_⟩:=Xo;refine(Ak (hf ({ y:=fun _ _ _ _=>False }:Hd σ) st.s) tb bR fe b1 b9 ⟨fun _ _ _ _ _ _ hy=>hy.elim,tN⟩ hh hg hd hr).mono ?_;rintro en w' ⟨x,rfl,v,h',s',⟨⟨rfl,rfl⟩,rfl⟩,hk⟩;obtain⟨L2,F',mf,tr⟩:=hk hB;exact⟨x,rfl,L2,F',mf,tr⟩
theorem Gk{σ:Type}{P:Program}{Y:Hd σ}{f:FuncId}{args0:List V}{h0:aq}{s:σ}{Q:V->aq->σ->Prop}(hf:FM P Y f args0 h0 s Q)(tb:List Nat){e:Env}{h:aq}{d:Option Nat}{args:List V}{K:St σ->Prop}
  (bR:kU (ck tb (d.getD 0)) args0=args) (fe:gH (ck tb (d.getD 0)) h 1000000 tb h0) (tO:fS tb=true) (zX:Nat.ble tb.length 1000=true)
  (hq:∀ v h1 s',Q v h1 s'->fA tb d v h1=true/\K (aF ⟨e,h,s'⟩ (cO tb d v h1))):dK P Y ⟨e,h,s⟩ d f args K:=by
 refine⟨hf.enter,fun cx hY r m L F a w a9 hg hd hr=>?_⟩;refine(Ak (st:=⟨e,h,s⟩) hf tb bR fe tO zX hY (fun _ _ h=>h) hg hd hr).mono ?_;rintro en w' ⟨x,rfl,v,h',s',hv,hk⟩;obtain⟨hB,hK⟩:=hq _ _ _ hv;obtain⟨L2,F',mf,tr⟩:=hk hB;exact .inl ⟨x,rfl,_,L2,F',hK,mf,tr⟩
theorem Kp{σ:Type}{P:Program}{Y:Hd σ}{args0:List V}{h0:aq}{s:σ}{Q:V->aq->σ->Prop}(tb:List Nat){e:Env}{h:aq}{d:Option Nat}{args:List V}{K:St σ->Prop}(hy:Y.y args0 h0 s Q)
  (bR:kU (ck tb (d.getD 0)) args0=args) (fe:gH (ck tb (d.getD 0)) h 1000000 tb h0) (tO:fS tb=true) (zX:Nat.ble tb.length 1000=true)
  (hq:∀ v h1 s',Q v h1 s'->fA tb d v h1=true/\K (aF ⟨e,h,s'⟩ (cO tb d v h1))):Lq P Y ⟨e,h,s⟩ d args K:=by
 refine⟨fun cx hY l hl r m L F a w a9 hg hd hr=>?_⟩;have tO:=gT tO;have zX:=Nat.le_of_ble_eq_true zX;obtain⟨R,hR⟩:∃ R,R=ck tb (d.getD 0):=⟨_,rfl⟩;have nG:∀ k id,tb[k]?=some id->R (1000000+k)=id:=fun k id hk=>by rw[hR];exact qc hk zX
 rw[<- hR]at bR fe;subst bR;have hH:=xG (st:=⟨e,h,s⟩) (fun _ _ h=>h) fe nG tO hg;obtain⟨fn,tmps,zU,body,h1,h2⟩:=hY.yld l hl args0 h0 s Q hy ⟨fun i=>L.ρ (R i),fun i=>L.κ (R i)⟩ F a9 w hH ((aj.mg (R:=R) args0 _ fun _ _=>⟨rfl,rfl⟩).1 hr);refine⟨fn,tmps,zU,body,h1,h2.mono ?_⟩;rintro en w' ⟨x,rfl,v,h',s',L',F',hv,BT,zm,tr,mT,k1,k2,k3⟩;obtain⟨hB,hK⟩:=hq _ _ _ hv;have nh:∀ b,¬ xb R L h0 b -> ∀ id o,get h0 id=some o->aJ ⟨fun i=>L.ρ (R i),fun i=>L.κ (R i)⟩ id o->L.ρ (R id)≠b:=fun b hb id o ho j8 e=>hb ⟨id,o,ho,j8,e⟩;obtain⟨L2,mf⟩:=u3 (st:=⟨e,h,s⟩) hB hR.symm (fun _ _ h=>h) fe hg hd BT.hg BT.j6 (fun b hb hl hc=>k1 b hb hc) (fun b hb hl hc=>k2 b hb hc (nh b hl)) BT.fresh BT.obj
  (fun i o hi hb=>⟨(BT.own i o hi hb).1,(BT.own i o hi hb).2,fun dI=>by
   obtain⟨mI,o',Cp,kR,e'⟩:=k3 i o hi hb dI;exact⟨mI,o',Cp,kR,e'⟩⟩)
  BT.inj zm tr mT
 exact⟨x,rfl,_,L2,F',hK,mf,tr⟩
section
variable {P : Program} {T : dV} {σ : Type} {Y : Hd σ} {e : Env} {h : aq} {s : σ} {d : Option Nat} {f : FuncId} {args : List V}
theorem dH{ws:List Wr}(ho:fx P e h d f args ws){K:St σ->Prop}(hk:bg ws e h fun e h=>K ⟨e,h,s⟩):dK P Y ⟨e,h,s⟩ d f args K:=by
 refine⟨ho.1,fun cx hY r m L F a w a9 hg hd hr=>(ho.2 cx hY.laid r m L F ⟨e,h,s⟩ a w a9 (fun _ _ h=>h) (fun _ _ h=>h) hg hd hr).mono ?_⟩;rintro en w' ⟨x,rfl,L',F',eL,tr⟩;rw[cu s]at hk;have hs:(aF (⟨e,h,s⟩:St σ) ws).s=s:=cV _ _;refine .inl ⟨x,rfl,_,L',F',?_,eL,tr⟩;generalize aF (⟨e,h,s⟩:St σ) ws=st at hk hs;obtain⟨e1,h1,s1⟩:=st;simp only at hs;subst hs;exact hk
theorem qG{args0:List V}{h0:aq}{v0:V}{h1:aq}(hf:sU P f args0 h0 fun v h'=>v=v0/\h'=h1)(tb:List Nat)(bR:kU (ck tb (d.getD 0)) args0=args)
  (fe:gH (ck tb (d.getD 0)) h 1000000 tb h0) (hB:fA tb d v0 h1=true) {K:St σ->Prop} (hk:bg (cO tb d v0 h1) e h fun e h=>K ⟨e,h,s⟩):dK P Y ⟨e,h,s⟩ d f args K:=
 dH (iW hf tb bR fe hB) hk
theorem z9{args0:List V}{h0:aq}{v0:V}{h1:aq}(hf:sU P f args0 h0 fun v h'=>v=v0/\h'=h1)(tb:List Nat)(bR:kU (ck tb (d.getD 0)) args0=args)
  (fe:gH (ck tb (d.getD 0)) h 1000000 tb h0) (hB:fA tb d v0 h1=true) {K:List Wr->Prop} (hk:K (cO tb d v0 h1)):dh P e h d f args K:=
 ⟨_,hk,iW hf tb bR fe hB⟩
end
inductive DO where
 | box (l:List D)
 | arr (sz:Nat) (l:List (List D))
 | map (l:List (D×D))
mutual
def cA(g:Nat->Option DO):V->Option D
 | .d v=>some v
 | .agg cs=>match bZ g cs with
  | some l=>some (.agg l)
  | none=>none
 | .tup cs=>match bZ g cs with
  | some l=>some (.tup l)
  | none=>none
 | .clo f cs=>match bZ g cs with
  | some l=>some (.clo f l)
  | none=>none
 | .ifc f cs=>match bZ g cs with
  | some [x]=>some (.ifc f x)
  | _=>none
 | .ptr id off=>match g id with
  | some (.box l)=>some (.ref (l.drop off))
  | _=>none
 | .sl id sz off len=>match g id with
  | some (.arr m l)=>match Nat.beq m sz,Nat.ble (off+len) l.length with
   | true,true=>some (.vs ((l.drop off).take len))
   | _,_=>none
  | _=>none
 | .mp id=>match g id with
  | some (.map b0)=>some (.mv b0)
  | _=>none
 | .ep _ _ _ _=>none
 | .it _=>none
 | .yld=>none
 | .unk=>none
def bZ(g:Nat->Option DO):List V->Option (List D)
 | []=>some []
 | v::r=>match cA g v,bZ g r with
  | some a,some l=>some (a::l)
  | _,_=>none
end
def wv(g:Nat->Option DO):List (List V)->Option (List (List D))
 | []=>some []
 | v::r=>match bZ g v,wv g r with
  | some a,some l=>some (a::l)
  | _,_=>none
def Vo:Nat->Option DO:=fun _=>some (.box [])
def nU:List V->List D
 | []=>[]
 | v::r=>match cA Vo v with
  | some d=>d::nU r
  | none=>[]
def dJ(h:aq):Nat->Nat->Option DO
 | 0,_=>none
 | n+1,id=>match get h id with
  | some (.box (.dd l))=>some (.box l)
  | some (.box (.vv l))=>match bZ (dJ h n) l with
   | some l=>some (.box l)
   | none=>none
  | some (.arr sz (.dd l))=>some (.arr sz l)
  | some (.arr sz (.vv l))=>match wv (dJ h n) l with
   | some l=>some (.arr sz l)
   | none=>none
  | some (.map b0)=>some (.map b0)
  | some (.fz l)=>some (.box (nU l))
  | _=>none
def qR(w:World)(b:Nat):Nat:=
 match w.heap[b]? with
 | some (.cells c _ _)=>c.size
 | some (.map _ _)=>1
 | _=>0
open Classical in
noncomputable def eC(L:Loc)(F:Nat->Nat)(h:aq)(w:World):Nat->Nat:=fun b=>if ∃ id o,get h id=some o/\aJ L id o/\L.ρ id=b then qR w b else F b
section
variable {σ : Type} {cx : Cx σ} {L : Loc} {F : Nat -> Nat} {h : aq} {s : σ} {w : World}
theorem lT{id:Nat}{o:Obj}(hi:get h id=some o)(hb:aJ L id o):eC L F h w (L.ρ id)=qR w (L.ρ id):=if_pos ⟨id,o,hi,hb,rfl⟩
theorem fX{b:Nat}(hb:¬ ∃ id o,get h id=some o/\aJ L id o/\L.ρ id=b):eC L F h w b=F b:=if_neg hb
theorem EE(hh:bp cx L F h s w)(b:Nat):F b<=eC L F h w b:=by
 by_cases hb:∃ id o,get h id=some o/\aJ L id o/\L.ρ id=b
 ·obtain⟨id,o,hi,j8,rfl⟩:=hb
  rw[(hh.own id o hi j8).1];exact Nat.zero_le _
 ·rw[fX hb];exact Nat.le_refl _
theorem nT(hh:bp cx L F h s w){b:Nat}(hC:cx.C s b):eC L F h w b=F b:=
 fX fun⟨id,o,hi,hb,e⟩=>(hh.own id o hi hb).2 (by rw[e];exact hC)
theorem fY(hh:bp cx L F h s w):Tr F w (eC L F h w) w:=
 ⟨rfl,rfl,rfl,Nat.le_refl _,EE hh,fun _ _ _=>rfl,fun _ _ _ _ h=>h⟩
theorem eY(hh:bp cx L F h s w)(b:Nat)(hb:w.heap.size<=b):eC L F h w b=0:=by
 by_cases h1:∃ id o,get h id=some o/\aJ L id o/\L.ρ id=b
 ·obtain⟨id,o,hi,j8,rfl⟩:=h1
  have:=(hh.obj id o hi).lt j8;omega
 ·rw[fX h1];exact hh.fresh b hb
theorem xC(hh:bp cx L F h s w):bp cx L (eC L F h w) [] s w:=
 ⟨cx.eJ hh.hg (fY hh) (eY hh) fun b hb=>⟨rfl,nT hh hb⟩,hh.j6,eY hh,(fun id o hi=>by cases hi),(fun id o hi=>by cases hi),(fun i j o p hi=>by cases hi)⟩
def uD(yv:Option Nat)(L:Loc)(F:Nat->Nat)(w:World)(id:Nat):DO->Prop
 | .box l=>cc F w (L.ρ id) 0 l
 | .arr sz l=>cK sz l/\((l = []/\L.κ id=0)\/(cc F w (L.ρ id) 0 l.flatten))
 | .map b0=>∃ en c,0<F (L.ρ id)/\w.heap[L.ρ id]?=some (.map en c)/\bE F w b0 en.toList
theorem cG.of_flat{F:Nat->Nat}{w:World}{b sz:Nat}:∀ {es:List (List D)} {off:Nat},cK sz es->cc F w b off es.flatten->cG F w b off sz es
 | [],_,_,_=>trivial
 | e::r,off,hl,h=>by
  have he:=hl e (List.mem_cons_self ..);have M5:∀ {a c:List D} {off:Nat},cc F w b off (a++c)->cc F w b off a/\cc F w b (off+a.length) c:=by
   intro a
   induction a with
   | nil=>exact fun h=>⟨trivial,h⟩
   | cons x r ih=>
    intro c off h;obtain⟨h1,h2,h3⟩:=h;obtain⟨h4,h5⟩:=ih h3;refine⟨⟨h1,h2,h4⟩,?_⟩
    rwa [show off+(x::r).length=off+1+r.length by simp;omega]
  rw[List.flatten_cons]at h;obtain⟨h1,h2⟩:=M5 h;rw[he]at h2;exact⟨he,h1,cG.of_flat (fun x hx=>hl x (List.mem_cons_of_mem _ hx)) h2⟩
theorem cc.om{F:Nat->Nat}{w:World}{b:Nat}:∀ {cs:List D} {off:Nat} {l:List Value},aS F w cs l->(∀ i x,l[i]?=some x->off+i<F b/\w.cell? ⟨b,off+i,none⟩=some x)->cc F w b off cs
 | [],_,_,_,_=>trivial
 | c::r,off,_,h,hc=>by
  obtain⟨x,l',rfl,h1,h2⟩:=h;obtain⟨k1,k2⟩:=hc 0 x (by simp);refine⟨by simpa using k1,⟨x,by simpa using k2,h1⟩,cc.om h2 fun i y hy=>?_⟩;have:=hc (i+1) y (by simpa using hy)
  rwa [show off+(i+1)=off+1+i by omega]at this
mutual
theorem zR{g:Nat->Option DO}{F1:Nat->Nat}{yv:Option Nat}{L:Loc}{F:Nat->Nat}{w:World}(tr:Tr F w F1 w)(hg:∀ id o,g id=some o->uD yv L F1 w id o):∀ (v:V) (x:Value) (d:D),cA g v=some d->aT yv L F w v x->bD F1 w d x
 | .d v,x,d,hv,hr=>by
  simp only[cA,Option.some.injEq]at hv;subst hv;exact bD.mono tr _ _ hr
 | .agg cs,x,d,hv,hr=>by
  simp only[cA]at hv;split at hv
  ·rename_i l hl
   cases hv;obtain⟨a,rfl,ha⟩:=hr;exact⟨a,rfl,iC tr hg cs _ l hl ha⟩
  ·cases hv
 | .tup cs,x,d,hv,hr=>by
  simp only[cA]at hv;split at hv
  ·rename_i l hl
   cases hv;obtain⟨a,rfl,ha⟩:=hr;exact⟨a,rfl,iC tr hg cs _ l hl ha⟩
  ·cases hv
 | .clo f cs,x,d,hv,hr=>by
  simp only[cA]at hv;split at hv
  ·rename_i l hl
   cases hv;obtain⟨a,rfl,ha⟩:=hr;exact⟨a,rfl,iC tr hg cs _ l hl ha⟩
  ·cases hv
 | .ifc f cs,x,d,hv,hr=>by
  simp only[cA]at hv;split at hv
  ·rename_i y hl
   cases hv;obtain⟨a,rfl,ha⟩:=hr;obtain⟨z,r,h1,h2,h3⟩:=iC tr hg cs _ _ hl ha;refine⟨_,rfl,?_⟩;have:a.getD 0 .nilIface=z:=by
    have:a.toList = [z]:=by rw[h1,show r = [] from h3]
    rw[<- Array.toArray_toList (xs:=a),this];rfl
   rw[this];exact h2
  ·cases hv
 | .ptr id off,x,d,hv,hr=>by
  simp only[cA]at hv;split at hv
  ·rename_i l hl
   cases hv;have zW:cc F1 w (L.ρ id) 0 l:=hg id _ hl;have zW:=cc.drop off zW;rw[Nat.zero_add]at zW;exact⟨L.ρ id,off,hr,zW⟩
  ·cases hv
 | .sl id sz off len,x,d,hv,hr=>by
  simp only[cA]at hv;split at hv;case h_2=>cases hv
  rename_i m l hl;split at hv;case h_2=>cases hv
  rename_i hm hlen;cases hv;have hm:=Nat.eq_of_beq_eq_true hm;subst hm;have hlen:=Nat.le_of_ble_eq_true hlen;obtain⟨a,cap,rfl,h1,h2,h3⟩:=hr;obtain⟨NG,Jr⟩:=hg id _ hl;refine⟨a,len,cap,rfl,by rw[List.length_take,List.length_drop];omega,h1,fun ef=>?_⟩;have Rm:len≠0:=by
   rintro rfl;simp at ef
  rcases h3 with⟨h3,_⟩|⟨h3,h4⟩
  ·exact absurd h3 Rm
  rcases Jr with⟨rfl,_⟩|zW
  ·simp at ef
  ·refine⟨L.ρ id,off*m,m,h3,h2,?_⟩
   have nC:=cG.of_flat NG zW;have nC:=cG.drop off nC;rw[Nat.zero_add]at nC;exact cG.take len nC
 | .mp id,x,d,hv,hr=>by
  simp only[cA]at hv;split at hv
  ·rename_i l hl
   cases hv;obtain⟨en,c,h1,h2,h3⟩:=hg id _ hl;exact⟨L.ρ id,en,c,hr,h1,h2,h3⟩
  ·cases hv
 | .ep _ _ _ _,_,_,hv,_=>by simp[cA]at hv
 | .it _,_,_,hv,_=>by simp[cA]at hv
 | .yld,_,_,hv,_=>by simp[cA]at hv
 | .unk,_,_,hv,_=>by simp[cA]at hv
theorem iC{g:Nat->Option DO}{F1:Nat->Nat}{yv:Option Nat}{L:Loc}{F:Nat->Nat}{w:World}(tr:Tr F w F1 w)(hg:∀ id o,g id=some o->uD yv L F1 w id o):∀ (vs:List V) (l:List Value) (ds:List D),bZ g vs=some ds->aj yv L F w vs l->aS F1 w ds l
 | [],l,ds,hv,hr=>by
  simp only[bZ,Option.some.injEq]at hv;subst hv;exact hr
 | v::r,l,ds,hv,hr=>by
  simp only[bZ]at hv;split at hv
  ·rename_i a m h1 h2
   cases hv;obtain⟨x,l',rfl,h3,h4⟩:=hr;exact⟨x,l',rfl,zR tr hg v x a h1 h3,iC tr hg r l' m h2 h4⟩
  ·cases hv
end
theorem tH{g:Nat->Option DO}:∀ {es:List (List V)} {l:List (List D)},wv g es=some l->bZ g es.flatten=some l.flatten/\l.length=es.length /\ ∀ sz,cK sz es->cK sz l
 | [],l,h=>by
  simp only[wv,Option.some.injEq]at h;subst h;exact⟨rfl,rfl,fun _ _ _ he=>by cases he⟩
 | e::r,l,h=>by
  simp only[wv]at h;split at h
  ·rename_i a m h1 h2
   cases h;obtain⟨k1,k2,k3⟩:=tH h2;have app:∀ {a b:List V} {x y:List D},bZ g a=some x->bZ g b=some y->bZ g (a++b)=some (x++y)/\x.length=a.length:=by
    intro a
    induction a with
    | nil=>intro b x y h1 h2;simp only[bZ,Option.some.injEq]at h1;subst h1;exact⟨h2,rfl⟩
    | cons v r ih=>
     intro b x y h1 h2;simp only[bZ]at h1;split at h1
     ·rename_i p q h3 h4
      cases h1;obtain⟨k1,k2⟩:=ih h4 h2;refine⟨?_,by simp[k2]⟩;simp only[List.cons_append,bZ,h3,k1]
     ·cases h1
   obtain⟨j1,j2⟩:=app h1 k1;refine⟨by simpa using j1,by simp[k2],fun sz hl x hx=>?_⟩;rcases List.mem_cons.1 hx with rfl|hx
   ·rw[j2];exact hl e (List.mem_cons_self ..)
   ·exact k3 sz (fun y hy=>hl y (List.mem_cons_of_mem _ hy)) x hx
  ·cases h
theorem kh{w:World}{b:Nat}{c:Array Value}{T:TypeId}(h:w.heap[b]?=some (.cells c T (0,0))){i:Nat}{x:Value}(hx:c.toList[i]?=some x):i<qR w b/\w.cell? ⟨b,i,none⟩=some x:=by
 have hx:c[i]?=some x:=by simpa using hx
 have hi:=(Array.getElem?_eq_some_iff.1 hx).1;refine⟨by simp only[qR,h];exact hi,?_⟩;rw[cell_of_row _ _ _ _ _ _ h];simpa using hx
theorem AF{F1:Nat->Nat}{yv:Option Nat}{L:Loc}{F:Nat->Nat}{w:World}(tr:Tr F w F1 w){b:Nat}:∀ {l:List V} {c:List Value} {off:Nat},eS F w b off c->aj yv L F w l c->cc F1 w b off (nU l)
 | [],_,_,_,_=>trivial
 | v::r,_,off,hc,hr=>by
  obtain⟨x,l',rfl,h1,h2⟩:=hr;rw[nU];split
  ·rename_i d hd
   refine⟨Nat.lt_of_lt_of_le hc.1.1 (tr.le b),⟨x,hc.1.2,zR tr (g:=Vo) (fun id o ho=>?_) v x d hd h1⟩,AF tr hc.2 h2⟩;cases ho;exact trivial
  ·trivial
theorem oi(hh:bp cx L F h s w):∀ (n:Nat) (id:Nat) (o:DO),dJ h n id=some o->uD cx.yv L (eC L F h w) w id o
 | 0,_,_,ho=>by cases ho
 | n+1,id,o,ho=>by
  have tr:=fY hh;simp only[dJ]at ho;split at ho
  ·rename_i l hi
   cases ho;obtain⟨c,T,hc,hr⟩:=hh.obj id _ hi;have hr:aS F w l c.toList:=aj.inj.1 hr;refine cc.om (aS.mono tr _ _ hr) fun i x hx=>?_;rw[Nat.zero_add,lT hi trivial];exact kh hc hx
  ·rename_i l hi
   split at ho
   ·rename_i l' hl
    cases ho;obtain⟨c,T,hc,hr⟩:=hh.obj id _ hi;have hr:=iC tr (oi hh n) l _ l' hl hr;refine cc.om hr fun i x hx=>?_;rw[Nat.zero_add,lT hi trivial];exact kh hc hx
   ·cases ho
  ·rename_i sz l hi
   cases ho;obtain⟨h1,h2,h3⟩:=hh.obj id _ hi;have NG:cK sz l:=fun e he=>by
    have:=h2 (inj e) (by rw[a7.bo,cq];exact List.mem_map_of_mem he)
    rwa [eh]at this
   refine⟨NG,?_⟩;rcases h3 with⟨h3,h4⟩|⟨c,T,hc,hk,hn,hr⟩
   ·left
    rw[a7.bo,cq,List.map_eq_nil_iff]at h3;exact⟨h3,h4⟩
   ·by_cases EM:L.κ id=0
    ·left
     refine⟨?_,EM⟩;rw[hk,EM]at hn;rw[a7.bo,cq,List.length_map]at hn;have:l.length=0:=by
      rcases Nat.eq_zero_or_pos l.length with h|h
      ·exact h
      ·have:=Nat.mul_pos h h1;omega
     exact List.length_eq_zero_iff.1 this
    ·right
     rw[a7.bo,eb]at hr;have hr:=aj.inj.1 hr;refine cc.om (aS.mono tr _ _ hr) fun i x hx=>?_;rw[Nat.zero_add,lT hi EM];rw[List.getElem?_take]at hx;split at hx
     ·exact kh hc hx
     ·cases hx
  ·rename_i sz l hi
   split at ho;case h_2=>cases ho
   rename_i l' hl;cases ho;obtain⟨h1,h2,h3⟩:=hh.obj id _ hi;obtain⟨j1,j2,j3⟩:=tH hl;refine⟨j3 sz h2,?_⟩;rcases h3 with⟨h3,h4⟩|⟨c,T,hc,hk,hn,hr⟩
   ·left
    have h3:l = []:=h3;subst h3;exact⟨List.length_eq_zero_iff.1 j2,h4⟩
   ·by_cases EM:L.κ id=0
    ·left
     refine⟨?_,EM⟩;rw[hk,EM]at hn;have:l.length=0:=by
      rcases Nat.eq_zero_or_pos l.length with h|h
      ·exact h
      ·have:=Nat.mul_pos h h1
       have hn:l.length*sz<=0:=hn;omega
     exact List.length_eq_zero_iff.1 (by rw[j2];exact this)
    ·right
     have hr:=iC tr (oi hh n) l.flatten _ l'.flatten j1 hr;refine cc.om hr fun i x hx=>?_;rw[Nat.zero_add,lT hi EM];rw[List.getElem?_take]at hx;split at hx
     ·exact kh hc hx
     ·cases hx
  ·rename_i b0 hi
   cases ho;obtain⟨en,c,hc,hr⟩:=hh.obj id _ hi;refine⟨en,c,?_,hc,bE.mono tr _ _ hr.1⟩;rw[lT hi trivial];simp[qR,hc]
  ·rename_i l hi
   cases ho;obtain⟨c,hc,hr⟩:=hh.obj id _ hi;exact AF tr hc hr
  ·cases ho
end
end Go.PX
namespace Go.PX
open Go.RowKit
def bL(ds:List D):D:=
 match ds with
 | [x]=>x
 | l=>.tup l
theorem D7{F:Nat->Nat}{w:World}{ds:List D}{a9:List Value}(h:aS F w ds a9):bD F w (bL ds) (D8 a9):=by
 cases ds with
 | nil=>
  have:a9 = []:=h;subst this;exact⟨#[],rfl,rfl⟩
 | cons a r=>
  obtain⟨x,l,rfl,hx,hl⟩:=h
  cases r with
  | nil=>
   have:l = []:=hl;subst this;exact hx
  | cons b r=>
   obtain⟨y,l',rfl,hy,kQ⟩:=hl;refine⟨(x::y::l').toArray,rfl,?_⟩;exact⟨x,y::l',rfl,hx,y,l',rfl,hy,kQ⟩
theorem an{σ:Type}{l:List V}{h:aq}{s:σ}{Q:V->aq->σ->Prop}(n:Nat){ds:List D}(hv:bZ (dJ h n) l=some ds)(hq:Q (.d (bL ds)) [] s):pj l h s Q:=by
 refine⟨fun cx L F a9 w hh hr=>?_⟩;have tr:=fY hh;exact⟨_,[],L,eC L F h w,hq,xC hh,D7 (iC tr (oi hh n) l a9 ds hv hr),tr,fun _ _=>⟨rfl,rfl⟩⟩
theorem ae{σ:Type}{l:List V}{h:aq}{s:σ}{r:D}{ds:List D}(hv:bZ (dJ h 0) l=some ds:=by exact rfl)(hr:V.d (bL ds)=V.d r:=by exact rfl):pj l h s fun v h' s'=>(v = .d r/\h' = [])/\s'=s:=an 0 hv ⟨⟨hr,rfl⟩,rfl⟩
def vQ(l:List V):V:=
 match l with
 | [x]=>x
 | l=>tp l
def xD(nk:List Nat)(i:Nat):Nat:=
 match Nat.blt i 2000000 with
 | true=>i
 | false=>match nk[i-2000000]? with
  | some k=>k
  | none=>0
def Cg(R:Nat->Nat)(h:aq):aq->Prop
 | []=>True
 | (i,o)::r=>get h (R i)=some (iD R o)/\Cg R h r
theorem jl{R:Nat->Nat}{h:aq}:∀ {h1:aq},Cg R h h1 -> ∀ i o,get h1 i=some o->get h (R i)=some (iD R o)
 | [],_,i,o,hi=>by cases hi
 | (k,p)::r,hh,i,o,hi=>by
  simp only[get]at hi;split at hi
  ·rename_i he
   have:=Nat.eq_of_beq_eq_true he;subst this;cases hi;exact hh.1
  ·exact jl hh.2 i o hi
def fQ:aq->List Nat
 | []=>[]
 | (i,_)::r=>i::fQ r
theorem mN:∀ {h:aq} {i:Nat} {o:Obj},get h i=some o->i∈fQ h
 | [],i,o,h=>by cases h
 | (k,p)::r,i,o,h=>by
  simp only[get]at h;split at h
  ·rename_i he
   have:=Nat.eq_of_beq_eq_true he;subst this;simp[fQ]
  ·simp[fQ,mN h]
theorem cd{σ:Type}{l:List V}{h:aq}{s:σ}{Q:V->aq->σ->Prop}(nk:List Nat)(l1:List V)(h1:aq)(hl:kU (xD nk) l1=l)(G1:Cg (xD nk) h h1)(wD:fS ((fQ h1).map (xD nk))=true)
  (hq:Q (vQ l1) h1 s):pj l h s Q:=by
 refine⟨fun cx L F a9 w hh hr=>?_⟩;have hR:∀ i,pinned i->xD nk i=i:=fun i hi=>by
  unfold xD;rw[show Nat.blt i 2000000=true from Nat.ble_eq_true_of_le hi.2]
 generalize xD nk=R at hl G1 wD hR;subst hl;have MC:∀ i j,i∈fQ h1->j∈fQ h1->R i=R j->i=j:=by
  have hn:=gT wD;intro i j hi hj px;obtain⟨a,ha⟩:=List.mem_iff_getElem?.1 hi;obtain⟨b,hb⟩:=List.mem_iff_getElem?.1 hj;have k1:((fQ h1).map R)[a]?=some (R i):=by rw[List.getElem?_map,ha];rfl
  have k2:((fQ h1).map R)[b]?=some (R i):=by rw[List.getElem?_map,hb,px];rfl
  have:=su hn k1 k2;subst this;rw[ha]at hb;exact Option.some.inj hb
 have K4:aj cx.yv ⟨fun i=>L.ρ (R i),fun i=>L.κ (R i)⟩ F w l1 a9:=(aj.mg (R:=R) l1 _ fun _ _=>⟨rfl,rfl⟩).1 hr;refine⟨_,h1,⟨fun i=>L.ρ (R i),fun i=>L.κ (R i)⟩,F,hq,⟨hh.hg,hh.j6,hh.fresh,fun i o hi=>?_,fun i o hi hb=>?_,fun i j o p hi hj md jv px=>?_⟩,?_,Tr.refl F w,fun i hi=>by
  show L.ρ (R i)=L.ρ i/\L.κ (R i)=L.κ i;rw[hR i hi];exact⟨rfl,rfl⟩⟩
 ·exact(bF.mg (R:=R) (L:=⟨fun i=>L.ρ (R i),fun i=>L.κ (R i)⟩) (L':=L) i o (fun _ _=>⟨rfl,rfl⟩) ⟨rfl,rfl⟩).1 (hh.obj _ _ (jl G1 i o hi))
 ·exact hh.own _ _ (jl G1 i o hi) ((bX (R:=R) (L:=⟨fun i=>L.ρ (R i),fun i=>L.κ (R i)⟩) (L':=L) i o rfl).2 hb)
 ·refine MC i j (mN hi) (mN hj) ?_
  exact hh.inj _ _ _ _ (jl G1 i o hi) (jl G1 j p hj) ((bX (R:=R) (L:=⟨fun i=>L.ρ (R i),fun i=>L.κ (R i)⟩) (L':=L) i o rfl).2 md)
   ((bX (R:=R) (L:=⟨fun i=>L.ρ (R i),fun i=>L.κ (R i)⟩) (L':=L) j p rfl).2 jv) px
 ·cases l1 with
  | nil=>
   have:a9 = []:=K4;subst this;exact⟨#[],rfl,rfl⟩
  | cons v r=>
   cases r with
   | nil=>
    obtain⟨x,l,rfl,hx,hl⟩:=K4;have:l = []:=hl;subst this;exact hx
   | cons u r=>
    obtain⟨x,l,rfl,hx,y,l',rfl,hy,kQ⟩:=K4;have ri:aj cx.yv ⟨fun i=>L.ρ (R i),fun i=>L.κ (R i)⟩ F w (v::u::r) (x::y::l'):=⟨x,_,rfl,hx,y,l',rfl,hy,kQ⟩;show aT _ _ _ _ (tp (v::u::r)) (.tuple (x::y::l').toArray);unfold tp;split
    ·rename_i ds Jc
     refine⟨_,rfl,?_⟩;rw[jQ Jc]at ri;exact aj.inj.1 ri
    ·exact⟨_,rfl,ri⟩
mutual
def jU:D->Bool
 | .bool _=>true
 | .int _ _=>true
 | .str _=>true
 | .agg cs=>kH cs
 | .tup cs=>kH cs
 | .vs _=>false
 | .nils=>true
 | .ref _=>false
 | .nilp=>true
 | .mv _=>false
 | .nilm=>true
 | .clo _ cs=>kH cs
 | .mth _ cs=>kH cs
 | .nilf=>true
 | .ifc _ v=>jU v
 | .nili=>true
def kH:List D->Bool
 | []=>true
 | v::r=>jU v&&kH r
end
mutual
theorem bD.free{F F':Nat->Nat}{w w':World}:∀ (v:D) (x:Value),jU v=true->bD F w v x->bD F' w' v x
 | .bool _,_,_,h=>h
 | .int _ _,_,_,h=>h
 | .str _,_,_,h=>h
 | .agg cs,_,hf,h=>by
  obtain⟨l,rfl,hl⟩:=h;exact⟨l,rfl,aS.free cs _ hf hl⟩
 | .tup cs,_,hf,h=>by
  obtain⟨l,rfl,hl⟩:=h;exact⟨l,rfl,aS.free cs _ hf hl⟩
 | .vs _,_,hf,_=>by simp[jU]at hf
 | .nils,_,_,h=>h
 | .ref _,_,hf,_=>by simp[jU]at hf
 | .nilp,_,_,h=>h
 | .mv _,_,hf,_=>by simp[jU]at hf
 | .nilm,_,_,h=>h
 | .clo _ cs,_,hf,h=>by
  obtain⟨l,rfl,hl⟩:=h;exact⟨l,rfl,aS.free cs _ hf hl⟩
 | .mth _ cs,_,hf,h=>by
  obtain⟨l,rfl,hl⟩:=h;exact⟨l,rfl,aS.free cs _ hf hl⟩
 | .nilf,_,_,h=>h
 | .ifc _ v,_,hf,h=>by
  obtain⟨y,rfl,hy⟩:=h;exact⟨y,rfl,bD.free v y hf hy⟩
 | .nili,_,_,h=>h
theorem aS.free{F F':Nat->Nat}{w w':World}:∀ (vs:List D) (l:List Value),kH vs=true->aS F w vs l->aS F' w' vs l
 | [],_,_,h=>h
 | v::r,_,hf,h=>by
  simp only[kH,Bool.and_eq_true]at hf;obtain⟨x,l',rfl,hx,hl⟩:=h;exact⟨x,l',rfl,bD.free v x hf.1 hx,aS.free r l' hf.2 hl⟩
end
def aX(P:Program)(f:FuncId)(ds:List D)(r:D):Prop:=sU P f (inj ds) [] fun v h'=>v = .d r/\h' = []
section
variable {P : Program} {σ : Type} {cx : Cx σ} {r : Option Nat} {m : List Nat} {L : Loc} {F : Nat -> Nat} {st : St σ} {a : Act} {w : World}
theorem Good.HI(hg:Good cx r m L F st a w){F':Nat->Nat}{w':World}(tr:Tr F w F' w')(hk:∀ b,b<w.heap.size->w'.heap[b]?=w.heap[b]?/\F' b=F b)(hf:∀ b,w'.heap.size<=b->F' b=0):Good cx r m L F' st a w':=by
 refine⟨⟨cx.eJ hg.heap.hg tr hf fun b hb=>hk b (hg.heap.j6 b hb),fun b hb=>Nat.lt_of_lt_of_le (hg.heap.j6 b hb) tr.size,hf,fun id o hi=>?_,fun id o hi hb=>?_,hg.heap.inj⟩,fun t v ht=>?_,hg.wA,fun b hb=>?_,hg.wS,fun l hl=>?_,hg.mT,hg.wm⟩
 ·exact bF.mono tr id o (fun _ _=>⟨rfl,rfl⟩) ⟨rfl,rfl⟩ (fun hb=>(hk _ ((hg.heap.obj id o hi).lt hb)).1) (hg.heap.obj id o hi)
 ·rw[(hk _ ((hg.heap.obj id o hi).lt hb)).2];exact hg.heap.own id o hi hb
 ·obtain⟨x,hx,hr⟩:=hg.env t v ht
  exact⟨x,hx,aT.mono tr v x (fun _ _=>⟨rfl,rfl⟩) hr⟩
 ·obtain⟨k1,k2⟩:=hg.pR b hb
  exact⟨by rw[(hk b (bH k1)).1];exact k1,k2⟩
 ·obtain⟨lp,k1⟩:=hg.lk l hl
  exact⟨lp,⟨by rw[(hk l (bH k1.1.1)).1];exact k1.1.1,k1.1.2⟩,k1.2⟩
theorem jT{f:FuncId}{ds:List D}{res:D}(hf:aX P f ds res)(gQ:jU res=true)(n:Nat){e:Env}{h:aq}{d:Option Nat}{args:List V}(hv:bZ (dJ h n) args=some ds) :
  fx P e h d f args (aO d (.d res)):=by
 refine⟨(hf (σ:=Unit) { y:=fun _ _ _ _=>False } ()).enter,?_⟩;intro σ cx tN r m L F st a w a9 he hh hg hd hr;have eg:bp cx L F h st.s w:=(hg.sub (e:=st.env) (h:=h) (fun _ _ h=>h) hh).heap;have yq:=fY eg;generalize Ny:eC L F h w=F1 at yq;have wH:∀ b,cx.C st.s b->F1 b=F b:=fun b hb=>by rw[<- Ny];exact nT eg hb
 have RJ:aS F1 w ds a9.toList:=by
  rw[<- Ny];exact iC (fY eg) (oi eg n) args _ ds hv hr
 let Xg:Cx σ:={
  C:=fun s b=>cx.C s b\/b<w.heap.size
  HG:=fun s w' F'=>cx.HG s w' F' /\ ∀ b,b<w.heap.size->w'.heap[b]?=w.heap[b]?/\F' b=F1 b
  yv:=cx.yv
  xZ:=cx.xZ
  pρ:=cx.pρ
  pκ:=cx.pκ
  eJ:=by
   rintro s w1 F1' w2 F2 ⟨h1,h2⟩ tr hf hk;refine⟨cx.eJ h1 tr hf fun b hb=>hk b (.inl hb),fun b hb=>?_⟩;obtain⟨k1,k2⟩:=hk b (.inr hb);obtain⟨k3,k4⟩:=h2 b hb;exact⟨k1.trans k3,k2.trans k4⟩ }
 have QQ:bp Xg L F1 [] st.s w:=by
  refine⟨⟨cx.eJ hg.heap.hg yq (by rw[<- Ny];exact eY eg) fun b hb=>⟨rfl,wH b hb⟩,fun _ _=>⟨rfl,rfl⟩⟩,fun b hb=>hb.elim (hg.heap.j6 b) id,?_,(fun _ _ hi=>by cases hi),(fun _ _ hi=>by cases hi),(fun _ _ _ _ hi=>by cases hi)⟩;rw[<- Ny];exact eY eg
 have cJ:=(hf ({ y:=fun _ _ _ _=>False }:Hd σ) st.s).run Xg ⟨fun _ _ _ _ _ _ hy=>hy.elim,fun s w F hh=>tN s w F hh.1⟩ L F1 a9 w QQ (aj.inj.2 RJ);refine cJ.mono ?_;rintro en w' ⟨x,rfl,v,h',s',L',F',⟨⟨rfl,rfl⟩,rfl⟩,hH,Hm,tr,mT⟩;obtain⟨AH,iG⟩:=hH.hg
 let F2:Nat->Nat:=fun b=>if b<w.heap.size then F b else F' b
 have KO:∀ b,b<w.heap.size->F2 b=F b:=fun b hb=>if_pos hb;have QN:∀ b,w.heap.size<=b->F2 b=F' b:=fun b hb=>if_neg (by omega);have QO:∀ b o,o<F b->b<w.heap.size:=fun b o ho=>by
  rcases Nat.lt_or_ge b w.heap.size with h|h
  ·exact h
  ·rw[hg.heap.fresh b h]at ho;omega
 have FV:Tr F w F2 w':=by
  refine⟨tr.os,tr.tape,tr.output,tr.size,fun b=>?_,fun b o ho=>j5 (iG b (QO b o ho)).1,fun b en c hb hm=>by rw[(iG b (QO b 0 hb)).1];exact hm⟩;rcases Nat.lt_or_ge b w.heap.size with h|h
  ·rw[KO b h];exact Nat.le_refl _
  ·rw[hg.heap.fresh b h];exact Nat.zero_le _
 have mf:=hg.HI FV (fun b hb=>⟨(iG b hb).1,KO b hb⟩) (fun b hb=>by
  rw[QN b (Nat.le_trans tr.size hb)];exact hH.fresh b hb)
 exact⟨x,rfl,L,F2,mf.aO hd (bD.free res x gQ Hm),FV⟩
theorem ak{Y:Hd σ}{f:FuncId}{ds:List D}{res:D}(hf:aX P f ds res)(gQ:jU res=true)(n:Nat){e:Env}{h:aq}{s:σ}{d:Option Nat}{args:List V}(hv:bZ (dJ h n) args=some ds)
  {K:St σ->Prop} (hk:bg (aO d (.d res)) e h fun e h=>K ⟨e,h,s⟩):dK P Y ⟨e,h,s⟩ d f args K:=dH (jT hf gQ n hv) hk
theorem aw{f:FuncId}{ds:List D}{res:D}(hf:aX P f ds res)(gQ:jU res=true)(n:Nat){e:Env}{h:aq}{d:Option Nat}{args:List V}(hv:bZ (dJ h n) args=some ds)
  {K:List Wr->Prop} (hk:K (aO d (.d res))):dh P e h d f args K:=⟨_,hk,jT hf gQ n hv⟩
theorem sx{f:FuncId}{ds:List D}{res:D}(hf:aX P f ds res){e:Env}{h:aq}{d:Option Nat}{args:List V}(hv:args=inj ds)(hd:Nat.ble (d.getD 0) 10000=true):fx P e h d f args (aO d (.d res)):=by
 have MF:kU (ck [] (d.getD 0)) (inj ds)=args:=by rw[hv];exact CB _ _
 have hB:fA [] d (.d res) []=true:=by
  cases d with
  | none=>rfl
  | some d=>
   simp only[fA,cC,fS,bk,hP,bC,List.map_nil,iO,List.all_nil,List.length_nil,hd,Bool.and_true,Bool.true_and,cO,oh,kx,List.nil_append,aO,dD,bw];rfl
 exact iW hf [] MF rfl hB
theorem ah{Y:Hd σ}{f:FuncId}{ds:List D}{res:D}(hf:aX P f ds res){e:Env}{h:aq}{s:σ}{d:Option Nat}{args:List V}(hv:args=inj ds)(hd:Nat.ble (d.getD 0) 10000=true)
  {K:St σ->Prop} (hk:bg (aO d (.d res)) e h fun e h=>K ⟨e,h,s⟩):dK P Y ⟨e,h,s⟩ d f args K:=dH (sx hf hv hd) hk
theorem al{f:FuncId}{ds:List D}{res:D}(hf:aX P f ds res){e:Env}{h:aq}{d:Option Nat}{args:List V}(hv:args=inj ds)(hd:Nat.ble (d.getD 0) 10000=true)
  {K:List Wr->Prop} (hk:K (aO d (.d res))):dh P e h d f args K:=⟨_,hk,sx hf hv hd⟩
end
end Go.PX
namespace Go.PX
open Go.RowKit
theorem vr{p:Nat->Prop}:∀ (n:Nat),p n -> ∃ m,p m /\ ∀ k,p k->m<=k:=by
 intro n
 induction n using Nat.strongRecOn with
 | _ n ih=>
  intro hn;by_cases h:∃ k,k<n/\p k
  ·obtain⟨k,hk,hp⟩:=h;exact ih k hk hp
  ·exact⟨n,hn,fun k hk=>Nat.le_of_not_lt fun dI=>h ⟨k,dI,hk⟩⟩
open Classical in
noncomputable def yg(p:Nat->Prop):Nat:=if h:∃ n,p n then (vr h.choose h.choose_spec).choose else 0
theorem yh{p:Nat->Prop}(h:∃ n,p n):p (yg p):=by
 unfold yg;rw[dif_pos h];exact(vr h.choose h.choose_spec).choose_spec.1
theorem BE{p:Nat->Prop}{k:Nat}(hk:p k):yg p<=k:=by
 have h:∃ n,p n:=⟨k,hk⟩;unfold yg;rw[dif_pos h];exact(vr h.choose h.choose_spec).choose_spec.2 k hk
def Wk{σ:Type}(st dm:St σ):Prop:=
 ∀ (cx:Cx σ) (r:Option Nat) (m:List Nat) (L:Loc) (F:Nat->Nat) (a:Act) (w:World),Good cx r m L F st a w -> ∃ L' F',Good cx r m L' F' dm a w/\Tr F w F' w
theorem Wk.trans{σ:Type}{st dm Ke:St σ}(h:Wk st dm)(k:Wk dm Ke):Wk st Ke:=fun cx r m L F a w hg=>by
 obtain⟨L',F',h1,h2⟩:=h cx r m L F a w hg;obtain⟨Lk,Iy,h3,h4⟩:=k cx r m L' F' a w h1;exact⟨Lk,Iy,h3,Tr.trans h2 h4⟩
def we(e:Env):Env->Prop
 | []=>True
 | (k,v)::r=>get e k=some v/\we e r
def rO(e:aq):aq->Prop
 | []=>True
 | (k,v)::r=>get e k=some v/\rO e r
theorem wg{e:Env}:∀ {e':Env},we e e'->cN e' e
 | [],_,s,v,h=>by cases h
 | (k,u)::r,hs,s,v,h=>by
  simp only[get]at h;split at h
  ·rename_i he
   have:=Nat.eq_of_beq_eq_true he;subst this;cases h;exact hs.1
  ·exact wg hs.2 s v h
theorem sN{e:aq}:∀ {e':aq},rO e e'->cN e' e
 | [],_,s,v,h=>by cases h
 | (k,u)::r,hs,s,v,h=>by
  simp only[get]at h;split at h
  ·rename_i he
   have:=Nat.eq_of_beq_eq_true he;subst this;cases h;exact hs.1
  ·exact sN hs.2 s v h
theorem Wk.sub{σ:Type}{e e':Env}{h h':aq}{s:σ}(he:we e e')(hh:rO h h'):Wk (⟨e,h,s⟩:St σ) ⟨e',h',s⟩:=
 fun cx r m L F a w hg=>⟨L,F,hg.sub (wg he) (sN hh),Tr.refl F w⟩
theorem aI{σ:Type}{e e':Env}{h h':aq}{s:σ}(he:we e e':=by repeat' first|exact trivial|refine⟨?_,?_⟩|rfl|simp[PX.get])(hh:rO h h':=by repeat' first|exact trivial|refine⟨?_,?_⟩|rfl|simp[PX.get]):Wk (⟨e,h,s⟩:St σ) ⟨e',h',s⟩:=Wk.sub he hh
theorem Wk.move{σ:Type}{e:Env}{h:aq}{s:σ}(i j:Nat)(hj:Nat.blt j 1000000=true)(px:Nat.beq i j=false) :
  Wk (⟨e,h,s⟩:St σ) ⟨ct (aE (gu i j)) (ct (aE (aZ j)) e),l3 i j (ct (Obj.aE (aZ j)) (cut h j)),s⟩:=by
 intro cx r m L F a w hg;have hj:=Nat.le_of_ble_eq_true hj;have px:i≠j:=by rintro rfl;simp at px
 have h1:Good cx r m L F ⟨e,cut h j,s⟩ a w:=hg.del j;have h2:=h1.kill j;have hu:=vq (e:=e) (h:=h) j (x:=j) (.inl rfl);exact⟨_,F,h2.move (by unfold pinned;omega) px hu,Tr.refl F w⟩
mutual
def dE(g:Nat->Option DO):V->V
 | .d v=>.d v
 | .agg cs=>pQ (fG g cs)
 | .tup cs=>tp (fG g cs)
 | .clo f cs=>match sa (fG g cs) with
  | some l=>.d (.clo f l)
  | none=>.clo f (fG g cs)
 | .ifc f cs=>.ifc f (fG g cs)
 | .ptr i o=>match cA g (.ptr i o) with
  | some v=>.d v
  | none=>.ptr i o
 | .ep i n j o=>.ep i n j o
 | .sl i n o l=>match cA g (.sl i n o l) with
  | some v=>.d v
  | none=>.sl i n o l
 | .mp i=>match cA g (.mp i) with
  | some v=>.d v
  | none=>.mp i
 | .it i=>.it i
 | .yld=>.yld
 | .unk=>.unk
def fG(g:Nat->Option DO):List V->List V
 | []=>[]
 | v::r=>dE g v::fG g r
end
def jI(g:Nat->Option DO):List (List V)->List (List V)
 | []=>[]
 | v::r=>fG g v::jI g r
def Ao:List (List V)->Option (List (List D))
 | []=>some []
 | v::r=>match sa v,Ao r with
  | some a,some l=>some (a::l)
  | _,_=>none
def jN(g:Nat->Option DO):Obj->Obj
 | .box (.vv l)=>match sa (fG g l) with
  | some l=>.box (.dd l)
  | none=>.box (.vv (fG g l))
 | .tb t l=>.tb t (fG g l)
 | .fz l=>.fz (fG g l)
 | .arr n (.vv l)=>match Ao (jI g l) with
  | some l=>.arr n (.dd l)
  | none=>.arr n (.vv (jI g l))
 | o=>o
def tJ{α:Type}(t:sW α):List Nat->sW α
 | []=>t
 | i::r=>tJ (cut t i) r
theorem nV{α:Type}:∀ (l:List Nat) (t:sW α) (x:Nat),get (tJ t l) x=if x∈l then none else get t x
 | [],t,x=>by simp[tJ]
 | i::r,t,x=>by
  rw[tJ,nV r,dP];by_cases h1:x∈r
  ·simp[h1]
  ·by_cases h2:x=i
   ·simp[h2]
   ·simp[h1,h2]
section
variable {yv : Option Nat} {L : Loc} {F F1 : Nat -> Nat} {w : World} {g : Nat -> Option DO}
theorem aT.Is(tr:Tr F w F1 w)(hg:∀ id o,g id=some o->uD yv L F1 w id o){v:V}{x:Value}(hr:aT yv L F w v x):aT yv L F1 w (match cA g v with
  | some d=>.d d
  | none=>v) x:=by
 split
 ·rename_i d hd
  exact zR tr hg v x d hd hr
 ·exact aT.mono tr v x (fun _ _=>⟨rfl,rfl⟩) hr
theorem aT.tp{cs:List V}{l:Array Value}(h:aj yv L F w cs l.toList):aT yv L F w (tp cs) (.tuple l):=by
 unfold PX.tp;split
 ·rename_i ds Jc
  rw[jQ Jc]at h;exact⟨l,rfl,aj.inj.1 h⟩
 ·exact⟨l,rfl,h⟩
mutual
theorem aT.dE(tr:Tr F w F1 w)(hg:∀ id o,g id=some o->uD yv L F1 w id o):∀ (v:V) (x:Value),aT yv L F w v x->aT yv L F1 w (dE g v) x
 | .d v,x,h=>by simp only[PX.dE];exact bD.mono tr v x h
 | .agg cs,x,h=>by
  obtain⟨l,rfl,hl⟩:=h;simp only[PX.dE];exact aT.pQ (aj.dE tr hg cs _ hl)
 | .tup cs,x,h=>by
  obtain⟨l,rfl,hl⟩:=h;simp only[PX.dE];exact aT.tp (aj.dE tr hg cs _ hl)
 | .clo f cs,x,h=>by
  obtain⟨l,rfl,hl⟩:=h;simp only[PX.dE];have:=aj.dE tr hg cs _ hl;split
  ·rename_i ds Jc
   rw[jQ Jc]at this;exact⟨l,rfl,aj.inj.1 this⟩
  ·exact⟨l,rfl,this⟩
 | .ifc f cs,x,h=>by
  obtain⟨l,rfl,hl⟩:=h;simp only[PX.dE];exact⟨l,rfl,aj.dE tr hg cs _ hl⟩
 | .ptr i o,x,h=>by simp only[PX.dE];exact aT.Is tr hg h
 | .ep i n j o,x,h=>by simp only[PX.dE];exact aT.mono tr _ x (fun _ _=>⟨rfl,rfl⟩) h
 | .sl i n o l,x,h=>by simp only[PX.dE];exact aT.Is tr hg h
 | .mp i,x,h=>by simp only[PX.dE];exact aT.Is tr hg h
 | .it i,x,h=>by simp only[PX.dE];exact aT.mono tr _ x (fun _ _=>⟨rfl,rfl⟩) h
 | .yld,x,h=>by simp only[PX.dE];exact h
 | .unk,x,h=>by simp only[PX.dE];exact h
theorem aj.dE(tr:Tr F w F1 w)(hg:∀ id o,g id=some o->uD yv L F1 w id o):∀ (vs:List V) (l:List Value),aj yv L F w vs l->aj yv L F1 w (fG g vs) l
 | [],_,h=>h
 | v::r,_,h=>by
  obtain⟨x,l',rfl,hx,hl⟩:=h;exact⟨x,l',rfl,aT.dE tr hg v x hx,aj.dE tr hg r l' hl⟩
end
theorem zF(a b:List V):fG g (a++b)=fG g a++fG g b:=by
 induction a with
 | nil=>rfl
 | cons x r ih=>simp[fG,ih]
theorem zG(a:List V):(fG g a).length=a.length:=by
 induction a with
 | nil=>rfl
 | cons x r ih=>simp[fG,ih]
theorem tC:∀ (a:List (List V)),(jI g a).flatten=fG g a.flatten/\(jI g a).length=a.length /\ ∀ sz,cK sz a->cK sz (jI g a)
 | []=>⟨rfl,rfl,fun _ _ _ h=>by cases h⟩
 | e::r=>by
  obtain⟨h1,h2,h3⟩:=tC r;refine⟨by simp[jI,h1,zF],by simp[jI,h2],fun sz hl x hx=>?_⟩;rcases List.mem_cons.1 hx with rfl|hx
  ·rw[zG];exact hl e (List.mem_cons_self ..)
  ·exact h3 sz (fun y hy=>hl y (List.mem_cons_of_mem _ hy)) x hx
theorem Ap:∀ {l:List (List V)} {ds:List (List D)},Ao l=some ds->l=cU ds
 | [],ds,h=>by simp only[Ao,Option.some.injEq]at h;subst h;rfl
 | v::r,ds,h=>by
  simp only[Ao]at h;split at h
  ·rename_i a l h1 h2
   cases h;simp only[cU];rw[jQ h1,Ap h2]
  ·cases h
theorem bF.dE(tr:Tr F w F1 w)(hg:∀ id o,g id=some o->uD yv L F1 w id o)(id:Nat)(o:Obj)(h:bF yv L F w id o):bF yv L F1 w id (jN g o):=by
 cases o with
 | box c=>
  cases c with
  | dd l=>exact bF.mono tr id _ (fun _ _=>⟨rfl,rfl⟩) ⟨rfl,rfl⟩ (fun _=>rfl) h
  | vv l=>
   obtain⟨c,T,hc,hr⟩:=h;have hr:=aj.dE tr hg l _ hr;simp only[jN];split
   ·rename_i ds Jc
    rw[jQ Jc]at hr;exact⟨c,T,hc,hr⟩
   ·exact⟨c,T,hc,hr⟩
 | arr sz es=>
  cases es with
  | dd l=>exact bF.mono tr id _ (fun _ _=>⟨rfl,rfl⟩) ⟨rfl,rfl⟩ (fun _=>rfl) h
  | vv l=>
   obtain⟨hs,hl,h⟩:=h;obtain⟨k1,k2,k3⟩:=tC (g:=g) l;have rk:bF yv L F1 w id (.arr sz (.vv (jI g l))):=by
    refine⟨hs,k3 sz hl,?_⟩;rcases h with⟨h,hk⟩|⟨c,T,hc,hk,hn,hr⟩
    ·left
     have h:l = []:=h;subst h;exact⟨rfl,hk⟩
    ·right
     refine⟨c,T,hc,hk,?_,?_⟩
     ·show(jI g l).length*sz<=_
      rw[k2];exact hn
     ·show aj yv L F1 w (jI g l).flatten (c.toList.take ((jI g l).length*sz))
      rw[k2,k1];exact aj.dE tr hg _ _ hr
   simp only[jN];split
   ·rename_i ds Jc
    rw[Ap Jc]at rk;exact rk
   ·exact rk
 | map b0=>exact bF.mono tr id _ (fun _ _=>⟨rfl,rfl⟩) ⟨rfl,rfl⟩ (fun _=>rfl) h
 | iter s n=>exact bF.mono tr id _ (fun _ _=>⟨rfl,rfl⟩) ⟨rfl,rfl⟩ (fun _=>rfl) h
 | buf t s=>exact bF.mono tr id _ (fun _ _=>⟨rfl,rfl⟩) ⟨rfl,rfl⟩ (fun _=>rfl) h
 | tb t l=>
  obtain⟨c,hc,hr⟩:=h;exact⟨c,hc,aj.dE tr hg l _ hr⟩
 | fz l=>
  obtain⟨c,hc,hr⟩:=h;exact⟨c,hc.mono tr,aj.dE tr hg l _ hr⟩
 | mit v n l u=>exact bF.mono tr id _ (fun _ _=>⟨rfl,rfl⟩) ⟨rfl,rfl⟩ (fun _=>rfl) h
theorem gL(id:Nat)(o:Obj):aJ L id (jN g o)↔aJ L id o:=by
 cases o with
 | box c=>cases c with
  | dd l=>exact Iff.rfl
  | vv l=>simp only[jN];split<;>exact Iff.rfl
 | arr sz es=>cases es with
  | dd l=>exact Iff.rfl
  | vv l=>simp only[jN];split<;>exact Iff.rfl
 | map b0=>exact Iff.rfl
 | iter s n=>exact Iff.rfl
 | buf t s=>exact Iff.rfl
 | tb t l=>exact Iff.rfl
 | fz l=>exact Iff.rfl
 | mit v n l u=>exact Iff.rfl
end
theorem oS{α:Type}:∀ (l:List Nat) (t:sW α) (x:Nat),get (aQ l t) x=if tQ l x then get t x else none
 | l,[],x=>by simp[aQ,get]
 | l,(k,v)::r,x=>by
  simp only[aQ];split
  ·rename_i hk
   simp only[get];split
   ·rename_i he
    have:=Nat.eq_of_beq_eq_true he;subst this;simp[hk]
   ·exact oS l r x
  ·rename_i hk
   rw[oS l r x];simp only[get]
   cases DP:Nat.beq k x with
   | true=>
    have:=Nat.eq_of_beq_eq_true DP;subst this;simp[hk]
   | false=>rfl
theorem Wk.OY{σ:Type}{e:Env}{h:aq}{s:σ}(n:Nat)(ids:List Nat) :
  Wk (⟨e,h,s⟩:St σ) ⟨ct (dE (dJ (aQ ids h) n)) e,ct (jN (dJ (aQ ids h) n)) (tJ h ids),s⟩:=by
 intro cx r m L F a w hg;have n3:cN (aQ ids h) h:=g6 ids h;have eg:bp cx L F (aQ ids h) s w:=(hg.sub (e:=e) (h:=aQ ids h) (fun _ _ h=>h) n3).heap;have tr:=fY eg;have wH:∀ b,cx.C s b->eC L F (aQ ids h) w b=F b:=fun b hb=>nT eg hb;have rh:∀ id o,get h id=some o->id∉ids->aJ L id o->eC L F (aQ ids h) w (L.ρ id)=F (L.ρ id):=by
  intro id o hi hn hb;refine fX ?_;rintro ⟨j,p,hj,jv,px⟩;have:=hg.heap.inj j id p o (n3 j p hj) hi jv hb px;subst this;exact hn (jn ids h j p hj)
 have BV:=eY eg;have qo:=oi eg n;generalize eC L F (aQ ids h) w=F1 at tr wH rh BV qo;generalize dJ (aQ ids h) n=g at qo;have lC:∀ i o',get (ct (jN g) (tJ h ids)) i=some o'->i∉ids /\ ∃ o0,get h i=some o0/\o'=jN g o0:=by
  intro i o' hi;rw[bs,nV]at hi;split at hi
  ·cases hi
  ·rename_i hn
   cases h0:get h i with
   | none=>simp[h0]at hi
   | some o0=>simp[h0]at hi;exact⟨hn,o0,rfl,hi.symm⟩
 refine⟨L,F1,⟨⟨cx.eJ hg.heap.hg tr BV fun b hb=>⟨rfl,wH b hb⟩,hg.heap.j6,BV,?_,?_,?_⟩,?_,hg.wA,hg.pR,hg.wS,hg.lk,hg.mT,hg.wm⟩,tr⟩
 ·intro i o' hi
  obtain⟨_,o0,h0,rfl⟩:=lC i o' hi;exact bF.dE tr qo i o0 (hg.heap.obj i o0 h0)
 ·intro i o' hi hb
  obtain⟨hn,o0,h0,rfl⟩:=lC i o' hi;have hb:=(gL i o0).1 hb;rw[rh i o0 h0 hn hb];exact hg.heap.own i o0 h0 hb
 ·intro i j o' p hi hj md jv he
  obtain⟨_,o0,h0,rfl⟩:=lC i o' hi;obtain⟨_,p0,wN,rfl⟩:=lC j p hj;exact hg.heap.inj i j o0 p0 h0 wN ((gL i o0).1 md) ((gL j p0).1 jv) he
 ·intro t v ht
  simp only[bs]at ht
  cases h0:get e t with
  | none=>simp[h0]at ht
  | some v0=>
   simp[h0]at ht;subst ht;obtain⟨x,hx,hr⟩:=hg.env t v0 h0;exact⟨x,hx,aT.dE tr qo v0 x hr⟩
section
variable {P : Program} {T : dV} {σ : Type} {Y : Hd σ}
theorem wG.wk{c:Code}{st dm:St σ}{K:dX->St σ->Prop}(hw:Wk st dm)(h:wG P Y c dm K):wG P Y c st K:=by
 intro cx hY r m L F a w hg hc;obtain⟨L',F',eL,tr⟩:=hw cx r m L F a w hg;refine wpIn_mono (h cx hY r m L' F' a w eL hc) fun ex a' w' hq=>?_;rcases hq with⟨e',zK,m',L1,F1,h1,h2,h3,h4,h5⟩|hp
 ·exact .inl ⟨e',zK,m',L1,F1,h1,h2,h3,Tr.trans tr h4,h5⟩
 ·exact .inr (hp.trans tr rfl)
theorem bP(hT:bl P T){ft:FT}{c:Code}(hD:cy P T ft c){α:Type}(I:α->St σ)(Pr:α->Prop)(μ:α->Nat)(x0:α){st:St σ}{K:dX->St σ->Prop}(h0:Wk st (I x0))(p0:Pr x0)
  (round:∀ x,Pr x->Di P T ft Y c (I x) fun e dm=>match e with
   | .normal=>∃ y,μ y<μ x/\Pr y/\Wk dm (I y)
   | e=>K e dm):uy P ft Y c st K:=by
 refine⟨wG.wk h0 ?_⟩;intro cx hY r m0 L0 F0 a w hg hc;have hc:codeOk a.tmps.size c=true:=hc
 let J:Act->World->α->Prop:=fun a' w' x=>Pr x /\ ∃ m L F,Good cx r m L F (I x) a' w'/\Tr F0 w F w'/\a'.tmps.size=a.tmps.size
 let M:Act->World->Nat:=fun a' w'=>yg fun n=>∃ x,J a' w' x/\μ x=n
 refine wpIn_loop (fun a' w'=>∃ x,J a' w' x) M ⟨x0,p0,m0,L0,F0,hg,Tr.refl F0 w,rfl⟩ fun a' w' hJ=>?_;obtain⟨x,⟨hp,m,L,F,eL,tr,hs⟩,hx⟩:=yh (p:=fun n=>∃ x,J a' w' x/\μ x=n) (by obtain⟨x,hx⟩:=hJ;exact⟨μ x,x,hx,rfl⟩);refine wpIn_mono (cL hT c hD (I x) _ (round x hp) cx hY r m L F a' w' eL (by rw[hs];exact hc)) fun ex Ku Em hq=>?_;rcases hq with⟨e',zK,m1,L1,F1,rfl,h2,h3,h4,h5⟩|K0
 case inr=>
  have MM:=K0;obtain⟨v,pe,ph,ps,m',L',F',rfl,_⟩:=K0;exact .inr (MM.trans tr hs)
 cases e' with
 | normal=>
  obtain⟨y,hy,Wp,Hn⟩:=h2;obtain⟨L2,F2,mf,FV⟩:=Hn cx r m1 L1 F1 Ku Em h3;have QS:J Ku Em y:=⟨Wp,m1,L2,F2,mf,Tr.trans tr (Tr.trans h4 FV),h5.trans hs⟩;refine⟨⟨y,QS⟩,?_⟩;have:M Ku Em<=μ y:=BE ⟨y,QS,rfl⟩;have hx:μ x=M a' w':=hx;omega
 | exit i=>exact .inl ⟨.exit i,zK,m1,L1,F1,rfl,h2,h3,Tr.trans tr h4,h5.trans hs⟩
 | ret=>exact .inl ⟨.ret,zK,m1,L1,F1,rfl,h2,h3,Tr.trans tr h4,h5.trans hs⟩
end
section
variable {σ : Type}
theorem Good.R5{cx:Cx σ}{r:Option Nat}{m:List Nat}{L:Loc}{F:Nat->Nat}{e:Env}{h:aq}{s:σ}{a:Act}{w:World}(hg:Good cx r m L F ⟨e,h,s⟩ a w){t:Nat}{v v':V}(ht:get e t=some v)
  (hv:∀ x,aT cx.yv L F w v x->aT cx.yv L F w v' x):Good cx r m L F ⟨put e t v',h,s⟩ a w:=by
 refine⟨hg.heap,fun u y hu=>?_,hg.wA,hg.pR,hg.wS,hg.lk,hg.mT,hg.wm⟩;rw[db]at hu;split at hu
 ·rename_i he
  cases hu;subst he
  obtain⟨x,hx,hr⟩:=hg.env u v ht;exact⟨x,hx,hv x hr⟩
 ·exact hg.env u y hu
theorem Wk.born{e:Env}{h:aq}{s:σ}(t id sz:Nat)(dR:Nat.blt id 1000000=true)(hs:Nat.blt 0 sz=true)(ht:get e t=some (.d .nils)) :
  Wk (⟨e,h,s⟩:St σ) ⟨put (ct (aE (aZ id)) e) t (.sl id sz 0 0),((id,.arr sz (.dd []))::ct (Obj.aE (aZ id)) (cut h id)),s⟩:=by
 intro cx r m L F a w hg;have dR:=Nat.le_of_ble_eq_true dR;have hs:=Nat.le_of_ble_eq_true hs;have h1:=hg.kB id sz (by unfold pinned;omega) hs (.dd []) rfl;refine⟨_,F,Good.R5 (t:=t) (v:=.d .nils) h1 (by rw[bs,ht];rfl) fun x hx=>?_,Tr.refl F w⟩;have hx:x = .slice none 0 0:=hx;subst hx;exact⟨none,0,rfl,Nat.le_refl _,hs,.inl ⟨rfl,rfl⟩⟩
end
end Go.PX
namespace Go.PX
open Go.RowKit
mutual
def zV:D->D->Bool
 | .bool a,.bool b=>a ==b
 | .int k n,.int k' m=>decide (k=k')&&decide (n=m)
 | .str a,.str b=>decide (a=b)
 | .agg a,.agg b=>At a b
 | .tup a,.tup b=>At a b
 | .nils,.nils=>true
 | .nilp,.nilp=>true
 | .nilm,.nilm=>true
 | .nilf,.nilf=>true
 | .nili,.nili=>true
 | _,_=>false
def At:List D->List D->Bool
 | [],[]=>true
 | a::r,b::l=>zV a b&&At r l
 | _,_=>false
end
mutual
theorem Gw:∀ (a b:D),zV a b=true->a=b
 | .bool a,b,h=>by cases b<;>simp[zV]at h;rw[h]
 | .int k n,b,h=>by cases b<;>simp[zV]at h;rw[h.1,h.2]
 | .str a,b,h=>by cases b<;>simp[zV]at h;rw[h]
 | .agg a,b,h=>by cases b<;>simp[zV]at h;rw[oP _ _ h]
 | .tup a,b,h=>by cases b<;>simp[zV]at h;rw[oP _ _ h]
 | .nils,b,h=>by cases b<;>simp[zV]at h;rfl
 | .nilp,b,h=>by cases b<;>simp[zV]at h;rfl
 | .nilm,b,h=>by cases b<;>simp[zV]at h;rfl
 | .nilf,b,h=>by cases b<;>simp[zV]at h;rfl
 | .nili,b,h=>by cases b<;>simp[zV]at h;rfl
 | .vs _,b,h=>by cases b<;>simp[zV]at h
 | .ref _,b,h=>by cases b<;>simp[zV]at h
 | .mv _,b,h=>by cases b<;>simp[zV]at h
 | .clo _ _,b,h=>by cases b<;>simp[zV]at h
 | .mth _ _,b,h=>by cases b<;>simp[zV]at h
 | .ifc _ _,b,h=>by cases b<;>simp[zV]at h
theorem oP:∀ (a b:List D),At a b=true->a=b
 | [],b,h=>by cases b<;>simp[At]at h;rfl
 | x::r,b,h=>by
  cases b with
  | nil=>simp[At]at h
  | cons y l=>
   simp only[At,Bool.and_eq_true]at h;rw[Gw x y h.1,oP r l h.2]
end
def eqFields:List (Nat×TypeId)->List (Nat×TypeId)->Bool
 | [],[]=>true
 | (a,b)::r,(c,d)::l=>Nat.beq a c&&Nat.beq b d&&eqFields r l
 | _,_=>false
theorem pJ:∀ (a b:List (Nat×TypeId)),eqFields a b=true->a=b
 | [],[],_=>rfl
 | [],_::_,h=>by simp[eqFields]at h
 | _::_,[],h=>by simp[eqFields]at h
 | (a,b)::r,(c,d)::l,h=>by
  simp only[eqFields,Bool.and_eq_true]at h;rw[Nat.eq_of_beq_eq_true h.1.1,Nat.eq_of_beq_eq_true h.1.2,pJ r l h.2]
def LN:Kd->Kd->Bool
 | .bool,.bool=>true
 | .int k,.int k'=>decide (k=k')
 | .str,.str=>true
 | .slice e,.slice e'=>Nat.beq e e'
 | .struct fs,.struct gs=>eqFields fs gs
 | .array n e,.array n' e'=>Nat.beq n n'&&Nat.beq e e'
 | .map k e,.map k' e'=>Nat.beq k k'&&Nat.beq e e'
 | .iface,.iface=>true
 | .other,.other=>true
 | _,_=>false
theorem EC(a b:Kd)(h:LN a b=true):a=b:=by
 cases a<;>cases b<;>simp only[LN,Bool.and_eq_true,decide_eq_true_eq]at h<;>first|rfl|(cases h;done)|skip
 ·rw[h]
 ·rw[Nat.eq_of_beq_eq_true h]
 ·rw[pJ _ _ h]
 ·rw[Nat.eq_of_beq_eq_true h.1,Nat.eq_of_beq_eq_true h.2]
 ·rw[Nat.eq_of_beq_eq_true h.1,Nat.eq_of_beq_eq_true h.2]
def Sj:Bool->Bool->Bool
 | true,true=>true
 | false,false=>true
 | _,_=>false
def W6(P:Program)(t:TypeId)(ti:pF):Bool:=
 match P.info? t,P.underlying t with
 | some i,some d=>Nat.beq ti.size i.size&&Nat.beq ti.bytes i.bytes&&LN ti.kd (iT d)&&Sj ti.isAgg (qM d)&&(match ti.held with
   | true=>true
   | false=>!P.stoodInHeld t&&(match ti.kd with | .int _=>i.comparable|_=>true))&&(match ti.zero with
   | none=>true
   | some z=>match i.zero with
    | some zv=>match zeroCells zv with
     | some z'=>At z' z&&Sj (En zv) ti.isAgg
     | none=>false
    | none=>false)
 | _,_=>false
theorem Ir{P:Program}{t:TypeId}{ti:pF}(h:W6 P t ti=true):∃ i d,P.info? t=some i/\P.underlying t=some d/\ti.size=i.size/\ti.bytes=i.bytes/\ti.kd=iT d/\ti.isAgg=qM d /\
  (ti.held=false->P.stoodInHeld t=false /\ ∀ k,ti.kd = .int k->i.comparable=true)/\(∀ z,ti.zero=some z -> ∃ zv,i.zero=some zv/\zeroCells zv=some z/\En zv=ti.isAgg):=by
 unfold W6 at h;split at h;case h_2=>cases h
 rename_i i d hi hd;simp only[Bool.and_eq_true]at h;obtain⟨⟨⟨⟨⟨h1,h2⟩,h3⟩,h4⟩,h5⟩,h6⟩:=h;refine⟨i,d,hi,hd,Nat.eq_of_beq_eq_true h1,Nat.eq_of_beq_eq_true h2,EC _ _ h3,?_,fun hh=>?_,fun z hz=>?_⟩
 ·revert h4;cases ti.isAgg<;>cases qM d<;>simp[Sj]
 ·rw[hh]at h5
  simp only[Bool.and_eq_true,Bool.not_eq_true']at h5;refine⟨h5.1,fun k hk=>?_⟩;have:=h5.2;rw[hk]at this;exact this
 ·rw[hz]at h6
  simp only at h6;split at h6;case h_2=>cases h6
  rename_i zv E0;split at h6;case h_2=>cases h6
  rename_i z' WQ;simp only[Bool.and_eq_true]at h6;exact⟨zv,E0,by rw[WQ,oP _ _ h6.1],by have:=h6.2;revert this;cases En zv<;>cases ti.isAgg<;>simp[Sj]⟩
def Kk(P:Program):dV->Bool
 | .lf=>true
 | .nd l k v r=>Kk P l&&W6 P k v&&Kk P r
theorem sP{P:Program}:∀ {T:dV},Kk P T=true->bl P T
 | .lf,_,t,ti,h=>by cases h
 | .nd l k v r,hT,t,ti,h=>by
  simp only[Kk,Bool.and_eq_true]at hT;simp only[dV.get]at h;split at h
  ·rename_i he
   have:=Nat.eq_of_beq_eq_true he;subst this;cases h;exact Ir hT.1.2
  ·split at h
   ·exact sP hT.1.1 t ti h
   ·exact sP hT.2 t ti h
end Go.PX
namespace Go.PX
theorem nK{k:IntKind}{n:Int}{K:V->Prop}(h:k.wrap n=n)(hK:K (.d (.int k n))):arith k n K:=by constructor;rw[h];exact hK
theorem ag{b:Bool}{X Y:Prop}(h:b=true->X)(k:b=false->Y):Kx b X Y:=by cases b<;>simp_all[Kx]
theorem bc{b:Bool}{K:Prop}(h:b=true)(k:K):eW b K:=by subst h;exact k
theorem bY{es:List (List D)}{i:Int}{K:List D->Prop}(l:List D)(h:0<=i/\es[i.toNat]?=some l)(k:K l):xp es i K:=by simp[xp,h.1,h.2,k]
theorem cR{α:Type}{cs:List α}{n:Nat}{K:α->Prop}(v:α)(h:cs[n]?=some v)(k:K v):nN cs n K:=by simp[nN,h,k]
theorem wrap_i64{n:Int}(h : -9223372036854775808<=n/\n<=9223372036854775807):IntKind.wrap .i64 n=n:=IntWalk.i64_in n h
theorem af{n:Int}{K:V->Prop}(hK:K (.d (.int .i64 n)))(h:IntKind.wrap .i64 n=n:=by exact wrap_i64 (by(try dsimp only);omega)):arith .i64 n K:=nK h hK
abbrev i64(n:Int):D:=.int .i64 n
theorem iP{P:Program}{T:dV}(hm:P.follows .mixedOrders=true)(hT:bl P T){f:FuncId}{fn:Func}{c:Code}(hf:P.funcs[f]?=some fn)(hb:fn.body=some c){ft:FT}{ds:List D}{r:D}(n:Nat)(eg:qC ft fn n=true)(hn:ds.length=n)
     (hw:∀ {σ:Type} (Y:Hd σ) (s:σ),Di P T ft Y c ⟨ia 0 (inj ds),[],s⟩ (Sk T fn.results.toList fun v h' s'=>(v = .d r/\h' = [])/\s'=s)):aX P f ds r:=by
  intro σ Y s;exact cX hm hT hf hb (by rw[eh,hn];exact eg) (hw Y.np s)
theorem Ds{σ:Type}{h:aq}{s:σ}{Q:V->aq->σ->Prop}{id sz n:Nat}{es:List (List D)}(hg:get h id=some (.arr sz (.dd es)))(hn:n=es.length)(hq:Q (.d (.vs es)) [] s):pj [.sl id sz 0 n] h s Q:=by
 refine an 1 (ds:=[.vs es]) ?_ hq;have h1:Nat.beq sz sz=true:=Nat.beq_refl sz;have h2:Nat.ble (0+es.length) es.length=true:=Nat.ble_eq_true_of_le (by omega);subst hn;simp only[bZ,cA,dJ,hg,h1,h2,List.drop_zero,List.take_length]
end Go.PX
namespace Go.PX
open Go.RowKit
def df(R:Nat->Nat):aq->aq
 | []=>[]
 | (k,o)::r=>(R k,iD R o)::df R r
def sF(R:Nat->Nat)(e:Env):Env:=ct (aE (iy R)) e
theorem kn{R:Nat->Nat}:∀ {h:aq} {k:Nat} {o:Obj},get (df R h) k=some o -> ∃ j o1,get h j=some o1/\k=R j/\o=iD R o1
 | [],k,o,h=>by cases h
 | (j,p)::r,k,o,h=>by
  simp only[df,get]at h;split at h
  ·rename_i he
   have:=Nat.eq_of_beq_eq_true he;subst this;cases h;exact⟨j,p,by simp[get],rfl,rfl⟩
  ·rename_i he
   obtain⟨j',o1,h1,rfl,rfl⟩:=kn h;refine⟨j',o1,?_,rfl,rfl⟩;have:Nat.beq j j'=false:=by
    rw[Bool.eq_false_iff];intro e;have:=Nat.eq_of_beq_eq_true e;subst this;simp at he
   simp[get,this,h1]
section
variable {σ : Type} {cx : Cx σ} {L L' : Loc} {F : Nat -> Nat} {s : σ} {w : World} {R : Nat -> Nat}
theorem bp.mg{h:aq}(hh:bp cx L F h s w)(hn:∀ i∈bk h,L'.ρ (R i)=L.ρ i/\L'.κ (R i)=L.κ i):bp cx L' F (df R h) s w:=by
 refine⟨hh.hg,hh.j6,hh.fresh,fun k o hk=>?_,fun k o hk hb=>?_,fun k l o p hk hl j8 Ja e=>?_⟩
 ·obtain⟨j,o1,h1,rfl,rfl⟩:=kn hk
  obtain⟨n1,n2⟩:=aU h1;exact(bF.mg (R:=R) (L:=L) (L':=L') j o1 (fun i hi=>hn i (n2 i (ed i o1 hi))) (hn j n1)).2 (hh.obj j o1 h1)
 ·obtain⟨j,o1,h1,rfl,rfl⟩:=kn hk
  obtain⟨n1,n2⟩:=aU h1;rw[(hn j n1).1];exact hh.own j o1 h1 ((bX (R:=R) (L:=L) (L':=L') j o1 (hn j n1).2).1 hb)
 ·obtain⟨j,o1,h1,rfl,rfl⟩:=kn hk
  obtain⟨i,o2,h2,rfl,rfl⟩:=kn hl;obtain⟨n1,_⟩:=aU h1;obtain⟨n2,_⟩:=aU h2;rw[(hn j n1).1,(hn i n2).1]at e;rw[hh.inj j i o1 o2 h1 h2 ((bX (R:=R) (L:=L) (L':=L') j o1 (hn j n1).2).1 j8) ((bX (R:=R) (L:=L) (L':=L') i o2 (hn i n2).2).1 Ja) e]
def fO:Env->List Nat
 | []=>[]
 | (_,v)::r=>bC v++fO r
theorem ib:∀ {e:Env} {t:Nat} {v:V} {i:Nat},get e t=some v->gm v i->i∈fO e
 | [],t,v,i,h,_=>by cases h
 | (k,u)::r,t,v,i,h,hi=>by
  simp only[get]at h;split at h
  ·cases h
   exact List.mem_append.2 (.inl (gS i _ hi))
  ·exact List.mem_append.2 (.inr (ib h hi))
end
def idx:List Nat->Nat->Nat->Option Nat
 | [],_,_=>none
 | k::r,n,i=>match Nat.beq k i with
  | true=>some n
  | false=>idx r (n+1) i
def nD(c:Nat)(tb:List Nat)(i:Nat):Nat:=
 match idx tb c i with
 | some k=>k
 | none=>i
def nO(c:Nat)(tb:List Nat)(j:Nat):Nat:=
 match Nat.ble c j with
 | true=>match tb[j-c]? with
  | some i=>i
  | none=>j
 | false=>j
theorem vi:∀ {tb:List Nat} {n i k:Nat},idx tb n i=some k->n<=k/\tb[k-n]?=some i
 | [],n,i,k,h=>by cases h
 | t::r,n,i,k,h=>by
  simp only[idx]at h;split at h
  ·rename_i he
   have:=Nat.eq_of_beq_eq_true he;subst this;cases h;exact⟨Nat.le_refl _,by simp⟩
  ·obtain⟨h1,h2⟩:=vi h
   refine⟨by omega,?_⟩;have:k-n=(k-(n+1))+1:=by omega
   rw[this,List.getElem?_cons_succ];exact h2
theorem AY:∀ {tb:List Nat} {n i:Nat},idx tb n i=none->i∉tb
 | [],n,i,h=>by simp
 | t::r,n,i,h=>by
  simp only[idx]at h;split at h
  ·cases h
  ·rename_i he
   intro hm;rcases List.mem_cons.1 hm with rfl|hm
   ·simp at he
   ·exact AY h hm
theorem Tr.Tl{F:Nat->Nat}{w:World}{b:Nat}{o o':Go.Obj}(h:w.heap[b]?=some o)(hc:∀ c T x,o ≠ .cells c T x)(hm:∀ e c,o ≠ .map e c)(sj:∀ c T x,o' ≠ .cells c T x):Tr F w F (w.putObj b o'):=by
 have hk:∀ x,x≠b->(w.putObj b o').heap[x]?=w.heap[x]?:=fun x hx=>World.putObj_heap_other hx;refine⟨rfl,rfl,rfl,by simp,fun _=>Nat.le_refl _,fun x i hx=>?_,fun x en c hx Hb=>?_⟩
 ·by_cases he:x=b
  ·subst he
   have h1:=World.putObj_heap_same (w:=w) (o:=o') (bH h);have k1:w.cell? ⟨x,i,none⟩=none:=by
    simp only[World.cell?,h];cases o<;>first|rfl|exact absurd rfl (hc _ _ _)
   have k2:(w.putObj x o').cell? ⟨x,i,none⟩=none:=by
    simp only[World.cell?,h1];cases o'<;>first|rfl|exact absurd rfl (sj _ _ _)
   rw[k1,k2]
  ·exact j5 (hk x he)
 ·by_cases he:x=b
  ·subst he;rw[h]at Hb;cases Hb;exact absurd rfl (hm _ _)
  ·rw[hk x he];exact Hb
theorem bF.ry{yv:Option Nat}{L:Loc}{F:Nat->Nat}{w:World}{id:Nat}{o:Obj}(h:bF yv L F w id o)(hb:aJ L id o){x:Go.Obj}(hx:w.heap[L.ρ id]?=some x):(∀ lp,x ≠ .loop lp)/\(∀ d,x ≠ .deferred d):=by
 cases o with
 | box c=>obtain⟨c',T,hc,_⟩:=h;rw[hc]at hx;cases hx;exact⟨fun _ h=>(by cases h),fun _ h=>(by cases h)⟩
 | arr sz es=>
  obtain⟨_,_,h⟩:=h;rcases h with⟨_,hk⟩|⟨c,T,hc,_⟩
  ·exact absurd hk hb
  ·rw[hc]at hx;cases hx;exact⟨fun _ h=>(by cases h),fun _ h=>(by cases h)⟩
 | map b0=>obtain⟨en,c,hc,_⟩:=h;rw[hc]at hx;cases hx;exact⟨fun _ h=>(by cases h),fun _ h=>(by cases h)⟩
 | iter s n=>
  have hc:w.heap[L.ρ id]?=_:=h;rw[hc]at hx;cases hx;exact⟨fun _ h=>(by cases h),fun _ h=>(by cases h)⟩
 | buf t s=>obtain⟨_,hc,_⟩:=h;rw[hc]at hx;cases hx;exact⟨fun _ h=>(by cases h),fun _ h=>(by cases h)⟩
 | tb t l=>obtain⟨_,hc,_⟩:=h;rw[hc]at hx;cases hx;exact⟨fun _ h=>(by cases h),fun _ h=>(by cases h)⟩
 | fz l=>exact hb.elim
 | mit v n l u=>obtain⟨_,_,_,hc,_⟩:=h;rw[hc]at hx;cases hx;exact⟨fun _ h=>(by cases h),fun _ h=>(by cases h)⟩
theorem bp.JE{σ:Type}{cx:Cx σ}{L:Loc}{F F':Nat->Nat}{h:aq}{s:σ}{w w':World}(hh:bp cx L F h s w)(tr:Tr F w F' w')(hf:∀ b,w'.heap.size<=b->F' b=0)
  (hC:∀ b,cx.C s b->w'.heap[b]?=w.heap[b]?/\F' b=F b) (ho:∀ id o,get h id=some o->aJ L id o->w'.heap[L.ρ id]?=w.heap[L.ρ id]?/\F' (L.ρ id)=F (L.ρ id)):bp cx L F' h s w':=by
 refine⟨cx.eJ hh.hg tr hf hC,fun b hb=>Nat.lt_of_lt_of_le (hh.j6 b hb) tr.size,hf,fun id o hi=>?_,fun id o hi hb=>?_,hh.inj⟩
 ·exact bF.mono tr id o (fun _ _=>⟨rfl,rfl⟩) ⟨rfl,rfl⟩ (fun hb=>(ho id o hi hb).1) (hh.obj id o hi)
 ·rw[(ho id o hi hb).2];exact hh.own id o hi hb
end Go.PX
