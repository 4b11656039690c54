import Derived.Test.YtdijdldheikcmaaGreatPxG
import Derived.IntWalk
import Derived.RangeFuncNested
set_option linter.all false
namespace Go.PX
open Go.RowKit
theorem zm{tb:List Nat}{d:Option Nat}{v:V}{h':ar}(h:gT tb d v h'=true):dZ (cX tb d v h')=true:=by
 simp only[gT,Bool.and_eq_true]at h;exact h.2
theorem qX{l:List Nat}(h:l.Nodup){i j a:Nat}(hi:l[i]?=some a)(hj:l[j]?=some a):i=j:=by
 obtain⟨EL,Kg⟩:=List.getElem?_eq_some_iff.1 hi;obtain⟨CT,UF⟩:=List.getElem?_eq_some_iff.1 hj;have hp:=List.pairwise_iff_getElem.1 h;rcases Nat.lt_trichotomy i j with dN|heq|PH
 ·exact absurd (Kg.trans UF.symm) (hp i j EL CT dN)
 ·exact heq
 ·exact absurd (UF.trans Kg.symm) (hp j i CT EL PH)
def jJ(L L':Loc)(NL:List Nat)(c:Nat):Loc:=⟨fun x=>if x∈NL then L'.ρ (x-c+2000000) else L.ρ x,fun x=>if x∈NL then L'.κ (x-c+2000000) else L.κ x⟩
theorem AP{L L':Loc}{NL:List Nat}{c x:Nat}(hx:x∉NL):(jJ L L' NL c).ρ x=L.ρ x/\(jJ L L' NL c).κ x=L.κ x:=⟨if_neg hx,if_neg hx⟩
theorem AO{L L':Loc}{NL:List Nat}{c x:Nat}(hx:x∈NL):(jJ L L' NL c).ρ x=L'.ρ (x-c+2000000)/\(jJ L L' NL c).κ x=L'.κ (x-c+2000000):=⟨if_pos hx,if_pos hx⟩
theorem B1{h st h0:ar}{R:Nat->Nat}{tb:List Nat}(hh:cP h st)(ew:hU R h 1000000 tb h0)(mI:∀ k id,tb[k]?=some id->R (1000000+k)=id) :
  ∀ i o,get h0 i=some o -> ∃ k id,i=1000000+k/\tb[k]?=some id/\R i=id/\get st id=some (jW R o):=by
 intro i o hi;obtain⟨k,id,h1,h2,h3⟩:=rH ew i o hi;exact⟨k,id,h1,h2,by rw[h1];exact mI k id h2,hh _ _ h3⟩
theorem MI{σ:Type}:∀ (ws:List Wr) (st dj:St σ),st.env=dj.env->st.heap=dj.heap->cm (aH st ws)=cm (aH dj ws)
 | [],⟨e,h,s⟩,⟨e',h',s'⟩,h1,h2=>by
  simp only at h1 h2;subst h1;subst h2;rfl
 | w::r,⟨e,h,s⟩,⟨e',h',s'⟩,h1,h2=>by
  simp only at h1 h2;subst h1;subst h2;rw[aH,aH];exact MI r _ _ (by cases w<;>rfl) (by cases w<;>rfl)
theorem dS{L L2:Loc}{y:Nat}{o:Obj}(h:L2.κ y=L.κ y)(hb:aG L2 y o):aG L y o:=by
 cases o with
 | arr sz es=>intro e;exact hb (h.trans e)
 | box c=>exact trivial
 | map bT=>exact trivial
 | iter s n=>exact trivial
 | buf t s=>exact trivial
 | tb t l=>exact trivial
 | mit v n l u=>exact trivial
def vo(R:Nat->Nat)(L:Loc)(h0:ar)(b:Nat):Prop:=∃ i o,get h0 i=some o/\aG ⟨fun i=>L.ρ (R i),fun i=>L.κ (R i)⟩ i o/\L.ρ (R i)=b
theorem tz{σ:Type}{cx:Cx σ}{r:Option Nat}{m:List Nat}{L:Loc}{F:Nat->Nat}{st:St σ}{a:Act}{w:World}{tb:List Nat}{d:Option Nat}{v:V}{h':ar}(hB:gT tb d v h'=true){R:Nat->Nat}(hR:dM tb (d.getD 0)=R)
  {h h0:ar} (hh:cP h st.heap) (ew:hU R h 1000000 tb h0) (hg:Good cx r m L F st a w) (hd:∀ k,d=some k->k<a.tmps.size) {s':σ} {x:Value} {w':World} {L':Loc} {F':Nat->Nat}
  (yL:cx.HG s' w' F') (oL:∀ b,cx.C s' b->b<w'.heap.size) (CM:∀ b,b<w.heap.size->¬ vo R L h0 b->¬ cx.C st.s b->¬ cx.C s' b)
  (gV:∀ b,b<w.heap.size->¬ vo R L h0 b->¬ cx.C st.s b->w'.heap[b]?=w.heap[b]?/\F' b=F b) (tF:∀ b,w'.heap.size<=b->F' b=0)
  (sb:∀ i o,get h' i=some o->bE cx.yv L' F' w' i o)
  (yW:∀ i o,get h' i=some o->aG L' i o->F' (L'.ρ i)=0/\¬ cx.C s' (L'.ρ i)/\(L'.ρ i<w.heap.size->vo R L h0 (L'.ρ i)))
  (Kj:∀ i j o p,get h' i=some o->get h' j=some p->aG L' i o->aG L' j p->L'.ρ i=L'.ρ j->i=j)
  (hv:aR cx.yv L' F' w' v x) (tr:Tr F w F' w') (mB:sR ⟨fun i=>L.ρ (R i),fun i=>L.κ (R i)⟩ L') :
  ∃ L2,Good cx r m L2 F' (aH ⟨st.env,st.heap,s'⟩ (cX tb d v h')) (a.put d x) w':=by
 have ES:=zm hB;simp only[gT,Bool.and_eq_true]at hB;obtain⟨⟨⟨⟨⟨⟨⟨⟨⟨b1,b2⟩,b3⟩,b4⟩,b5⟩,b6⟩,b7⟩,b8⟩,b9⟩,_⟩:=hB;have uV:=gn b1;have b4:=fk b4;have b5:=oz b5;have b6:=oz b6;have b7:∀ i∈cz h',i<2000064:=fun i hi=>Nat.le_of_ble_eq_true (List.all_eq_true.1 b7 i hi);have b8:=Nat.le_of_ble_eq_true b8;have b9:=Nat.le_of_ble_eq_true b9;rw[hR]at b4;have mI:∀ k id,tb[k]?=some id->R (1000000+k)=id:=fun k id hk=>by rw[<- hR];exact oA hk b9
 have LI:∀ i,2000000<=i->R i=100000+64*d.getD 0+(i-2000000):=fun i hi=>by rw[<- hR];exact Cw hi
 obtain⟨qF,IK⟩:∃ qF,qF=vo R L h0:=⟨_,rfl⟩;rw[<- IK]at CM gV yW;have SD:∀ b,qF b ↔ ∃ i o,get h0 i=some o/\aG ⟨fun i=>L.ρ (R i),fun i=>L.κ (R i)⟩ i o/\L.ρ (R i)=b:=fun b=>by rw[IK];exact Iff.rfl
 have Ke:=B1 hh ew mI;have ED:∀ i o,get h0 i=some o->bE cx.yv ⟨fun i=>L.ρ (R i),fun i=>L.κ (R i)⟩ F w i o:=fun i o hi=>by
  obtain⟨k,id,rfl,h2,h3,h4⟩:=Ke i o hi;have:=hg.heap.obj id _ h4;rw[<- h3]at this;exact(bE.mC (R:=R) (L:=⟨fun i=>L.ρ (R i),fun i=>L.κ (R i)⟩) (L':=L) (1000000+k) o (fun _ _=>⟨rfl,rfl⟩) ⟨rfl,rfl⟩).1 this
 let NL:=(cz h').map R
 obtain⟨L2,Uu⟩:∃ L2,L2=jJ L L' NL (100000+64*d.getD 0):=⟨_,rfl⟩;have mH:∀ x,x∉NL->L2.ρ x=L.ρ x/\L2.κ x=L.κ x:=fun x hx=>by rw[Uu];exact AP hx
 have LD:∀ i,i∈cz h'->L2.ρ (R i)=L'.ρ i/\L2.κ (R i)=L'.κ i:=by
  intro i hi;have EJ:=lZ hi;have hm:R i∈NL:=List.mem_map.2 ⟨i,hi,rfl⟩;have:R i-(100000+64*d.getD 0)+2000000=i:=by rw[LI i EJ];omega
  have h2:=AO (L:=L) (L':=L') (c:=100000+64*d.getD 0) hm;rw[this]at h2;rw[Uu];exact h2
 have Jf:∀ i,1000000<=i->i<1000000+tb.length->L2.ρ (R i)=L'.ρ i/\L2.κ (R i)=L'.κ i:=by
  intro i h1 h2;obtain⟨k,eW⟩:∃ k,i=1000000+k:=⟨i-1000000,by omega⟩;have dN:k<tb.length:=by omega
  obtain⟨y,hk⟩:∃ y,tb[k]?=some y:=⟨_,List.getElem?_eq_getElem dN⟩;have VK:R i=y:=by rw[eW];exact mI _ _ hk
  have hn:R i∉NL:=by rw[VK];exact b4 _ (List.mem_of_getElem? hk)
  obtain⟨p1,p2⟩:=mB i ⟨h1,by omega⟩;exact⟨(mH _ hn).1.trans p1.symm,(mH _ hn).2.trans p2.symm⟩
 have qD:∀ i,((1000000<=i/\i<1000000+tb.length)\/i∈cz h')->L2.ρ (R i)=L'.ρ i/\L2.κ (R i)=L'.κ i:=fun i hi=>hi.elim (fun h=>Jf i h.1 h.2) (LD i);have g9:=hg.oC NL;have OD:=BC NL st (fun _=>False) (fun _ h=>h.elim);have uU:(oC st NL).s=st.s:=Ix _ _;have N7:∀ (ws:List Wr),cm (aH (⟨st.env,st.heap,s'⟩:St σ) ws)=cm (aH st ws):=fun ws=>MI ws _ _ rfl rfl;have vP:cm (aH st (cX tb d v h'))=bL (cm (oC st NL)) (cX tb d v h'):=by
  rw[yJ _ _ ES,Bh,hR]
 have JW:∀ x∈NL,100000<=x/\x<1000000:=by
  intro x hx;obtain⟨i,hi,rfl⟩:=List.mem_map.1 hx;have h1:=lZ hi;have h2:=b7 i hi;rw[LI i h1];omega
 have sB:cX tb d v h'=mY R h' (cz h')++(jD R h' 1000000 tb++aS d (mC R v)):=by rw[<- hR];rfl
 have SY:∀ t u,get (aH (⟨st.env,st.heap,s'⟩:St σ) (cX tb d v h')).env t=some u->(d=some t/\u=mC R v)\/(d≠some t/\get (oC st NL).env t=some u):=by
  intro t u PR;have ht:(cm (aH (⟨st.env,st.heap,s'⟩:St σ) (cX tb d v h'))).env t=some u:=PR;clear PR;rw[N7,vP,sB,iU,iU]at ht
  cases d with
  | none=>
   simp only[aS,bL,tU,xE]at ht;exact .inr ⟨by simp,ht⟩
  | some d=>
   simp only[aS,bL,eQ,tU,xE]at ht;split at ht
   ·rename_i e1;cases ht;exact .inl ⟨by rw[e1],rfl⟩
   ·rename_i e1;exact .inr ⟨by simpa using Ne.symm e1,ht⟩
 have yP:∀ y o,get (aH (⟨st.env,st.heap,s'⟩:St σ) (cX tb d v h')).heap y=some o->(∃ i o0,((1000000<=i/\i<1000000+tb.length)\/i∈cz h')/\y=R i/\get h' i=some o0/\o=jW R o0)\/(y∉tb/\y∉NL/\get (oC st NL).heap y=some o):=by
  intro y o hy;have hy:(cm (aH (⟨st.env,st.heap,s'⟩:St σ) (cX tb d v h'))).heap y=some o:=hy;rw[N7,vP,sB,iU,iU]at hy;have hy:(bL (bL (cm (oC st NL)) (mY R h' (cz h'))) (jD R h' 1000000 tb)).heap y=some o:=by
   cases d with
   | none=>exact hy
   | some d=>exact hy
  rcases vW R h' tb 1000000 _ y o hy with⟨k,o0,k1,k2,k3⟩|⟨k1,k2⟩
  ·have hk:k<tb.length:=(List.getElem?_eq_some_iff.1 k1).1
   exact .inl ⟨1000000+k,o0,.inl ⟨by omega,by omega⟩,(mI k y k1).symm,k2,k3⟩
  ·rcases zk R h' (cz h') _ y o (fun i hi=>rO hi) k2 with⟨i,o0,j1,j2,j3,j4⟩|⟨j1,j2⟩
   ·exact .inl ⟨i,o0,.inr j1,j2,j3,j4⟩
   ·exact .inr ⟨k1,j1,j2⟩
 have rest:∀ y o,y∉tb->y∉NL->get (oC st NL).heap y=some o->aG L y o->¬ qF (L.ρ y):=by
  intro y o h1 h2 hy hb CW;obtain⟨i,o',hi,nZ,oM⟩:=(SD _).1 CW;obtain⟨k,id,g1,g2,g3,g4⟩:=Ke i o' hi;have Ob:id∉NL:=b4 _ (List.mem_of_getElem? g2);have SS:get (oC st NL).heap id=some (mS NL (jW R o')):=by
   rw[kP,if_neg Ob,g4];rfl
  have nY:aG L id (jW R o'):=by rw[<- g3];exact(bP (R:=R) (L:=⟨fun i=>L.ρ (R i),fun i=>L.κ (R i)⟩) (L':=L) i o' rfl).2 nZ
  have G6:∀ (l:List Nat) (p:Obj),aG L id p->aG L id (mS l p):=by
   intro l
   induction l with
   | nil=>exact fun p hp=>hp
   | cons i r ih=>exact fun p hp=>ih _ ((df L i id p).2 hp)
  have:=g9.heap.inj id y _ o SS hy (G6 NL _ nY) hb (by rw[<- g3];exact oM);subst this;exact h1 (List.mem_of_getElem? g2)
 have sA:(aH (⟨st.env,st.heap,s'⟩:St σ) (cX tb d v h')).s=s':=cJ _ _;have XD:Tr F w F' w':=tr;refine⟨L2,⟨by rw[sA];exact yL,fun b hb=>oL b (by rw[<- sA];exact hb),tF,?_,?_,?_⟩,?_,?_,?_,hg.ye,?_,?_,?_⟩
 ·intro y o hy
  rcases yP y o hy with⟨i,o0,hi,rfl,h2,rfl⟩|⟨h1,h2,h3⟩
  ·have:=sb i o0 h2
   refine(bE.mC (R:=R) (L:=L') (L':=L2) i o0 (fun j hj=>qD j (b5 j ((aP h2).2 j (dE j o0 hj)))) (qD i hi)).2 this
  ·refine bE.mono tr y o (fun j hj=>mH j fun hm=>(OD j (.inl hm)).heap y o h3 hj) (mH y h2) (fun hb=>?_) (g9.heap.obj y o h3)
   exact(gV _ ((g9.heap.obj y o h3).lt hb) (rest y o h1 h2 h3 hb) (by rw[<- uU];exact(g9.heap.own y o h3 hb).2)).1
 ·intro y o hy hb
  rcases yP y o hy with⟨i,o0,hi,rfl,h2,rfl⟩|⟨h1,h2,h3⟩
  ·have ky:aG L' i o0:=(bP (R:=R) (L:=L') (L':=L2) i o0 (qD i hi).2).1 hb
   obtain⟨k1,k2,_⟩:=yW i o0 h2 ky;rw[(qD i hi).1];exact⟨k1,by rw[sA];exact k2⟩
  ·have ky:aG L y o:=dS (mH y h2).2 hb
   obtain⟨k1,k2⟩:=g9.heap.own y o h3 ky;rw[(mH y h2).1];rw[uU]at k2;have dN:=(g9.heap.obj y o h3).lt ky;have hr:=rest y o h1 h2 h3 ky;exact⟨(gV _ dN hr k2).2.trans k1,by rw[sA];exact CM _ dN hr k2⟩
 ·intro y z o p hy hz BR PE Gr
  have out:∀ y o,y∉tb->y∉NL->get (oC st NL).heap y=some o->aG L2 y o->aG L y o/\(L.ρ y<w.heap.size/\¬ qF (L.ρ y))/\L2.ρ y=L.ρ y:=by
   intro y o h1 h2 h3 hb;have ky:aG L y o:=dS (mH y h2).2 hb;exact⟨ky,⟨(g9.heap.obj y o h3).lt ky,rest y o h1 h2 h3 ky⟩,(mH y h2).1⟩
  rcases yP y o hy with⟨i,o0,hi,rfl,h2,rfl⟩|⟨h1,h2,h3⟩<;>rcases yP z p hz with⟨j,p0,hj,rfl,g2,rfl⟩|⟨g1,g2,g3⟩
  ·have nY:aG L' i o0:=(bP (R:=R) (L:=L') (L':=L2) i o0 (qD i hi).2).1 BR
   have uR:aG L' j p0:=(bP (R:=R) (L:=L') (L':=L2) j p0 (qD j hj).2).1 PE;rw[(qD i hi).1,(qD j hj).1]at Gr;rw[Kj i j o0 p0 h2 g2 nY uR Gr]
  ·exfalso
   have nY:aG L' i o0:=(bP (R:=R) (L:=L') (L':=L2) i o0 (qD i hi).2).1 BR;obtain⟨q1,q2,q3⟩:=out z p g1 g2 g3 PE;rw[(qD i hi).1,q3]at Gr;exact q2.2 (by rw[<- Gr];exact(yW i o0 h2 nY).2.2 (by rw[Gr];exact q2.1))
  ·exfalso
   have uR:aG L' j p0:=(bP (R:=R) (L:=L') (L':=L2) j p0 (qD j hj).2).1 PE;obtain⟨q1,q2,q3⟩:=out y o h1 h2 h3 BR;rw[(qD j hj).1,q3]at Gr;exact q2.2 (by rw[Gr];exact(yW j p0 g2 uR).2.2 (by rw[<- Gr];exact q2.1))
  ·obtain⟨q1,q2,q3⟩:=out y o h1 h2 h3 BR
   obtain⟨q4,q5,q6⟩:=out z p g1 g2 g3 PE;rw[q3,q6]at Gr;exact g9.heap.inj y z o p h3 g3 q1 q4 Gr
 ·intro t u ht
  rcases SY t u ht with⟨rfl,rfl⟩|⟨h1,h2⟩
  ·refine⟨x,?_,?_⟩
   ·simp[Act.put,Array.getElem?_setIfInBounds,hd t rfl]
   ·exact(aR.mC (R:=R) (L:=L') (L':=L2) v x fun j hj=>qD j (b6 j (gm j v hj))).2 hv
  ·obtain⟨y,hy,y5⟩:=g9.env t u h2
   refine⟨y,?_,aR.mono tr u y (fun j hj=>mH j fun hm=>(OD j (.inl hm)).env t u h2 hj) y5⟩
   cases d with
   | none=>exact hy
   | some d=>
    simp only[Act.put];rw[Array.getElem?_setIfInBounds_ne (by rintro rfl;exact h1 rfl)];exact hy
 ·cases d with
  | none=>exact hg.w8
  | some d=>exact hg.w8
 ·intro b hb
  obtain⟨k1,k2⟩:=hg.qB b hb;have iZ:¬ qF b:=?_
  ·refine⟨?_,by rw[sA];exact CM b (bA k1) iZ k2⟩
   rw[(gV b (bA k1) iZ k2).1];exact k1
  intro CW;obtain⟨i,o,hi,kW,rfl⟩:=(SD _).1 CW;have:=ED i o hi
  cases o with
  | box c=>obtain⟨c',T,hc,_⟩:=this;rw[k1]at hc;cases hc
  | arr sz es=>
   obtain⟨_,_,h⟩:=this;rcases h with⟨_,hk⟩|⟨c,T,hc,_⟩
   ·exact kW hk
   ·rw[k1]at hc;cases hc
  | map bT=>obtain⟨en,c,hc,_⟩:=this;rw[k1]at hc;cases hc
  | iter s n=>have hc:w.heap[L.ρ (R i)]?=_:=this;rw[k1]at hc;cases hc
  | buf t s=>obtain⟨_,hc,_⟩:=this;rw[k1]at hc;cases hc
  | tb t l=>obtain⟨_,hc,_⟩:=this;rw[k1]at hc;cases hc
  | mit v n l u=>obtain⟨_,_,_,hc,_⟩:=this;rw[k1]at hc;cases hc
 ·intro l hl
  obtain⟨lp,⟨k1,k0⟩,k2⟩:=hg.lk l hl;have iZ:¬ qF l:=?_
  ·refine⟨lp,⟨?_,k0⟩,by rw[sA];exact CM l (bA k1) iZ k2⟩
   rw[(gV l (bA k1) iZ k2).1];exact k1
  intro CW;obtain⟨i,o,hi,kW,rfl⟩:=(SD _).1 CW;have:=ED i o hi
  cases o with
  | box c=>obtain⟨c',T,hc,_⟩:=this;rw[k1]at hc;cases hc
  | arr sz es=>
   obtain⟨_,_,h⟩:=this;rcases h with⟨_,hk⟩|⟨c,T,hc,_⟩
   ·exact kW hk
   ·rw[k1]at hc;cases hc
  | map bT=>obtain⟨en,c,hc,_⟩:=this;rw[k1]at hc;cases hc
  | iter s n=>have hc:w.heap[L.ρ (R i)]?=_:=this;rw[k1]at hc;cases hc
  | buf t s=>obtain⟨_,hc,_⟩:=this;rw[k1]at hc;cases hc
  | tb t l=>obtain⟨_,hc,_⟩:=this;rw[k1]at hc;cases hc
  | mit v n l u=>obtain⟨_,_,_,hc,_⟩:=this;rw[k1]at hc;cases hc
 ·intro i hi
  have hn:i∉NL:=fun hm=>by have:=JW i hm;unfold pinned at hi;omega
  rw[(mH i hn).1,(mH i hn).2];exact hg.mB i hi
 ·rw[dG];exact hg.wE
theorem vM{σ:Type}{cx:Cx σ}{r:Option Nat}{m:List Nat}{L:Loc}{F:Nat->Nat}{st:St σ}{a:Act}{w:World}{tb:List Nat}{R:Nat->Nat}{h h0:ar}(hh:cP h st.heap)(ew:hU R h 1000000 tb h0)
  (mI:∀ k id,tb[k]?=some id->R (1000000+k)=id) (uV:tb.Nodup) (hg:Good cx r m L F st a w) :
  ba cx ⟨fun i=>L.ρ (R i),fun i=>L.κ (R i)⟩ F h0 st.s w:=by
 have Ke:=B1 hh ew mI;refine⟨hg.heap.hg,hg.heap.kq,hg.heap.fresh,fun i o hi=>?_,fun i o hi kW=>?_,fun i j o p hi hj nZ kL oM=>?_⟩
 ·obtain⟨k,id,rfl,h2,h3,h4⟩:=Ke i o hi
  have:=hg.heap.obj id _ h4;rw[<- h3]at this;exact(bE.mC (R:=R) (L:=⟨fun i=>L.ρ (R i),fun i=>L.κ (R i)⟩) (L':=L) (1000000+k) o (fun _ _=>⟨rfl,rfl⟩) ⟨rfl,rfl⟩).1 this
 ·obtain⟨k,id,h1,h2,h3,h4⟩:=Ke i o hi
  have ky:aG L id (jW R o):=by rw[<- h3];exact(bP (R:=R) (L:=⟨fun i=>L.ρ (R i),fun i=>L.κ (R i)⟩) (L':=L) i o rfl).2 kW
  obtain⟨k1,k2⟩:=hg.heap.own id _ h4 ky;rw[<- h3]at k1 k2;exact⟨k1,k2⟩
 ·obtain⟨k,id,h1,h2,h3,h4⟩:=Ke i o hi
  obtain⟨k',lT,xp,VF,Uo,VG⟩:=Ke j p hj;have nY:aG L id (jW R o):=by rw[<- h3];exact(bP (R:=R) (L:=⟨fun i=>L.ρ (R i),fun i=>L.κ (R i)⟩) (L':=L) i o rfl).2 nZ
  have uR:aG L lT (jW R p):=by rw[<- Uo];exact(bP (R:=R) (L:=⟨fun i=>L.ρ (R i),fun i=>L.κ (R i)⟩) (L':=L) j p rfl).2 kL
  have oM:L.ρ (R i)=L.ρ (R j):=oM;have:=hg.heap.inj id lT _ _ h4 VG nY uR (by rw[<- h3,<- Uo];exact oM);subst this;rw[h1,xp,qX uV h2 VF]
def AL{σ:Type}(cx:Cx σ)(s0:σ)(w:World)(F:Nat->Nat)(qF:Nat->Prop):Cx σ where
 C:=fun s b=>cx.C s b\/(b<w.heap.size/\¬ qF b)
 HG:=fun s w' F'=>cx.HG s w' F'/\w.heap.size<=w'.heap.size/\(∀ b,b<w.heap.size->¬ cx.C s0 b->¬ cx.C s b) /\ ∀ b,b<w.heap.size->¬ qF b->¬ cx.C s0 b->w'.heap[b]?=w.heap[b]?/\F' b=F b
 yv:=cx.yv
 wg:=cx.wg
 pρ:=cx.pρ
 pκ:=cx.pκ
 ff:=by
  rintro s w1 F1 w2 F2 ⟨h1,h0,h2,h3⟩ tr hf hk;refine⟨cx.ff h1 tr hf fun b hb=>hk b (.inl hb),Nat.le_trans h0 tr.size,h2,fun b hb hl hc=>?_⟩;obtain⟨k1,k2⟩:=hk b (.inr ⟨hb,hl⟩);obtain⟨k3,k4⟩:=h3 b hb hl hc;exact⟨k1.trans k3,k2.trans k4⟩
theorem mT{σ:Type}{P:Program}{Y:Hd σ}{cx:Cx σ}{s0:σ}{w:World}{F:Nat->Nat}{qF:Nat->Prop}(hY:cS P Y cx):cS P Y (AL cx s0 w F qF):=by
 refine⟨?_,fun s w F hh=>hY.laid s w F hh.1⟩;intro l hl args h s Q hy L1 F1 bh w1 hh hr;obtain⟨yL,cM,CM,gV⟩:=hh.hg;obtain⟨fn,tmps,x8,body,h1,h2⟩:=hY.yld l hl args h s Q hy L1 F1 bh w1 ⟨yL,fun b hb=>hh.kq b (.inl hb),hh.fresh,hh.obj,fun id o ho hb=>⟨(hh.own id o ho hb).1,fun hC=>(hh.own id o ho hb).2 (.inl hC)⟩,hh.inj⟩ hr;refine⟨fn,tmps,x8,body,h1,h2.mono ?_⟩;rintro e w' ⟨x,he,v,h',s',L',F',hq,sa,hv,tr,mB,k1,k2,k3⟩;have pd:∀ b,b<w.heap.size->¬ qF b->b<w1.heap.size /\ ∀ id o,get h id=some o->aG L1 id o->L1.ρ id≠b:=fun b hb hl=>
  ⟨hh.kq b (.inr ⟨hb,hl⟩),fun id o ho kW e=>(hh.own id o ho kW).2 (.inr ⟨by rw[e];exact hb,by rw[e];exact hl⟩)⟩
 refine⟨x,he,v,h',s',L',F',hq,⟨⟨sa.hg,Nat.le_trans cM tr.size,fun b hb hc=>k1 b (Nat.lt_of_lt_of_le hb cM) (CM b hb hc),fun b hb hl hc=>?_⟩,fun b hb=>?_,sa.fresh,sa.obj,fun id o ho hb=>⟨(sa.own id o ho hb).1,fun hC=>?_⟩,sa.inj⟩,hv,tr,mB,fun b hb hC EB=>?_,fun b hb hC=>k2 b hb (fun h=>hC (.inl h)),k3⟩
 ·obtain⟨p1,p2⟩:=pd b hb hl
  obtain⟨q1,q2⟩:=gV b hb hl hc;obtain⟨r1,r2⟩:=k2 b p1 (CM b hb hc) p2;exact⟨r1.trans q1,r2.trans q2⟩
 ·rcases hb with hb|⟨hb,hl⟩
  ·exact sa.kq b hb
  ·exact Nat.lt_of_lt_of_le (pd b hb hl).1 tr.size
 ·rcases hC with hC|⟨c1,c2⟩
  ·exact(sa.own id o ho hb).2 hC
  ·obtain⟨p1,p2⟩:=pd _ c1 c2
   obtain⟨lT,o',AA,ky,e⟩:=k3 id o ho hb p1;exact p2 lT o' AA ky e
 ·rcases EB with EB|EB
  ·exact k1 b hb (fun h=>hC (.inl h)) EB
  ·exact hC (.inr EB)
theorem yq{σ:Type}{P:Program}{Y:Hd σ}{f:FuncId}{args0:List V}{h0:ar}{Q:V->ar->σ->Prop}{cx:Cx σ}{r:Option Nat}{m:List Nat}{L:Loc}{F:Nat->Nat}{st:St σ}{a:Act}{w:World}(hf:DD P Y f args0 h0 st.s Q)
  (tb:List Nat) {h:ar} {d:Option Nat} {args:List V} (ct:oX (dM tb (d.getD 0)) args0=args) (ew:hU (dM tb (d.getD 0)) h 1000000 tb h0) (uV:hX tb=true) (yb:Nat.ble tb.length 1000=true)
  (hY:cS P Y cx) (hh:cP h st.heap) (hg:Good cx r m L F st a w) (hd:∀ k,d=some k->k<a.tmps.size) {bh:Array Value} (hr:ak cx.yv L F w args bh.toList) :
  CallsIn Fence.wide 0 P f bh w fun e w'=>∃ x,e = .returned x /\ ∃ v h' s',Q v h' s'/\(gT tb d v h'=true -> ∃ L2 F',Good cx r m L2 F' (aH ⟨st.env,st.heap,s'⟩ (cX tb d v h')) (a.put d x) w'/\Tr F w F' w'):=by
 have uV:=gn uV;have yb:=Nat.le_of_ble_eq_true yb;obtain⟨R,hR⟩:∃ R,R=dM tb (d.getD 0):=⟨_,rfl⟩;have mI:∀ k id,tb[k]?=some id->R (1000000+k)=id:=fun k id hk=>by rw[hR];exact oA hk yb
 rw[<- hR]at ct ew;subst ct;have hH:=vM hh ew mI uV hg;have NM:ba (AL cx st.s w F (vo R L h0)) ⟨fun i=>L.ρ (R i),fun i=>L.κ (R i)⟩ F h0 st.s w:=
  ⟨⟨hg.heap.hg,Nat.le_refl _,fun b hb hc=>hc,fun b hb hl hc=>⟨rfl,rfl⟩⟩,fun b hb=>hb.elim (hg.heap.kq b) (fun h=>h.1),hH.fresh,hH.obj,fun i o hi kW=>⟨(hH.own i o hi kW).1,fun hC=>hC.elim (hH.own i o hi kW).2 fun hC=>hC.2 ⟨i,o,hi,kW,rfl⟩⟩,hH.inj⟩
 have xq:ak cx.yv ⟨fun i=>L.ρ (R i),fun i=>L.κ (R i)⟩ F w args0 bh.toList:=(ak.mC (R:=R) args0 _ fun _ _=>⟨rfl,rfl⟩).1 hr;have dn:=hf.run _ (mT hY) _ F bh w NM xq;refine dn.mono ?_;rintro en w' ⟨x,rfl,v,h',s',L',F',hq,Aa,hv,tr,mB⟩;refine⟨x,rfl,v,h',s',hq,fun hB=>?_⟩;obtain⟨yL,_,CM,gV⟩:=Aa.hg;obtain⟨L2,lQ⟩:=tz hB hR.symm hh ew hg hd yL (fun b hb=>Aa.kq b (.inl hb)) (fun b hb hl hc=>CM b hb hc) gV Aa.fresh Aa.obj
  (fun i o hi hb=>⟨(Aa.own i o hi hb).1,fun hC=>(Aa.own i o hi hb).2 (.inl hC),fun dN=>Classical.byContradiction fun hl=>(Aa.own i o hi hb).2 (.inr ⟨dN,hl⟩)⟩)
  Aa.inj hv tr mB
 exact⟨L2,F',lQ,tr⟩
theorem oT{P:Program}{f:FuncId}{args0:List V}{h0:ar}{v0:V}{h1:ar}(hf:Cr P f args0 h0 fun v h'=>v=v0/\h'=h1)(tb:List Nat){e:Env}{h:ar}{d:Option Nat}{args:List V}
  (ct:oX (dM tb (d.getD 0)) args0=args) (ew:hU (dM tb (d.getD 0)) h 1000000 tb h0) (hB:gT tb d v0 h1=true):lC P e h d f args (cX tb d v0 h1):=by
 refine⟨(hf (σ:=Unit) { y:=fun _ _ _ _=>False } ()).enter,?_⟩;intro σ cx yS r m L F st a w bh he hh hg hd hr;have Uq:=hB;simp only[gT,Bool.and_eq_true]at Uq;obtain⟨⟨⟨⟨⟨⟨⟨⟨⟨b1,b2⟩,b3⟩,b4⟩,b5⟩,b6⟩,b7⟩,b8⟩,b9⟩,_⟩:=Uq;refine(yq (hf ({ y:=fun _ _ _ _=>False }:Hd σ) st.s) tb ct ew b1 b9 ⟨fun _ _ _ _ _ _ hy=>hy.elim,yS⟩ hh hg hd hr).mono ?_;rintro en w' ⟨x,rfl,v,h',s',⟨⟨rfl,rfl⟩,rfl⟩,hk⟩;obtain⟨L2,F',lQ,tr⟩:=hk hB;exact⟨x,rfl,L2,F',lQ,tr⟩
theorem D9{σ:Type}{P:Program}{Y:Hd σ}{f:FuncId}{args0:List V}{h0:ar}{s:σ}{Q:V->ar->σ->Prop}(hf:DD P Y f args0 h0 s Q)(tb:List Nat){e:Env}{h:ar}{d:Option Nat}{args:List V}{K:St σ->Prop}
  (ct:oX (dM tb (d.getD 0)) args0=args) (ew:hU (dM tb (d.getD 0)) h 1000000 tb h0) (uV:hX tb=true) (yb:Nat.ble tb.length 1000=true)
  (hq:∀ v h1 s',Q v h1 s'->gT tb d v h1=true/\K (aH ⟨e,h,s'⟩ (cX tb d v h1))):ef P Y ⟨e,h,s⟩ d f args K:=by
 refine⟨hf.enter,fun cx hY r m L F a w bh hg hd hr=>?_⟩;refine(yq (st:=⟨e,h,s⟩) hf tb ct ew uV yb hY (fun _ _ h=>h) hg hd hr).mono ?_;rintro en w' ⟨x,rfl,v,h',s',hv,hk⟩;obtain⟨hB,hK⟩:=hq _ _ _ hv;obtain⟨L2,F',lQ,tr⟩:=hk hB;exact .inl ⟨x,rfl,_,L2,F',hK,lQ,tr⟩
theorem Io{σ:Type}{P:Program}{Y:Hd σ}{args0:List V}{h0:ar}{s:σ}{Q:V->ar->σ->Prop}(tb:List Nat){e:Env}{h:ar}{d:Option Nat}{args:List V}{K:St σ->Prop}(hy:Y.y args0 h0 s Q)
  (ct:oX (dM tb (d.getD 0)) args0=args) (ew:hU (dM tb (d.getD 0)) h 1000000 tb h0) (uV:hX tb=true) (yb:Nat.ble tb.length 1000=true)
  (hq:∀ v h1 s',Q v h1 s'->gT tb d v h1=true/\K (aH ⟨e,h,s'⟩ (cX tb d v h1))):Jl P Y ⟨e,h,s⟩ d args K:=by
 refine⟨fun cx hY l hl r m L F a w bh hg hd hr=>?_⟩;have uV:=gn uV;have yb:=Nat.le_of_ble_eq_true yb;obtain⟨R,hR⟩:∃ R,R=dM tb (d.getD 0):=⟨_,rfl⟩;have mI:∀ k id,tb[k]?=some id->R (1000000+k)=id:=fun k id hk=>by rw[hR];exact oA hk yb
 rw[<- hR]at ct ew;subst ct;have hH:=vM (st:=⟨e,h,s⟩) (fun _ _ h=>h) ew mI uV hg;obtain⟨fn,tmps,x8,body,h1,h2⟩:=hY.yld l hl args0 h0 s Q hy ⟨fun i=>L.ρ (R i),fun i=>L.κ (R i)⟩ F bh w hH ((ak.mC (R:=R) args0 _ fun _ _=>⟨rfl,rfl⟩).1 hr);refine⟨fn,tmps,x8,body,h1,h2.mono ?_⟩;rintro en w' ⟨x,rfl,v,h',s',L',F',hv,Aa,y0,tr,mB,k1,k2,k3⟩;obtain⟨hB,hK⟩:=hq _ _ _ hv;have iZ:∀ b,¬ vo R L h0 b -> ∀ id o,get h0 id=some o->aG ⟨fun i=>L.ρ (R i),fun i=>L.κ (R i)⟩ id o->L.ρ (R id)≠b:=fun b hb id o ho kW e=>hb ⟨id,o,ho,kW,e⟩;obtain⟨L2,lQ⟩:=tz (st:=⟨e,h,s⟩) hB hR.symm (fun _ _ h=>h) ew hg hd Aa.hg Aa.kq (fun b hb hl hc=>k1 b hb hc) (fun b hb hl hc=>k2 b hb hc (iZ b hl)) Aa.fresh Aa.obj
  (fun i o hi hb=>⟨(Aa.own i o hi hb).1,(Aa.own i o hi hb).2,fun dN=>by
   obtain⟨lT,o',AA,ky,e'⟩:=k3 i o hi hb dN;exact⟨lT,o',AA,ky,e'⟩⟩)
  Aa.inj y0 tr mB
 exact⟨x,rfl,_,L2,F',hK,lQ,tr⟩
section
variable {P : Program} {T : dJ} {σ : Type} {Y : Hd σ} {e : Env} {h : ar} {s : σ} {d : Option Nat} {f : FuncId} {args : List V}
theorem qC{ws:List Wr}(ho:lC P e h d f args ws){K:St σ->Prop}(hk:a7 ws e h fun e h=>K ⟨e,h,s⟩):ef P Y ⟨e,h,s⟩ d f args K:=by
 refine⟨ho.1,fun cx hY r m L F a w bh hg hd hr=>(ho.2 cx hY.laid r m L F ⟨e,h,s⟩ a w bh (fun _ _ h=>h) (fun _ _ h=>h) hg hd hr).mono ?_⟩;rintro en w' ⟨x,rfl,L',F',eR,tr⟩;rw[cd s]at hk;have hs:(aH (⟨e,h,s⟩:St σ) ws).s=s:=cJ _ _;refine .inl ⟨x,rfl,_,L',F',?_,eR,tr⟩;generalize aH (⟨e,h,s⟩:St σ) ws=st at hk hs;obtain⟨e1,h1,s1⟩:=st;simp only at hs;subst hs;exact hk
theorem jn{args0:List V}{h0:ar}{v0:V}{h1:ar}(hf:Cr P f args0 h0 fun v h'=>v=v0/\h'=h1)(tb:List Nat)(ct:oX (dM tb (d.getD 0)) args0=args)
  (ew:hU (dM tb (d.getD 0)) h 1000000 tb h0) (hB:gT tb d v0 h1=true) {K:St σ->Prop} (hk:a7 (cX tb d v0 h1) e h fun e h=>K ⟨e,h,s⟩):ef P Y ⟨e,h,s⟩ d f args K:=
 qC (oT hf tb ct ew hB) hk
theorem yk{args0:List V}{h0:ar}{v0:V}{h1:ar}(hf:Cr P f args0 h0 fun v h'=>v=v0/\h'=h1)(tb:List Nat)(ct:oX (dM tb (d.getD 0)) args0=args)
  (ew:hU (dM tb (d.getD 0)) h 1000000 tb h0) (hB:gT tb d v0 h1=true) {K:List Wr->Prop} (hk:K (cX tb d v0 h1)):cN P e h d f args K:=
 ⟨_,hk,oT hf tb ct ew hB⟩
end
inductive DO where
 | box (l:List D)
 | arr (sz:Nat) (l:List (List D))
 | map (l:List (D×D))
mutual
def dI(g:Nat->Option DO):V->Option D
 | .d v=>some v
 | .agg cs=>match cR g cs with
  | some l=>some (.agg l)
  | none=>none
 | .tup cs=>match cR g cs with
  | some l=>some (.tup l)
  | none=>none
 | .clo f cs=>match cR g cs with
  | some l=>some (.clo f l)
  | none=>none
 | .ptr id off=>match g id with
  | some (.box l)=>some (.ref (l.drop off))
  | _=>none
 | .sl id sz off len=>match g id with
  | some (.arr m l)=>match Nat.beq m sz,Nat.ble (off+len) l.length with
   | true,true=>some (.vs ((l.drop off).take len))
   | _,_=>none
  | _=>none
 | .mp id=>match g id with
  | some (.map bT)=>some (.mv bT)
  | _=>none
 | .ep _ _ _ _=>none
 | .it _=>none
 | .yld=>none
 | .unk=>none
def cR(g:Nat->Option DO):List V->Option (List D)
 | []=>some []
 | v::r=>match dI g v,cR g r with
  | some a,some l=>some (a::l)
  | _,_=>none
end
def uO(g:Nat->Option DO):List (List V)->Option (List (List D))
 | []=>some []
 | v::r=>match cR g v,uO g r with
  | some a,some l=>some (a::l)
  | _,_=>none
def gL(h:ar):Nat->Nat->Option DO
 | 0,_=>none
 | n+1,id=>match get h id with
  | some (.box (.dd l))=>some (.box l)
  | some (.box (.vv l))=>match cR (gL h n) l with
   | some l=>some (.box l)
   | none=>none
  | some (.arr sz (.dd l))=>some (.arr sz l)
  | some (.arr sz (.vv l))=>match uO (gL h n) l with
   | some l=>some (.arr sz l)
   | none=>none
  | some (.map bT)=>some (.map bT)
  | _=>none
def pD(w:World)(b:Nat):Nat:=
 match w.heap[b]? with
 | some (.cells c _ _)=>c.size
 | some (.map _ _)=>1
 | _=>0
open Classical in
noncomputable def eV(L:Loc)(F:Nat->Nat)(h:ar)(w:World):Nat->Nat:=fun b=>if ∃ id o,get h id=some o/\aG L id o/\L.ρ id=b then pD w b else F b
section
variable {σ : Type} {cx : Cx σ} {L : Loc} {F : Nat -> Nat} {h : ar} {s : σ} {w : World}
theorem kU{id:Nat}{o:Obj}(hi:get h id=some o)(hb:aG L id o):eV L F h w (L.ρ id)=pD w (L.ρ id):=if_pos ⟨id,o,hi,hb,rfl⟩
theorem gE{b:Nat}(hb:¬ ∃ id o,get h id=some o/\aG L id o/\L.ρ id=b):eV L F h w b=F b:=if_neg hb
theorem CL(hh:ba cx L F h s w)(b:Nat):F b<=eV L F h w b:=by
 by_cases hb:∃ id o,get h id=some o/\aG L id o/\L.ρ id=b
 ·obtain⟨id,o,hi,kW,rfl⟩:=hb
  rw[(hh.own id o hi kW).1];exact Nat.zero_le _
 ·rw[gE hb];exact Nat.le_refl _
theorem pP(hh:ba cx L F h s w){b:Nat}(hC:cx.C s b):eV L F h w b=F b:=
 gE fun⟨id,o,hi,hb,e⟩=>(hh.own id o hi hb).2 (by rw[e];exact hC)
theorem fZ(hh:ba cx L F h s w):Tr F w (eV L F h w) w:=
 ⟨rfl,rfl,rfl,Nat.le_refl _,CL hh,fun _ _ _=>rfl,fun _ _ _ _ h=>h⟩
theorem fo(hh:ba cx L F h s w)(b:Nat)(hb:w.heap.size<=b):eV L F h w b=0:=by
 by_cases h1:∃ id o,get h id=some o/\aG L id o/\L.ρ id=b
 ·obtain⟨id,o,hi,kW,rfl⟩:=h1
  have:=(hh.obj id o hi).lt kW;omega
 ·rw[gE h1];exact hh.fresh b hb
theorem vJ(hh:ba cx L F h s w):ba cx L (eV L F h w) [] s w:=
 ⟨cx.ff hh.hg (fZ hh) (fo hh) fun b hb=>⟨rfl,pP hh hb⟩,hh.kq,fo hh,(fun id o hi=>by cases hi),(fun id o hi=>by cases hi),(fun i j o p hi=>by cases hi)⟩
def sS(yv:Option Nat)(L:Loc)(F:Nat->Nat)(w:World)(id:Nat):DO->Prop
 | .box l=>bW F w (L.ρ id) 0 l
 | .arr sz l=>cy sz l/\((l = []/\L.κ id=0)\/(bW F w (L.ρ id) 0 l.flatten))
 | .map bT=>∃ en c,0<F (L.ρ id)/\w.heap[L.ρ id]?=some (.map en c)/\bs F w bT en.toList
theorem cv.of_flat{F:Nat->Nat}{w:World}{b sz:Nat}:∀ {es:List (List D)} {off:Nat},cy sz es->bW F w b off es.flatten->cv F w b off sz es
 | [],_,_,_=>trivial
 | e::r,off,hl,h=>by
  have he:=hl e (List.mem_cons_self ..);have KH:∀ {a c:List D} {off:Nat},bW F w b off (a++c)->bW F w b off a/\bW F w b (off+a.length) c:=by
   intro a
   induction a with
   | nil=>exact fun h=>⟨trivial,h⟩
   | cons x r ih=>
    intro c off h;obtain⟨h1,h2,h3⟩:=h;obtain⟨h4,h5⟩:=ih h3;refine⟨⟨h1,h2,h4⟩,?_⟩
    rwa [show off+(x::r).length=off+1+r.length by simp;omega]
  rw[List.flatten_cons]at h;obtain⟨h1,h2⟩:=KH h;rw[he]at h2;exact⟨he,h1,cv.of_flat (fun x hx=>hl x (List.mem_cons_of_mem _ hx)) h2⟩
theorem bW.m3{F:Nat->Nat}{w:World}{b:Nat}:∀ {cs:List D} {off:Nat} {l:List Value},aN F w cs l->(∀ i x,l[i]?=some x->off+i<F b/\w.cell? ⟨b,off+i,none⟩=some x)->bW F w b off cs
 | [],_,_,_,_=>trivial
 | c::r,off,_,h,hc=>by
  obtain⟨x,l',rfl,h1,h2⟩:=h;obtain⟨k1,k2⟩:=hc 0 x (by simp);refine⟨by simpa using k1,⟨x,by simpa using k2,h1⟩,bW.m3 h2 fun i y hy=>?_⟩;have:=hc (i+1) y (by simpa using hy)
  rwa [show off+(i+1)=off+1+i by omega]at this
mutual
theorem Cm{g:Nat->Option DO}{F1:Nat->Nat}{yv:Option Nat}{L:Loc}{F:Nat->Nat}{w:World}(tr:Tr F w F1 w)(hg:∀ id o,g id=some o->sS yv L F1 w id o):∀ (v:V) (x:Value) (d:D),dI g v=some d->aR yv L F w v x->bq F1 w d x
 | .d v,x,d,hv,hr=>by
  simp only[dI,Option.some.injEq]at hv;subst hv;exact bq.mono tr _ _ hr
 | .agg cs,x,d,hv,hr=>by
  simp only[dI]at hv;split at hv
  ·rename_i l hl
   cases hv;obtain⟨a,rfl,ha⟩:=hr;exact⟨a,rfl,je tr hg cs _ l hl ha⟩
  ·cases hv
 | .tup cs,x,d,hv,hr=>by
  simp only[dI]at hv;split at hv
  ·rename_i l hl
   cases hv;obtain⟨a,rfl,ha⟩:=hr;exact⟨a,rfl,je tr hg cs _ l hl ha⟩
  ·cases hv
 | .clo f cs,x,d,hv,hr=>by
  simp only[dI]at hv;split at hv
  ·rename_i l hl
   cases hv;obtain⟨a,rfl,ha⟩:=hr;exact⟨a,rfl,je tr hg cs _ l hl ha⟩
  ·cases hv
 | .ptr id off,x,d,hv,hr=>by
  simp only[dI]at hv;split at hv
  ·rename_i l hl
   cases hv;have ya:bW F1 w (L.ρ id) 0 l:=hg id _ hl;have ya:=bW.drop off ya;rw[Nat.zero_add]at ya;exact⟨L.ρ id,off,hr,ya⟩
  ·cases hv
 | .sl id sz off len,x,d,hv,hr=>by
  simp only[dI]at hv;split at hv;case h_2=>cases hv
  rename_i m l hl;split at hv;case h_2=>cases hv
  rename_i hm hlen;cases hv;have hm:=Nat.eq_of_beq_eq_true hm;subst hm;have hlen:=Nat.le_of_ble_eq_true hlen;obtain⟨a,cap,rfl,h1,h2,h3⟩:=hr;obtain⟨Ls,Hb⟩:=hg id _ hl;refine⟨a,len,cap,rfl,by rw[List.length_take,List.length_drop];omega,h1,fun eX=>?_⟩;have Oi:len≠0:=by
   rintro rfl;simp at eX
  rcases h3 with⟨h3,_⟩|⟨h3,h4⟩
  ·exact absurd h3 Oi
  rcases Hb with⟨rfl,_⟩|ya
  ·simp at eX
  ·refine⟨L.ρ id,off*m,m,h3,h2,?_⟩
   have mG:=cv.of_flat Ls ya;have mG:=cv.drop off mG;rw[Nat.zero_add]at mG;exact cv.take len mG
 | .mp id,x,d,hv,hr=>by
  simp only[dI]at hv;split at hv
  ·rename_i l hl
   cases hv;obtain⟨en,c,h1,h2,h3⟩:=hg id _ hl;exact⟨L.ρ id,en,c,hr,h1,h2,h3⟩
  ·cases hv
 | .ep _ _ _ _,_,_,hv,_=>by simp[dI]at hv
 | .it _,_,_,hv,_=>by simp[dI]at hv
 | .yld,_,_,hv,_=>by simp[dI]at hv
 | .unk,_,_,hv,_=>by simp[dI]at hv
theorem je{g:Nat->Option DO}{F1:Nat->Nat}{yv:Option Nat}{L:Loc}{F:Nat->Nat}{w:World}(tr:Tr F w F1 w)(hg:∀ id o,g id=some o->sS yv L F1 w id o):∀ (vs:List V) (l:List Value) (ds:List D),cR g vs=some ds->ak yv L F w vs l->aN F1 w ds l
 | [],l,ds,hv,hr=>by
  simp only[cR,Option.some.injEq]at hv;subst hv;exact hr
 | v::r,l,ds,hv,hr=>by
  simp only[cR]at hv;split at hv
  ·rename_i a m h1 h2
   cases hv;obtain⟨x,l',rfl,h3,h4⟩:=hr;exact⟨x,l',rfl,Cm tr hg v x a h1 h3,je tr hg r l' m h2 h4⟩
  ·cases hv
end
theorem r4{g:Nat->Option DO}:∀ {es:List (List V)} {l:List (List D)},uO g es=some l->cR g es.flatten=some l.flatten/\l.length=es.length /\ ∀ sz,cy sz es->cy sz l
 | [],l,h=>by
  simp only[uO,Option.some.injEq]at h;subst h;exact⟨rfl,rfl,fun _ _ _ he=>by cases he⟩
 | e::r,l,h=>by
  simp only[uO]at h;split at h
  ·rename_i a m h1 h2
   cases h;obtain⟨k1,k2,k3⟩:=r4 h2;have app:∀ {a b:List V} {x y:List D},cR g a=some x->cR g b=some y->cR g (a++b)=some (x++y)/\x.length=a.length:=by
    intro a
    induction a with
    | nil=>intro b x y h1 h2;simp only[cR,Option.some.injEq]at h1;subst h1;exact⟨h2,rfl⟩
    | cons v r ih=>
     intro b x y h1 h2;simp only[cR]at h1;split at h1
     ·rename_i p q h3 h4
      cases h1;obtain⟨k1,k2⟩:=ih h4 h2;refine⟨?_,by simp[k2]⟩;simp only[List.cons_append,cR,h3,k1]
     ·cases h1
   obtain⟨j1,j2⟩:=app h1 k1;refine⟨by simpa using j1,by simp[k2],fun sz hl x hx=>?_⟩;rcases List.mem_cons.1 hx with rfl|hx
   ·rw[j2];exact hl e (List.mem_cons_self ..)
   ·exact k3 sz (fun y hy=>hl y (List.mem_cons_of_mem _ hy)) x hx
  ·cases h
theorem lJ{w:World}{b:Nat}{c:Array Value}{T:TypeId}(h:w.heap[b]?=some (.cells c T (0,0))){i:Nat}{x:Value}(hx:c.toList[i]?=some x):i<pD w b/\w.cell? ⟨b,i,none⟩=some x:=by
 have hx:c[i]?=some x:=by simpa using hx
 have hi:=(Array.getElem?_eq_some_iff.1 hx).1;refine⟨by simp only[pD,h];exact hi,?_⟩;rw[cell_of_row _ _ _ _ _ _ h];simpa using hx
theorem oR(hh:ba cx L F h s w):∀ (n:Nat) (id:Nat) (o:DO),gL h n id=some o->sS cx.yv L (eV L F h w) w id o
 | 0,_,_,ho=>by cases ho
 | n+1,id,o,ho=>by
  have tr:=fZ hh;simp only[gL]at ho;split at ho
  ·rename_i l hi
   cases ho;obtain⟨c,T,hc,hr⟩:=hh.obj id _ hi;have hr:aN F w l c.toList:=ak.inj.1 hr;refine bW.m3 (aN.mono tr _ _ hr) fun i x hx=>?_;rw[Nat.zero_add,kU hi trivial];exact lJ hc hx
  ·rename_i l hi
   split at ho
   ·rename_i l' hl
    cases ho;obtain⟨c,T,hc,hr⟩:=hh.obj id _ hi;have hr:=je tr (oR hh n) l _ l' hl hr;refine bW.m3 hr fun i x hx=>?_;rw[Nat.zero_add,kU hi trivial];exact lJ hc hx
   ·cases ho
  ·rename_i sz l hi
   cases ho;obtain⟨h1,h2,h3⟩:=hh.obj id _ hi;have Ls:cy sz l:=fun e he=>by
    have:=h2 (inj e) (by rw[aI.a5,cn];exact List.mem_map_of_mem he)
    rwa [dK]at this
   refine⟨Ls,?_⟩;rcases h3 with⟨h3,h4⟩|⟨c,T,hc,hk,hn,hr⟩
   ·left
    rw[aI.a5,cn,List.map_eq_nil_iff]at h3;exact⟨h3,h4⟩
   ·by_cases Ay:L.κ id=0
    ·left
     refine⟨?_,Ay⟩;rw[hk,Ay]at hn;rw[aI.a5,cn,List.length_map]at hn;have:l.length=0:=by
      rcases Nat.eq_zero_or_pos l.length with h|h
      ·exact h
      ·have:=Nat.mul_pos h h1;omega
     exact List.length_eq_zero_iff.1 this
    ·right
     rw[aI.a5,dB]at hr;have hr:=ak.inj.1 hr;refine bW.m3 (aN.mono tr _ _ hr) fun i x hx=>?_;rw[Nat.zero_add,kU hi Ay];rw[List.getElem?_take]at hx;split at hx
     ·exact lJ hc hx
     ·cases hx
  ·rename_i sz l hi
   split at ho;case h_2=>cases ho
   rename_i l' hl;cases ho;obtain⟨h1,h2,h3⟩:=hh.obj id _ hi;obtain⟨j1,j2,j3⟩:=r4 hl;refine⟨j3 sz h2,?_⟩;rcases h3 with⟨h3,h4⟩|⟨c,T,hc,hk,hn,hr⟩
   ·left
    have h3:l = []:=h3;subst h3;exact⟨List.length_eq_zero_iff.1 j2,h4⟩
   ·by_cases Ay:L.κ id=0
    ·left
     refine⟨?_,Ay⟩;rw[hk,Ay]at hn;have:l.length=0:=by
      rcases Nat.eq_zero_or_pos l.length with h|h
      ·exact h
      ·have:=Nat.mul_pos h h1
       have hn:l.length*sz<=0:=hn;omega
     exact List.length_eq_zero_iff.1 (by rw[j2];exact this)
    ·right
     have hr:=je tr (oR hh n) l.flatten _ l'.flatten j1 hr;refine bW.m3 hr fun i x hx=>?_;rw[Nat.zero_add,kU hi Ay];rw[List.getElem?_take]at hx;split at hx
     ·exact lJ hc hx
     ·cases hx
  ·rename_i bT hi
   cases ho;obtain⟨en,c,hc,hr⟩:=hh.obj id _ hi;refine⟨en,c,?_,hc,bs.mono tr _ _ hr.1⟩;rw[kU hi trivial];simp[pD,hc]
  ·cases ho
end
end Go.PX
namespace Go.PX
open Go.RowKit
def bF(ds:List D):D:=
 match ds with
 | [x]=>x
 | l=>.tup l
theorem B9{F:Nat->Nat}{w:World}{ds:List D}{bh:List Value}(h:aN F w ds bh):bq F w (bF ds) (Ca bh):=by
 cases ds with
 | nil=>
  have:bh = []:=h;subst this;exact⟨#[],rfl,rfl⟩
 | cons a r=>
  obtain⟨x,l,rfl,hx,hl⟩:=h
  cases r with
  | nil=>
   have:l = []:=hl;subst this;exact hx
  | cons b r=>
   obtain⟨y,l',rfl,hy,iF⟩:=hl;refine⟨(x::y::l').toArray,rfl,?_⟩;exact⟨x,y::l',rfl,hx,y,l',rfl,hy,iF⟩
theorem al{σ:Type}{l:List V}{h:ar}{s:σ}{Q:V->ar->σ->Prop}(n:Nat){ds:List D}(hv:cR (gL h n) l=some ds)(hq:Q (.d (bF ds)) [] s):sU l h s Q:=by
 refine⟨fun cx L F bh w hh hr=>?_⟩;have tr:=fZ hh;exact⟨_,[],L,eV L F h w,hq,vJ hh,B9 (je tr (oR hh n) l bh ds hv hr),tr,fun _ _=>⟨rfl,rfl⟩⟩
theorem af{σ:Type}{l:List V}{h:ar}{s:σ}{r:D}{ds:List D}(hv:cR (gL h 0) l=some ds:=by exact rfl)(hr:V.d (bF ds)=V.d r:=by exact rfl):sU l h s fun v h' s'=>(v = .d r/\h' = [])/\s'=s:=al 0 hv ⟨⟨hr,rfl⟩,rfl⟩
def AY(l:List V):V:=
 match l with
 | [x]=>x
 | l=>rL l
def vL(nk:List Nat)(i:Nat):Nat:=
 match Nat.blt i 2000000 with
 | true=>i
 | false=>match nk[i-2000000]? with
  | some k=>k
  | none=>0
def At(R:Nat->Nat)(h:ar):ar->Prop
 | []=>True
 | (i,o)::r=>get h (R i)=some (jW R o)/\At R h r
theorem iv{R:Nat->Nat}{h:ar}:∀ {h1:ar},At R h h1 -> ∀ i o,get h1 i=some o->get h (R i)=some (jW R o)
 | [],_,i,o,hi=>by cases hi
 | (k,p)::r,hh,i,o,hi=>by
  simp only[get]at hi;split at hi
  ·rename_i he
   have:=Nat.eq_of_beq_eq_true he;subst this;cases hi;exact hh.1
  ·exact iv hh.2 i o hi
def lW:ar->List Nat
 | []=>[]
 | (i,_)::r=>i::lW r
theorem oO:∀ {h:ar} {i:Nat} {o:Obj},get h i=some o->i∈lW h
 | [],i,o,h=>by cases h
 | (k,p)::r,i,o,h=>by
  simp only[get]at h;split at h
  ·rename_i he
   have:=Nat.eq_of_beq_eq_true he;subst this;simp[lW]
  ·simp[lW,oO h]
theorem bY{σ:Type}{l:List V}{h:ar}{s:σ}{Q:V->ar->σ->Prop}(nk:List Nat)(l1:List V)(h1:ar)(hl:oX (vL nk) l1=l)(G2:At (vL nk) h h1)(vR:hX ((lW h1).map (vL nk))=true)
  (hq:Q (AY l1) h1 s):sU l h s Q:=by
 refine⟨fun cx L F bh w hh hr=>?_⟩;have hR:∀ i,pinned i->vL nk i=i:=fun i hi=>by
  unfold vL;rw[show Nat.blt i 2000000=true from Nat.ble_eq_true_of_le hi.2]
 generalize vL nk=R at hl G2 vR hR;subst hl;have Kj:∀ i j,i∈lW h1->j∈lW h1->R i=R j->i=j:=by
  have hn:=gn vR;intro i j hi hj oM;obtain⟨a,ha⟩:=List.mem_iff_getElem?.1 hi;obtain⟨b,hb⟩:=List.mem_iff_getElem?.1 hj;have k1:((lW h1).map R)[a]?=some (R i):=by rw[List.getElem?_map,ha];rfl
  have k2:((lW h1).map R)[b]?=some (R i):=by rw[List.getElem?_map,hb,oM];rfl
  have:=qX hn k1 k2;subst this;rw[ha]at hb;exact Option.some.inj hb
 have Lw:ak cx.yv ⟨fun i=>L.ρ (R i),fun i=>L.κ (R i)⟩ F w l1 bh:=(ak.mC (R:=R) l1 _ fun _ _=>⟨rfl,rfl⟩).1 hr;refine⟨_,h1,⟨fun i=>L.ρ (R i),fun i=>L.κ (R i)⟩,F,hq,⟨hh.hg,hh.kq,hh.fresh,fun i o hi=>?_,fun i o hi hb=>?_,fun i j o p hi hj nZ kL oM=>?_⟩,?_,Tr.refl F w,fun i hi=>by
  show L.ρ (R i)=L.ρ i/\L.κ (R i)=L.κ i;rw[hR i hi];exact⟨rfl,rfl⟩⟩
 ·exact(bE.mC (R:=R) (L:=⟨fun i=>L.ρ (R i),fun i=>L.κ (R i)⟩) (L':=L) i o (fun _ _=>⟨rfl,rfl⟩) ⟨rfl,rfl⟩).1 (hh.obj _ _ (iv G2 i o hi))
 ·exact hh.own _ _ (iv G2 i o hi) ((bP (R:=R) (L:=⟨fun i=>L.ρ (R i),fun i=>L.κ (R i)⟩) (L':=L) i o rfl).2 hb)
 ·refine Kj i j (oO hi) (oO hj) ?_
  exact hh.inj _ _ _ _ (iv G2 i o hi) (iv G2 j p hj) ((bP (R:=R) (L:=⟨fun i=>L.ρ (R i),fun i=>L.κ (R i)⟩) (L':=L) i o rfl).2 nZ)
   ((bP (R:=R) (L:=⟨fun i=>L.ρ (R i),fun i=>L.κ (R i)⟩) (L':=L) j p rfl).2 kL) oM
 ·cases l1 with
  | nil=>
   have:bh = []:=Lw;subst this;exact⟨#[],rfl,rfl⟩
  | cons v r=>
   cases r with
   | nil=>
    obtain⟨x,l,rfl,hx,hl⟩:=Lw;have:l = []:=hl;subst this;exact hx
   | cons u r=>
    obtain⟨x,l,rfl,hx,y,l',rfl,hy,iF⟩:=Lw;have r8:ak cx.yv ⟨fun i=>L.ρ (R i),fun i=>L.κ (R i)⟩ F w (v::u::r) (x::y::l'):=⟨x,_,rfl,hx,y,l',rfl,hy,iF⟩;show aR _ _ _ _ (rL (v::u::r)) (.tuple (x::y::l').toArray);unfold rL;split
    ·rename_i ds GX
     refine⟨_,rfl,?_⟩;rw[iV GX]at r8;exact ak.inj.1 r8
    ·exact⟨_,rfl,r8⟩
mutual
def jc:D->Bool
 | .bool _=>true
 | .int _ _=>true
 | .str _=>true
 | .agg cs=>jM cs
 | .tup cs=>jM cs
 | .vs _=>false
 | .nils=>true
 | .ref _=>false
 | .nilp=>true
 | .mv _=>false
 | .nilm=>true
 | .clo _ cs=>jM cs
 | .mth _ cs=>jM cs
 | .nilf=>true
 | .ifc _ v=>jc v
 | .nili=>true
def jM:List D->Bool
 | []=>true
 | v::r=>jc v&&jM r
end
mutual
theorem bq.free{F F':Nat->Nat}{w w':World}:∀ (v:D) (x:Value),jc v=true->bq F w v x->bq F' w' v x
 | .bool _,_,_,h=>h
 | .int _ _,_,_,h=>h
 | .str _,_,_,h=>h
 | .agg cs,_,hf,h=>by
  obtain⟨l,rfl,hl⟩:=h;exact⟨l,rfl,aN.free cs _ hf hl⟩
 | .tup cs,_,hf,h=>by
  obtain⟨l,rfl,hl⟩:=h;exact⟨l,rfl,aN.free cs _ hf hl⟩
 | .vs _,_,hf,_=>by simp[jc]at hf
 | .nils,_,_,h=>h
 | .ref _,_,hf,_=>by simp[jc]at hf
 | .nilp,_,_,h=>h
 | .mv _,_,hf,_=>by simp[jc]at hf
 | .nilm,_,_,h=>h
 | .clo _ cs,_,hf,h=>by
  obtain⟨l,rfl,hl⟩:=h;exact⟨l,rfl,aN.free cs _ hf hl⟩
 | .mth _ cs,_,hf,h=>by
  obtain⟨l,rfl,hl⟩:=h;exact⟨l,rfl,aN.free cs _ hf hl⟩
 | .nilf,_,_,h=>h
 | .ifc _ v,_,hf,h=>by
  obtain⟨y,rfl,hy⟩:=h;exact⟨y,rfl,bq.free v y hf hy⟩
 | .nili,_,_,h=>h
theorem aN.free{F F':Nat->Nat}{w w':World}:∀ (vs:List D) (l:List Value),jM vs=true->aN F w vs l->aN F' w' vs l
 | [],_,_,h=>h
 | v::r,_,hf,h=>by
  simp only[jM,Bool.and_eq_true]at hf;obtain⟨x,l',rfl,hx,hl⟩:=h;exact⟨x,l',rfl,bq.free v x hf.1 hx,aN.free r l' hf.2 hl⟩
end
def aW(P:Program)(f:FuncId)(ds:List D)(r:D):Prop:=Cr P f (inj ds) [] fun v h'=>v = .d r/\h' = []
section
variable {P : Program} {σ : Type} {cx : Cx σ} {r : Option Nat} {m : List Nat} {L : Loc} {F : Nat -> Nat} {st : St σ} {a : Act} {w : World}
theorem Good.Fh(hg:Good cx r m L F st a w){F':Nat->Nat}{w':World}(tr:Tr F w F' w')(hk:∀ b,b<w.heap.size->w'.heap[b]?=w.heap[b]?/\F' b=F b)(hf:∀ b,w'.heap.size<=b->F' b=0):Good cx r m L F' st a w':=by
 refine⟨⟨cx.ff hg.heap.hg tr hf fun b hb=>hk b (hg.heap.kq b hb),fun b hb=>Nat.lt_of_lt_of_le (hg.heap.kq b hb) tr.size,hf,fun id o hi=>?_,fun id o hi hb=>?_,hg.heap.inj⟩,fun t v ht=>?_,hg.w8,fun b hb=>?_,hg.ye,fun l hl=>?_,hg.mB,hg.wE⟩
 ·exact bE.mono tr id o (fun _ _=>⟨rfl,rfl⟩) ⟨rfl,rfl⟩ (fun hb=>(hk _ ((hg.heap.obj id o hi).lt hb)).1) (hg.heap.obj id o hi)
 ·rw[(hk _ ((hg.heap.obj id o hi).lt hb)).2];exact hg.heap.own id o hi hb
 ·obtain⟨x,hx,hr⟩:=hg.env t v ht
  exact⟨x,hx,aR.mono tr v x (fun _ _=>⟨rfl,rfl⟩) hr⟩
 ·obtain⟨k1,k2⟩:=hg.qB b hb
  exact⟨by rw[(hk b (bA k1)).1];exact k1,k2⟩
 ·obtain⟨lp,k1⟩:=hg.lk l hl
  exact⟨lp,⟨by rw[(hk l (bA k1.1.1)).1];exact k1.1.1,k1.1.2⟩,k1.2⟩
theorem qj{f:FuncId}{ds:List D}{res:D}(hf:aW P f ds res)(gd:jc res=true)(n:Nat){e:Env}{h:ar}{d:Option Nat}{args:List V}(hv:cR (gL h n) args=some ds) :
  lC P e h d f args (aS d (.d res)):=by
 refine⟨(hf (σ:=Unit) { y:=fun _ _ _ _=>False } ()).enter,?_⟩;intro σ cx yS r m L F st a w bh he hh hg hd hr;have ec:ba cx L F h st.s w:=(hg.sub (e:=st.env) (h:=h) (fun _ _ h=>h) hh).heap;have yf:=fZ ec;generalize hF1:eV L F h w=F1 at yf;have As:∀ b,cx.C st.s b->F1 b=F b:=fun b hb=>by rw[<- hF1];exact pP ec hb
 have OE:aN F1 w ds bh.toList:=by
  rw[<- hF1];exact je (fZ ec) (oR ec n) args _ ds hv hr
 let Um:Cx σ:={
  C:=fun s b=>cx.C s b\/b<w.heap.size
  HG:=fun s w' F'=>cx.HG s w' F' /\ ∀ b,b<w.heap.size->w'.heap[b]?=w.heap[b]?/\F' b=F1 b
  yv:=cx.yv
  wg:=cx.wg
  pρ:=cx.pρ
  pκ:=cx.pκ
  ff:=by
   rintro s w1 W9 w2 F2 ⟨h1,h2⟩ tr hf hk;refine⟨cx.ff h1 tr hf fun b hb=>hk b (.inl hb),fun b hb=>?_⟩;obtain⟨k1,k2⟩:=hk b (.inr hb);obtain⟨k3,k4⟩:=h2 b hb;exact⟨k1.trans k3,k2.trans k4⟩ }
 have NM:ba Um L F1 [] st.s w:=by
  refine⟨⟨cx.ff hg.heap.hg yf (by rw[<- hF1];exact fo ec) fun b hb=>⟨rfl,As b hb⟩,fun _ _=>⟨rfl,rfl⟩⟩,fun b hb=>hb.elim (hg.heap.kq b) id,?_,(fun _ _ hi=>by cases hi),(fun _ _ hi=>by cases hi),(fun _ _ _ _ hi=>by cases hi)⟩;rw[<- hF1];exact fo ec
 have dn:=(hf ({ y:=fun _ _ _ _=>False }:Hd σ) st.s).run Um ⟨fun _ _ _ _ _ _ hy=>hy.elim,fun s w F hh=>yS s w F hh.1⟩ L F1 bh w NM (ak.inj.2 OE);refine dn.mono ?_;rintro en w' ⟨x,rfl,v,h',s',L',F',⟨⟨rfl,rfl⟩,rfl⟩,hH,Hl,tr,mB⟩;obtain⟨yL,gV⟩:=hH.hg
 let F2:Nat->Nat:=fun b=>if b<w.heap.size then F b else F' b
 have IJ:∀ b,b<w.heap.size->F2 b=F b:=fun b hb=>if_pos hb;have NJ:∀ b,w.heap.size<=b->F2 b=F' b:=fun b hb=>if_neg (by omega);have NK:∀ b o,o<F b->b<w.heap.size:=fun b o ho=>by
  rcases Nat.lt_or_ge b w.heap.size with h|h
  ·exact h
  ·rw[hg.heap.fresh b h]at ho;omega
 have DN:Tr F w F2 w':=by
  refine⟨tr.os,tr.tape,tr.output,tr.size,fun b=>?_,fun b o ho=>jg (gV b (NK b o ho)).1,fun b en c hb hm=>by rw[(gV b (NK b 0 hb)).1];exact hm⟩;rcases Nat.lt_or_ge b w.heap.size with h|h
  ·rw[IJ b h];exact Nat.le_refl _
  ·rw[hg.heap.fresh b h];exact Nat.zero_le _
 have lQ:=hg.Fh DN (fun b hb=>⟨(gV b hb).1,IJ b hb⟩) (fun b hb=>by
  rw[NJ b (Nat.le_trans tr.size hb)];exact hH.fresh b hb)
 exact⟨x,rfl,L,F2,lQ.aS hd (bq.free res x gd Hl),DN⟩
theorem ag{Y:Hd σ}{f:FuncId}{ds:List D}{res:D}(hf:aW P f ds res)(gd:jc res=true)(n:Nat){e:Env}{h:ar}{s:σ}{d:Option Nat}{args:List V}(hv:cR (gL h n) args=some ds)
  {K:St σ->Prop} (hk:a7 (aS d (.d res)) e h fun e h=>K ⟨e,h,s⟩):ef P Y ⟨e,h,s⟩ d f args K:=qC (qj hf gd n hv) hk
theorem aq{f:FuncId}{ds:List D}{res:D}(hf:aW P f ds res)(gd:jc res=true)(n:Nat){e:Env}{h:ar}{d:Option Nat}{args:List V}(hv:cR (gL h n) args=some ds)
  {K:List Wr->Prop} (hk:K (aS d (.d res))):cN P e h d f args K:=⟨_,hk,qj hf gd n hv⟩
theorem v8{f:FuncId}{ds:List D}{res:D}(hf:aW P f ds res){e:Env}{h:ar}{d:Option Nat}{args:List V}(hv:args=inj ds)(hd:Nat.ble (d.getD 0) 10000=true):lC P e h d f args (aS d (.d res)):=by
 have Kl:oX (dM [] (d.getD 0)) (inj ds)=args:=by rw[hv];exact AM _ _
 have hB:gT [] d (.d res) []=true:=by
  cases d with
  | none=>rfl
  | some d=>
   simp only[gT,cz,hX,cf,vt,bN,List.map_nil,jw,List.all_nil,List.length_nil,hd,Bool.and_true,Bool.true_and,cX,mY,jD,List.nil_append,aS,dZ,bn];rfl
 exact oT hf [] Kl rfl hB
theorem ae{Y:Hd σ}{f:FuncId}{ds:List D}{res:D}(hf:aW P f ds res){e:Env}{h:ar}{s:σ}{d:Option Nat}{args:List V}(hv:args=inj ds)(hd:Nat.ble (d.getD 0) 10000=true)
  {K:St σ->Prop} (hk:a7 (aS d (.d res)) e h fun e h=>K ⟨e,h,s⟩):ef P Y ⟨e,h,s⟩ d f args K:=qC (v8 hf hv hd) hk
theorem aj{f:FuncId}{ds:List D}{res:D}(hf:aW P f ds res){e:Env}{h:ar}{d:Option Nat}{args:List V}(hv:args=inj ds)(hd:Nat.ble (d.getD 0) 10000=true)
  {K:List Wr->Prop} (hk:K (aS d (.d res))):cN P e h d f args K:=⟨_,hk,v8 hf hv hd⟩
end
end Go.PX
namespace Go.PX
open Go.RowKit
theorem tT{p:Nat->Prop}:∀ (n:Nat),p n -> ∃ m,p m /\ ∀ k,p k->m<=k:=by
 intro n
 induction n using Nat.strongRecOn with
 | _ n ih=>
  intro hn;by_cases h:∃ k,k<n/\p k
  ·obtain⟨k,hk,hp⟩:=h;exact ih k hk hp
  ·exact⟨n,hn,fun k hk=>Nat.le_of_not_lt fun dN=>h ⟨k,dN,hk⟩⟩
open Classical in
noncomputable def wv(p:Nat->Prop):Nat:=if h:∃ n,p n then (tT h.choose h.choose_spec).choose else 0
theorem wx{p:Nat->Prop}(h:∃ n,p n):p (wv p):=by
 unfold wv;rw[dif_pos h];exact(tT h.choose h.choose_spec).choose_spec.1
theorem zK{p:Nat->Prop}{k:Nat}(hk:p k):wv p<=k:=by
 have h:∃ n,p n:=⟨k,hk⟩;unfold wv;rw[dif_pos h];exact(tT h.choose h.choose_spec).choose_spec.2 k hk
def Wk{σ:Type}(st dj:St σ):Prop:=
 ∀ (cx:Cx σ) (r:Option Nat) (m:List Nat) (L:Loc) (F:Nat->Nat) (a:Act) (w:World),Good cx r m L F st a w -> ∃ L' F',Good cx r m L' F' dj a w/\Tr F w F' w
theorem Wk.trans{σ:Type}{st dj H5:St σ}(h:Wk st dj)(k:Wk dj H5):Wk st H5:=fun cx r m L F a w hg=>by
 obtain⟨L',F',h1,h2⟩:=h cx r m L F a w hg;obtain⟨Je,Ge,h3,h4⟩:=k cx r m L' F' a w h1;exact⟨Je,Ge,h3,Tr.trans h2 h4⟩
def uH(e:Env):Env->Prop
 | []=>True
 | (k,v)::r=>get e k=some v/\uH e r
def qu(e:ar):ar->Prop
 | []=>True
 | (k,v)::r=>get e k=some v/\qu e r
theorem uI{e:Env}:∀ {e':Env},uH e e'->cP e' e
 | [],_,s,v,h=>by cases h
 | (k,u)::r,hs,s,v,h=>by
  simp only[get]at h;split at h
  ·rename_i he
   have:=Nat.eq_of_beq_eq_true he;subst this;cases h;exact hs.1
  ·exact uI hs.2 s v h
theorem rj{e:ar}:∀ {e':ar},qu e e'->cP e' e
 | [],_,s,v,h=>by cases h
 | (k,u)::r,hs,s,v,h=>by
  simp only[get]at h;split at h
  ·rename_i he
   have:=Nat.eq_of_beq_eq_true he;subst this;cases h;exact hs.1
  ·exact rj hs.2 s v h
theorem Wk.sub{σ:Type}{e e':Env}{h h':ar}{s:σ}(he:uH e e')(hh:qu h h'):Wk (⟨e,h,s⟩:St σ) ⟨e',h',s⟩:=
 fun cx r m L F a w hg=>⟨L,F,hg.sub (uI he) (rj hh),Tr.refl F w⟩
theorem av{σ:Type}{e e':Env}{h h':ar}{s:σ}(he:uH e e':=by repeat' first|exact trivial|refine⟨?_,?_⟩|rfl|simp[PX.get])(hh:qu h h':=by repeat' first|exact trivial|refine⟨?_,?_⟩|rfl|simp[PX.get]):Wk (⟨e,h,s⟩:St σ) ⟨e',h',s⟩:=Wk.sub he hh
theorem Wk.move{σ:Type}{e:Env}{h:ar}{s:σ}(i j:Nat)(hj:Nat.blt j 1000000=true)(oM:Nat.beq i j=false) :
  Wk (⟨e,h,s⟩:St σ) ⟨cj (aB (fD i j)) (cj (aB (aU j)) e),la i j (cj (Obj.aB (aU j)) (cut h j)),s⟩:=by
 intro cx r m L F a w hg;have hj:=Nat.le_of_ble_eq_true hj;have oM:i≠j:=by rintro rfl;simp at oM
 have h1:Good cx r m L F ⟨e,cut h j,s⟩ a w:=hg.del j;have h2:=h1.kill j;have hu:=tR (e:=e) (h:=h) j (x:=j) (.inl rfl);exact⟨_,F,h2.move (by unfold pinned;omega) oM hu,Tr.refl F w⟩
mutual
def fz(g:Nat->Option DO):V->V
 | .d v=>.d v
 | .agg cs=>qd (gu g cs)
 | .tup cs=>rL (gu g cs)
 | .clo f cs=>match qJ (gu g cs) with
  | some l=>.d (.clo f l)
  | none=>.clo f (gu g cs)
 | .ptr i o=>match dI g (.ptr i o) with
  | some v=>.d v
  | none=>.ptr i o
 | .ep i n j o=>.ep i n j o
 | .sl i n o l=>match dI g (.sl i n o l) with
  | some v=>.d v
  | none=>.sl i n o l
 | .mp i=>match dI g (.mp i) with
  | some v=>.d v
  | none=>.mp i
 | .it i=>.it i
 | .yld=>.yld
 | .unk=>.unk
def gu(g:Nat->Option DO):List V->List V
 | []=>[]
 | v::r=>fz g v::gu g r
end
def iN(g:Nat->Option DO):List (List V)->List (List V)
 | []=>[]
 | v::r=>gu g v::iN g r
def yw:List (List V)->Option (List (List D))
 | []=>some []
 | v::r=>match qJ v,yw r with
  | some a,some l=>some (a::l)
  | _,_=>none
def jN(g:Nat->Option DO):Obj->Obj
 | .box (.vv l)=>match qJ (gu g l) with
  | some l=>.box (.dd l)
  | none=>.box (.vv (gu g l))
 | .tb t l=>.tb t (gu g l)
 | .arr n (.vv l)=>match yw (iN g l) with
  | some l=>.arr n (.dd l)
  | none=>.arr n (.vv (iN g l))
 | o=>o
def w7{α:Type}(t:sV α):List Nat->sV α
 | []=>t
 | i::r=>w7 (cut t i) r
theorem tw{α:Type}:∀ (l:List Nat) (t:sV α) (x:Nat),get (w7 t l) x=if x∈l then none else get t x
 | [],t,x=>by simp[w7]
 | i::r,t,x=>by
  rw[w7,tw r,dz];by_cases h1:x∈r
  ·simp[h1]
  ·by_cases h2:x=i
   ·simp[h2]
   ·simp[h1,h2]
section
variable {yv : Option Nat} {L : Loc} {F F1 : Nat -> Nat} {w : World} {g : Nat -> Option DO}
theorem aR.F6(tr:Tr F w F1 w)(hg:∀ id o,g id=some o->sS yv L F1 w id o){v:V}{x:Value}(hr:aR yv L F w v x):aR yv L F1 w (match dI g v with
  | some d=>.d d
  | none=>v) x:=by
 split
 ·rename_i d hd
  exact Cm tr hg v x d hd hr
 ·exact aR.mono tr v x (fun _ _=>⟨rfl,rfl⟩) hr
theorem aR.rL{cs:List V}{l:Array Value}(h:ak yv L F w cs l.toList):aR yv L F w (rL cs) (.tuple l):=by
 unfold PX.rL;split
 ·rename_i ds GX
  rw[iV GX]at h;exact⟨l,rfl,ak.inj.1 h⟩
 ·exact⟨l,rfl,h⟩
mutual
theorem aR.fz(tr:Tr F w F1 w)(hg:∀ id o,g id=some o->sS yv L F1 w id o):∀ (v:V) (x:Value),aR yv L F w v x->aR yv L F1 w (fz g v) x
 | .d v,x,h=>by simp only[PX.fz];exact bq.mono tr v x h
 | .agg cs,x,h=>by
  obtain⟨l,rfl,hl⟩:=h;simp only[PX.fz];exact aR.qd (ak.fz tr hg cs _ hl)
 | .tup cs,x,h=>by
  obtain⟨l,rfl,hl⟩:=h;simp only[PX.fz];exact aR.rL (ak.fz tr hg cs _ hl)
 | .clo f cs,x,h=>by
  obtain⟨l,rfl,hl⟩:=h;simp only[PX.fz];have:=ak.fz tr hg cs _ hl;split
  ·rename_i ds GX
   rw[iV GX]at this;exact⟨l,rfl,ak.inj.1 this⟩
  ·exact⟨l,rfl,this⟩
 | .ptr i o,x,h=>by simp only[PX.fz];exact aR.F6 tr hg h
 | .ep i n j o,x,h=>by simp only[PX.fz];exact aR.mono tr _ x (fun _ _=>⟨rfl,rfl⟩) h
 | .sl i n o l,x,h=>by simp only[PX.fz];exact aR.F6 tr hg h
 | .mp i,x,h=>by simp only[PX.fz];exact aR.F6 tr hg h
 | .it i,x,h=>by simp only[PX.fz];exact aR.mono tr _ x (fun _ _=>⟨rfl,rfl⟩) h
 | .yld,x,h=>by simp only[PX.fz];exact h
 | .unk,x,h=>by simp only[PX.fz];exact h
theorem ak.fz(tr:Tr F w F1 w)(hg:∀ id o,g id=some o->sS yv L F1 w id o):∀ (vs:List V) (l:List Value),ak yv L F w vs l->ak yv L F1 w (gu g vs) l
 | [],_,h=>h
 | v::r,_,h=>by
  obtain⟨x,l',rfl,hx,hl⟩:=h;exact⟨x,l',rfl,aR.fz tr hg v x hx,ak.fz tr hg r l' hl⟩
end
theorem xO(a b:List V):gu g (a++b)=gu g a++gu g b:=by
 induction a with
 | nil=>rfl
 | cons x r ih=>simp[gu,ih]
theorem xP(a:List V):(gu g a).length=a.length:=by
 induction a with
 | nil=>rfl
 | cons x r ih=>simp[gu,ih]
theorem rS:∀ (a:List (List V)),(iN g a).flatten=gu g a.flatten/\(iN g a).length=a.length /\ ∀ sz,cy sz a->cy sz (iN g a)
 | []=>⟨rfl,rfl,fun _ _ _ h=>by cases h⟩
 | e::r=>by
  obtain⟨h1,h2,h3⟩:=rS r;refine⟨by simp[iN,h1,xO],by simp[iN,h2],fun sz hl x hx=>?_⟩;rcases List.mem_cons.1 hx with rfl|hx
  ·rw[xP];exact hl e (List.mem_cons_self ..)
  ·exact h3 sz (fun y hy=>hl y (List.mem_cons_of_mem _ hy)) x hx
theorem yx:∀ {l:List (List V)} {ds:List (List D)},yw l=some ds->l=cw ds
 | [],ds,h=>by simp only[yw,Option.some.injEq]at h;subst h;rfl
 | v::r,ds,h=>by
  simp only[yw]at h;split at h
  ·rename_i a l h1 h2
   cases h;simp only[cw];rw[iV h1,yx h2]
  ·cases h
theorem bE.fz(tr:Tr F w F1 w)(hg:∀ id o,g id=some o->sS yv L F1 w id o)(id:Nat)(o:Obj)(h:bE yv L F w id o):bE yv L F1 w id (jN g o):=by
 cases o with
 | box c=>
  cases c with
  | dd l=>exact bE.mono tr id _ (fun _ _=>⟨rfl,rfl⟩) ⟨rfl,rfl⟩ (fun _=>rfl) h
  | vv l=>
   obtain⟨c,T,hc,hr⟩:=h;have hr:=ak.fz tr hg l _ hr;simp only[jN];split
   ·rename_i ds GX
    rw[iV GX]at hr;exact⟨c,T,hc,hr⟩
   ·exact⟨c,T,hc,hr⟩
 | arr sz es=>
  cases es with
  | dd l=>exact bE.mono tr id _ (fun _ _=>⟨rfl,rfl⟩) ⟨rfl,rfl⟩ (fun _=>rfl) h
  | vv l=>
   obtain⟨hs,hl,h⟩:=h;obtain⟨k1,k2,k3⟩:=rS (g:=g) l;have pW:bE yv L F1 w id (.arr sz (.vv (iN g l))):=by
    refine⟨hs,k3 sz hl,?_⟩;rcases h with⟨h,hk⟩|⟨c,T,hc,hk,hn,hr⟩
    ·left
     have h:l = []:=h;subst h;exact⟨rfl,hk⟩
    ·right
     refine⟨c,T,hc,hk,?_,?_⟩
     ·show(iN g l).length*sz<=_
      rw[k2];exact hn
     ·show ak yv L F1 w (iN g l).flatten (c.toList.take ((iN g l).length*sz))
      rw[k2,k1];exact ak.fz tr hg _ _ hr
   simp only[jN];split
   ·rename_i ds GX
    rw[yx GX]at pW;exact pW
   ·exact pW
 | map bT=>exact bE.mono tr id _ (fun _ _=>⟨rfl,rfl⟩) ⟨rfl,rfl⟩ (fun _=>rfl) h
 | iter s n=>exact bE.mono tr id _ (fun _ _=>⟨rfl,rfl⟩) ⟨rfl,rfl⟩ (fun _=>rfl) h
 | buf t s=>exact bE.mono tr id _ (fun _ _=>⟨rfl,rfl⟩) ⟨rfl,rfl⟩ (fun _=>rfl) h
 | tb t l=>
  obtain⟨c,hc,hr⟩:=h;exact⟨c,hc,ak.fz tr hg l _ hr⟩
 | mit v n l u=>exact bE.mono tr id _ (fun _ _=>⟨rfl,rfl⟩) ⟨rfl,rfl⟩ (fun _=>rfl) h
theorem fT(id:Nat)(o:Obj):aG L id (jN g o)↔aG L id o:=by
 cases o with
 | box c=>cases c with
  | dd l=>exact Iff.rfl
  | vv l=>simp only[jN];split<;>exact Iff.rfl
 | arr sz es=>cases es with
  | dd l=>exact Iff.rfl
  | vv l=>simp only[jN];split<;>exact Iff.rfl
 | map bT=>exact Iff.rfl
 | iter s n=>exact Iff.rfl
 | buf t s=>exact Iff.rfl
 | tb t l=>exact Iff.rfl
 | mit v n l u=>exact Iff.rfl
end
theorem Wk.Pw{σ:Type}{e:Env}{h:ar}{s:σ}(n:Nat)(ids:List Nat) :
  Wk (⟨e,h,s⟩:St σ) ⟨cj (fz (gL (aT ids h) n)) e,cj (jN (gL (aT ids h) n)) (w7 h ids),s⟩:=by
 intro cx r m L F a w hg;have pX:cP (aT ids h) h:=ia ids h;have ec:ba cx L F (aT ids h) s w:=(hg.sub (e:=e) (h:=aT ids h) (fun _ _ h=>h) pX).heap;have tr:=fZ ec;have As:∀ b,cx.C s b->eV L F (aT ids h) w b=F b:=fun b hb=>pP ec hb;have EC:∀ id o,get h id=some o->id∉ids->aG L id o->eV L F (aT ids h) w (L.ρ id)=F (L.ρ id):=by
  intro id o hi hn hb;refine gE ?_;rintro ⟨j,p,hj,kL,oM⟩;have:=hg.heap.inj j id p o (pX j p hj) hi kL hb oM;subst this;exact hn (iw ids h j p hj)
 have Gh:=fo ec;have sb:=oR ec n;generalize eV L F (aT ids h) w=F1 at tr As EC Gh sb;generalize gL (aT ids h) n=g at sb;have tG:∀ i o',get (cj (jN g) (w7 h ids)) i=some o'->i∉ids /\ ∃ o0,get h i=some o0/\o'=jN g o0:=by
  intro i o' hi;rw[bC,tw]at hi;split at hi
  ·cases hi
  ·rename_i hn
   cases h0:get h i with
   | none=>simp[h0]at hi
   | some o0=>simp[h0]at hi;exact⟨hn,o0,rfl,hi.symm⟩
 refine⟨L,F1,⟨⟨cx.ff hg.heap.hg tr Gh fun b hb=>⟨rfl,As b hb⟩,hg.heap.kq,Gh,?_,?_,?_⟩,?_,hg.w8,hg.qB,hg.ye,hg.lk,hg.mB,hg.wE⟩,tr⟩
 ·intro i o' hi
  obtain⟨_,o0,h0,rfl⟩:=tG i o' hi;exact bE.fz tr sb i o0 (hg.heap.obj i o0 h0)
 ·intro i o' hi hb
  obtain⟨hn,o0,h0,rfl⟩:=tG i o' hi;have hb:=(fT i o0).1 hb;rw[EC i o0 h0 hn hb];exact hg.heap.own i o0 h0 hb
 ·intro i j o' p hi hj nZ kL he
  obtain⟨_,o0,h0,rfl⟩:=tG i o' hi;obtain⟨_,p0,xz,rfl⟩:=tG j p hj;exact hg.heap.inj i j o0 p0 h0 xz ((fT i o0).1 nZ) ((fT j p0).1 kL) he
 ·intro t v ht
  simp only[bC]at ht
  cases h0:get e t with
  | none=>simp[h0]at ht
  | some v0=>
   simp[h0]at ht;subst ht;obtain⟨x,hx,hr⟩:=hg.env t v0 h0;exact⟨x,hx,aR.fz tr sb v0 x hr⟩
section
variable {P : Program} {T : dJ} {σ : Type} {Y : Hd σ}
theorem x7.wk{c:Code}{st dj:St σ}{K:dR->St σ->Prop}(hw:Wk st dj)(h:x7 P Y c dj K):x7 P Y c st K:=by
 intro cx hY r m L F a w hg hc;obtain⟨L',F',eR,tr⟩:=hw cx r m L F a w hg;refine wpIn_mono (h cx hY r m L' F' a w eR hc) fun ex a' w' hq=>?_;rcases hq with⟨e',xV,m',L1,F1,h1,h2,h3,h4,h5⟩|hp
 ·exact .inl ⟨e',xV,m',L1,F1,h1,h2,h3,Tr.trans tr h4,h5⟩
 ·exact .inr (hp.trans tr rfl)
theorem bV(hT:aY P T){ft:FT}{c:Code}(hD:cE P T ft c){α:Type}(I:α->St σ)(Pr:α->Prop)(μ:α->Nat)(x0:α){st:St σ}{K:dR->St σ->Prop}(h0:Wk st (I x0))(p0:Pr x0)
  (round:∀ x,Pr x->Dy P T ft Y c (I x) fun e dj=>match e with
   | .normal=>∃ y,μ y<μ x/\Pr y/\Wk dj (I y)
   | e=>K e dj):vp P ft Y c st K:=by
 refine⟨x7.wk h0 ?_⟩;intro cx hY r m0 L0 F0 a w hg hc;have hc:codeOk a.tmps.size c=true:=hc
 let J:Act->World->α->Prop:=fun a' w' x=>Pr x /\ ∃ m L F,Good cx r m L F (I x) a' w'/\Tr F0 w F w'/\a'.tmps.size=a.tmps.size
 let M:Act->World->Nat:=fun a' w'=>wv fun n=>∃ x,J a' w' x/\μ x=n
 refine wpIn_loop (fun a' w'=>∃ x,J a' w' x) M ⟨x0,p0,m0,L0,F0,hg,Tr.refl F0 w,rfl⟩ fun a' w' hJ=>?_;obtain⟨x,⟨hp,m,L,F,eR,tr,hs⟩,hx⟩:=wx (p:=fun n=>∃ x,J a' w' x/\μ x=n) (by obtain⟨x,hx⟩:=hJ;exact⟨μ x,x,hx,rfl⟩);refine wpIn_mono (cU hT c hD (I x) _ (round x hp) cx hY r m L F a' w' eR (by rw[hs];exact hc)) fun ex Iq Cn hq=>?_;rcases hq with⟨e',xV,m1,L1,F1,rfl,h2,h3,h4,h5⟩|Gn
 case inr=>
  have Kt:=Gn;obtain⟨v,pe,ph,ps,m',L',F',rfl,_⟩:=Gn;exact .inr (Kt.trans tr hs)
 cases e' with
 | normal=>
  obtain⟨y,hy,Ty,E2⟩:=h2;obtain⟨L2,F2,lQ,DN⟩:=E2 cx r m1 L1 F1 Iq Cn h3;have NN:J Iq Cn y:=⟨Ty,m1,L2,F2,lQ,Tr.trans tr (Tr.trans h4 DN),h5.trans hs⟩;refine⟨⟨y,NN⟩,?_⟩;have:M Iq Cn<=μ y:=zK ⟨y,NN,rfl⟩;have hx:μ x=M a' w':=hx;omega
 | exit i=>exact .inl ⟨.exit i,xV,m1,L1,F1,rfl,h2,h3,Tr.trans tr h4,h5.trans hs⟩
 | ret=>exact .inl ⟨.ret,xV,m1,L1,F1,rfl,h2,h3,Tr.trans tr h4,h5.trans hs⟩
end
section
variable {σ : Type}
theorem Good.OZ{cx:Cx σ}{r:Option Nat}{m:List Nat}{L:Loc}{F:Nat->Nat}{e:Env}{h:ar}{s:σ}{a:Act}{w:World}(hg:Good cx r m L F ⟨e,h,s⟩ a w){t:Nat}{v v':V}(ht:get e t=some v)
  (hv:∀ x,aR cx.yv L F w v x->aR cx.yv L F w v' x):Good cx r m L F ⟨put e t v',h,s⟩ a w:=by
 refine⟨hg.heap,fun u y hu=>?_,hg.w8,hg.qB,hg.ye,hg.lk,hg.mB,hg.wE⟩;rw[dt]at hu;split at hu
 ·rename_i he
  cases hu;subst he
  obtain⟨x,hx,hr⟩:=hg.env u v ht;exact⟨x,hx,hv x hr⟩
 ·exact hg.env u y hu
theorem Wk.born{e:Env}{h:ar}{s:σ}(t id sz:Nat)(eb:Nat.blt id 1000000=true)(hs:Nat.blt 0 sz=true)(ht:get e t=some (.d .nils)) :
  Wk (⟨e,h,s⟩:St σ) ⟨put (cj (aB (aU id)) e) t (.sl id sz 0 0),((id,.arr sz (.dd []))::cj (Obj.aB (aU id)) (cut h id)),s⟩:=by
 intro cx r m L F a w hg;have eb:=Nat.le_of_ble_eq_true eb;have hs:=Nat.le_of_ble_eq_true hs;have h1:=hg.jI id sz (by unfold pinned;omega) hs (.dd []) rfl;refine⟨_,F,Good.OZ (t:=t) (v:=.d .nils) h1 (by rw[bC,ht];rfl) fun x hx=>?_,Tr.refl F w⟩;have hx:x = .slice none 0 0:=hx;subst hx;exact⟨none,0,rfl,Nat.le_refl _,hs,.inl ⟨rfl,rfl⟩⟩
end
end Go.PX
namespace Go.PX
open Go.RowKit
mutual
def x9:D->D->Bool
 | .bool a,.bool b=>a ==b
 | .int k n,.int k' m=>decide (k=k')&&decide (n=m)
 | .str a,.str b=>decide (a=b)
 | .agg a,.agg b=>yB a b
 | .tup a,.tup b=>yB a b
 | .nils,.nils=>true
 | .nilp,.nilp=>true
 | .nilm,.nilm=>true
 | .nilf,.nilf=>true
 | .nili,.nili=>true
 | _,_=>false
def yB:List D->List D->Bool
 | [],[]=>true
 | a::r,b::l=>x9 a b&&yB r l
 | _,_=>false
end
mutual
theorem Ej:∀ (a b:D),x9 a b=true->a=b
 | .bool a,b,h=>by cases b<;>simp[x9]at h;rw[h]
 | .int k n,b,h=>by cases b<;>simp[x9]at h;rw[h.1,h.2]
 | .str a,b,h=>by cases b<;>simp[x9]at h;rw[h]
 | .agg a,b,h=>by cases b<;>simp[x9]at h;rw[nt _ _ h]
 | .tup a,b,h=>by cases b<;>simp[x9]at h;rw[nt _ _ h]
 | .nils,b,h=>by cases b<;>simp[x9]at h;rfl
 | .nilp,b,h=>by cases b<;>simp[x9]at h;rfl
 | .nilm,b,h=>by cases b<;>simp[x9]at h;rfl
 | .nilf,b,h=>by cases b<;>simp[x9]at h;rfl
 | .nili,b,h=>by cases b<;>simp[x9]at h;rfl
 | .vs _,b,h=>by cases b<;>simp[x9]at h
 | .ref _,b,h=>by cases b<;>simp[x9]at h
 | .mv _,b,h=>by cases b<;>simp[x9]at h
 | .clo _ _,b,h=>by cases b<;>simp[x9]at h
 | .mth _ _,b,h=>by cases b<;>simp[x9]at h
 | .ifc _ _,b,h=>by cases b<;>simp[x9]at h
theorem nt:∀ (a b:List D),yB a b=true->a=b
 | [],b,h=>by cases b<;>simp[yB]at h;rfl
 | x::r,b,h=>by
  cases b with
  | nil=>simp[yB]at h
  | cons y l=>
   simp only[yB,Bool.and_eq_true]at h;rw[Ej x y h.1,nt r l h.2]
end
def eqFields:List (Nat×TypeId)->List (Nat×TypeId)->Bool
 | [],[]=>true
 | (a,b)::r,(c,d)::l=>Nat.beq a c&&Nat.beq b d&&eqFields r l
 | _,_=>false
theorem nV:∀ (a b:List (Nat×TypeId)),eqFields a b=true->a=b
 | [],[],_=>rfl
 | [],_::_,h=>by simp[eqFields]at h
 | _::_,[],h=>by simp[eqFields]at h
 | (a,b)::r,(c,d)::l,h=>by
  simp only[eqFields,Bool.and_eq_true]at h;rw[Nat.eq_of_beq_eq_true h.1.1,Nat.eq_of_beq_eq_true h.1.2,nV r l h.2]
def JG:Kd->Kd->Bool
 | .bool,.bool=>true
 | .int k,.int k'=>decide (k=k')
 | .str,.str=>true
 | .slice e,.slice e'=>Nat.beq e e'
 | .struct fs,.struct gs=>eqFields fs gs
 | .array n e,.array n' e'=>Nat.beq n n'&&Nat.beq e e'
 | .map k e,.map k' e'=>Nat.beq k k'&&Nat.beq e e'
 | .iface,.iface=>true
 | .other,.other=>true
 | _,_=>false
theorem CJ(a b:Kd)(h:JG a b=true):a=b:=by
 cases a<;>cases b<;>simp only[JG,Bool.and_eq_true,decide_eq_true_eq]at h<;>first|rfl|(cases h;done)|skip
 ·rw[h]
 ·rw[Nat.eq_of_beq_eq_true h]
 ·rw[nV _ _ h]
 ·rw[Nat.eq_of_beq_eq_true h.1,Nat.eq_of_beq_eq_true h.2]
 ·rw[Nat.eq_of_beq_eq_true h.1,Nat.eq_of_beq_eq_true h.2]
def Pu:Bool->Bool->Bool
 | true,true=>true
 | false,false=>true
 | _,_=>false
def Ug(P:Program)(t:TypeId)(ti:nQ):Bool:=
 match P.info? t,P.underlying t with
 | some i,some d=>Nat.beq ti.size i.size&&Nat.beq ti.bytes i.bytes&&JG ti.kd (hO d)&&Pu ti.isAgg (px d)&&(match ti.held with
   | true=>true
   | false=>!P.stoodInHeld t&&(match ti.kd with | .int _=>i.comparable|_=>true))&&(match ti.zero with
   | none=>true
   | some z=>match i.zero with
    | some zv=>match zeroCells zv with
     | some z'=>yB z' z&&Pu (Cs zv) ti.isAgg
     | none=>false
    | none=>false)
 | _,_=>false
theorem FY{P:Program}{t:TypeId}{ti:nQ}(h:Ug P t ti=true):∃ i d,P.info? t=some i/\P.underlying t=some d/\ti.size=i.size/\ti.bytes=i.bytes/\ti.kd=hO d/\ti.isAgg=px d /\
  (ti.held=false->P.stoodInHeld t=false /\ ∀ k,ti.kd = .int k->i.comparable=true)/\(∀ z,ti.zero=some z -> ∃ zv,i.zero=some zv/\zeroCells zv=some z/\Cs zv=ti.isAgg):=by
 unfold Ug at h;split at h;case h_2=>cases h
 rename_i i d hi hd;simp only[Bool.and_eq_true]at h;obtain⟨⟨⟨⟨⟨h1,h2⟩,h3⟩,h4⟩,h5⟩,h6⟩:=h;refine⟨i,d,hi,hd,Nat.eq_of_beq_eq_true h1,Nat.eq_of_beq_eq_true h2,CJ _ _ h3,?_,fun hh=>?_,fun z hz=>?_⟩
 ·revert h4;cases ti.isAgg<;>cases px d<;>simp[Pu]
 ·rw[hh]at h5
  simp only[Bool.and_eq_true,Bool.not_eq_true']at h5;refine⟨h5.1,fun k hk=>?_⟩;have:=h5.2;rw[hk]at this;exact this
 ·rw[hz]at h6
  simp only at h6;split at h6;case h_2=>cases h6
  rename_i zv C5;split at h6;case h_2=>cases h6
  rename_i z' TV;simp only[Bool.and_eq_true]at h6;exact⟨zv,C5,by rw[TV,nt _ _ h6.1],by have:=h6.2;revert this;cases Cs zv<;>cases ti.isAgg<;>simp[Pu]⟩
def Ii(P:Program):dJ->Bool
 | .lf=>true
 | .nd l k v r=>Ii P l&&Ug P k v&&Ii P r
theorem rk{P:Program}:∀ {T:dJ},Ii P T=true->aY P T
 | .lf,_,t,ti,h=>by cases h
 | .nd l k v r,hT,t,ti,h=>by
  simp only[Ii,Bool.and_eq_true]at hT;simp only[dJ.get]at h;split at h
  ·rename_i he
   have:=Nat.eq_of_beq_eq_true he;subst this;cases h;exact FY hT.1.2
  ·split at h
   ·exact rk hT.1.1 t ti h
   ·exact rk hT.2 t ti h
end Go.PX
namespace Go.PX
theorem pz{k:IntKind}{n:Int}{K:V->Prop}(h:k.wrap n=n)(hK:K (.d (.int k n))):arith k n K:=by constructor;rw[h];exact hK
theorem ai{b:Bool}{X Y:Prop}(h:b=true->X)(k:b=false->Y):Iu b X Y:=by cases b<;>simp_all[Iu]
theorem bo{b:Bool}{K:Prop}(h:b=true)(k:K):eG b K:=by subst h;exact k
theorem bZ{es:List (List D)}{i:Int}{K:List D->Prop}(l:List D)(h:0<=i/\es[i.toNat]?=some l)(k:K l):vz es i K:=by simp[vz,h.1,h.2,k]
theorem cD{α:Type}{cs:List α}{n:Nat}{K:α->Prop}(v:α)(h:cs[n]?=some v)(k:K v):mM cs n K:=by simp[mM,h,k]
theorem wrap_i64{n:Int}(h : -9223372036854775808<=n/\n<=9223372036854775807):IntKind.wrap .i64 n=n:=IntWalk.i64_in n h
theorem ab{n:Int}{K:V->Prop}(hK:K (.d (.int .i64 n)))(h:IntKind.wrap .i64 n=n:=by exact wrap_i64 (by(try dsimp only);omega)):arith .i64 n K:=pz h hK
abbrev i64(n:Int):D:=.int .i64 n
theorem g8{P:Program}{T:dJ}(hm:P.follows .mixedOrders=true)(hT:aY P T){f:FuncId}{fn:Func}{c:Code}(hf:P.funcs[f]?=some fn)(hb:fn.body=some c){ft:FT}{ds:List D}{r:D}(n:Nat)(ec:uQ ft fn n=true)(hn:ds.length=n)
     (hw:∀ {σ:Type} (Y:Hd σ) (s:σ),Dy P T ft Y c ⟨mO 0 (inj ds),[],s⟩ (Pv T fn.results.toList fun v h' s'=>(v = .d r/\h' = [])/\s'=s)):aW P f ds r:=by
  intro σ Y s;exact ek hm hT hf hb (by rw[dK,hn];exact ec) (hw Y.np s)
theorem Gw{σ:Type}{h:ar}{s:σ}{Q:V->ar->σ->Prop}{id sz n:Nat}{es:List (List D)}(hg:get h id=some (.arr sz (.dd es)))(hn:n=es.length)(hq:Q (.d (.vs es)) [] s):sU [.sl id sz 0 n] h s Q:=by
 refine al 1 (ds:=[.vs es]) ?_ hq;have h1:Nat.beq sz sz=true:=Nat.beq_refl sz;have h2:Nat.ble (0+es.length) es.length=true:=Nat.ble_eq_true_of_le (by omega);subst hn;simp only[cR,dI,gL,hg,h1,h2,List.drop_zero,List.take_length]
end Go.PX
namespace Go.PX
open Go.RowKit
def dx(R:Nat->Nat):ar->ar
 | []=>[]
 | (k,o)::r=>(R k,jW R o)::dx R r
def sk(R:Nat->Nat)(e:Env):Env:=cj (aB (l6 R)) e
theorem jy{R:Nat->Nat}:∀ {h:ar} {k:Nat} {o:Obj},get (dx R h) k=some o -> ∃ j o1,get h j=some o1/\k=R j/\o=jW R o1
 | [],k,o,h=>by cases h
 | (j,p)::r,k,o,h=>by
  simp only[dx,get]at h;split at h
  ·rename_i he
   have:=Nat.eq_of_beq_eq_true he;subst this;cases h;exact⟨j,p,by simp[get],rfl,rfl⟩
  ·rename_i he
   obtain⟨j',o1,h1,rfl,rfl⟩:=jy h;refine⟨j',o1,?_,rfl,rfl⟩;have:Nat.beq j j'=false:=by
    rw[Bool.eq_false_iff];intro e;have:=Nat.eq_of_beq_eq_true e;subst this;simp at he
   simp[get,this,h1]
section
variable {σ : Type} {cx : Cx σ} {L L' : Loc} {F : Nat -> Nat} {s : σ} {w : World} {R : Nat -> Nat}
theorem ba.mC{h:ar}(hh:ba cx L F h s w)(hn:∀ i∈cf h,L'.ρ (R i)=L.ρ i/\L'.κ (R i)=L.κ i):ba cx L' F (dx R h) s w:=by
 refine⟨hh.hg,hh.kq,hh.fresh,fun k o hk=>?_,fun k o hk hb=>?_,fun k l o p hk hl kW GV e=>?_⟩
 ·obtain⟨j,o1,h1,rfl,rfl⟩:=jy hk
  obtain⟨n1,n2⟩:=aP h1;exact(bE.mC (R:=R) (L:=L) (L':=L') j o1 (fun i hi=>hn i (n2 i (dE i o1 hi))) (hn j n1)).2 (hh.obj j o1 h1)
 ·obtain⟨j,o1,h1,rfl,rfl⟩:=jy hk
  obtain⟨n1,n2⟩:=aP h1;rw[(hn j n1).1];exact hh.own j o1 h1 ((bP (R:=R) (L:=L) (L':=L') j o1 (hn j n1).2).1 hb)
 ·obtain⟨j,o1,h1,rfl,rfl⟩:=jy hk
  obtain⟨i,o2,h2,rfl,rfl⟩:=jy hl;obtain⟨n1,_⟩:=aP h1;obtain⟨n2,_⟩:=aP h2;rw[(hn j n1).1,(hn i n2).1]at e;rw[hh.inj j i o1 o2 h1 h2 ((bP (R:=R) (L:=L) (L':=L') j o1 (hn j n1).2).1 kW) ((bP (R:=R) (L:=L) (L':=L') i o2 (hn i n2).2).1 GV) e]
def eU:Env->List Nat
 | []=>[]
 | (_,v)::r=>bN v++eU r
theorem gA:∀ {e:Env} {t:Nat} {v:V} {i:Nat},get e t=some v->fx v i->i∈eU e
 | [],t,v,i,h,_=>by cases h
 | (k,u)::r,t,v,i,h,hi=>by
  simp only[get]at h;split at h
  ·cases h
   exact List.mem_append.2 (.inl (gm i _ hi))
  ·exact List.mem_append.2 (.inr (gA h hi))
end
def idx:List Nat->Nat->Nat->Option Nat
 | [],_,_=>none
 | k::r,n,i=>match Nat.beq k i with
  | true=>some n
  | false=>idx r (n+1) i
def ov(c:Nat)(tb:List Nat)(i:Nat):Nat:=
 match idx tb c i with
 | some k=>k
 | none=>i
def pc(c:Nat)(tb:List Nat)(j:Nat):Nat:=
 match Nat.ble c j with
 | true=>match tb[j-c]? with
  | some i=>i
  | none=>j
 | false=>j
theorem tM:∀ {tb:List Nat} {n i k:Nat},idx tb n i=some k->n<=k/\tb[k-n]?=some i
 | [],n,i,k,h=>by cases h
 | t::r,n,i,k,h=>by
  simp only[idx]at h;split at h
  ·rename_i he
   have:=Nat.eq_of_beq_eq_true he;subst this;cases h;exact⟨Nat.le_refl _,by simp⟩
  ·obtain⟨h1,h2⟩:=tM h
   refine⟨by omega,?_⟩;have:k-n=(k-(n+1))+1:=by omega
   rw[this,List.getElem?_cons_succ];exact h2
theorem y8:∀ {tb:List Nat} {n i:Nat},idx tb n i=none->i∉tb
 | [],n,i,h=>by simp
 | t::r,n,i,h=>by
  simp only[idx]at h;split at h
  ·cases h
  ·rename_i he
   intro hm;rcases List.mem_cons.1 hm with rfl|hm
   ·simp at he
   ·exact y8 h hm
theorem Tr.Qy{F:Nat->Nat}{w:World}{b:Nat}{o o':Go.Obj}(h:w.heap[b]?=some o)(hc:∀ c T x,o ≠ .cells c T x)(hm:∀ e c,o ≠ .map e c)(qP:∀ c T x,o' ≠ .cells c T x):Tr F w F (w.putObj b o'):=by
 have hk:∀ x,x≠b->(w.putObj b o').heap[x]?=w.heap[x]?:=fun x hx=>World.putObj_heap_other hx;refine⟨rfl,rfl,rfl,by simp,fun _=>Nat.le_refl _,fun x i hx=>?_,fun x en c hx ER=>?_⟩
 ·by_cases he:x=b
  ·subst he
   have h1:=World.putObj_heap_same (w:=w) (o:=o') (bA h);have k1:w.cell? ⟨x,i,none⟩=none:=by
    simp only[World.cell?,h];cases o<;>first|rfl|exact absurd rfl (hc _ _ _)
   have k2:(w.putObj x o').cell? ⟨x,i,none⟩=none:=by
    simp only[World.cell?,h1];cases o'<;>first|rfl|exact absurd rfl (qP _ _ _)
   rw[k1,k2]
  ·exact jg (hk x he)
 ·by_cases he:x=b
  ·subst he;rw[h]at ER;cases ER;exact absurd rfl (hm _ _)
  ·rw[hk x he];exact ER
theorem bE.qe{yv:Option Nat}{L:Loc}{F:Nat->Nat}{w:World}{id:Nat}{o:Obj}(h:bE yv L F w id o)(hb:aG L id o){x:Go.Obj}(hx:w.heap[L.ρ id]?=some x):(∀ lp,x ≠ .loop lp)/\(∀ d,x ≠ .deferred d):=by
 cases o with
 | box c=>obtain⟨c',T,hc,_⟩:=h;rw[hc]at hx;cases hx;exact⟨fun _ h=>(by cases h),fun _ h=>(by cases h)⟩
 | arr sz es=>
  obtain⟨_,_,h⟩:=h;rcases h with⟨_,hk⟩|⟨c,T,hc,_⟩
  ·exact absurd hk hb
  ·rw[hc]at hx;cases hx;exact⟨fun _ h=>(by cases h),fun _ h=>(by cases h)⟩
 | map bT=>obtain⟨en,c,hc,_⟩:=h;rw[hc]at hx;cases hx;exact⟨fun _ h=>(by cases h),fun _ h=>(by cases h)⟩
 | iter s n=>
  have hc:w.heap[L.ρ id]?=_:=h;rw[hc]at hx;cases hx;exact⟨fun _ h=>(by cases h),fun _ h=>(by cases h)⟩
 | buf t s=>obtain⟨_,hc,_⟩:=h;rw[hc]at hx;cases hx;exact⟨fun _ h=>(by cases h),fun _ h=>(by cases h)⟩
 | tb t l=>obtain⟨_,hc,_⟩:=h;rw[hc]at hx;cases hx;exact⟨fun _ h=>(by cases h),fun _ h=>(by cases h)⟩
 | mit v n l u=>obtain⟨_,_,_,hc,_⟩:=h;rw[hc]at hx;cases hx;exact⟨fun _ h=>(by cases h),fun _ h=>(by cases h)⟩
theorem ba.Hr{σ:Type}{cx:Cx σ}{L:Loc}{F F':Nat->Nat}{h:ar}{s:σ}{w w':World}(hh:ba cx L F h s w)(tr:Tr F w F' w')(hf:∀ b,w'.heap.size<=b->F' b=0)
  (hC:∀ b,cx.C s b->w'.heap[b]?=w.heap[b]?/\F' b=F b) (ho:∀ id o,get h id=some o->aG L id o->w'.heap[L.ρ id]?=w.heap[L.ρ id]?/\F' (L.ρ id)=F (L.ρ id)):ba cx L F' h s w':=by
 refine⟨cx.ff hh.hg tr hf hC,fun b hb=>Nat.lt_of_lt_of_le (hh.kq b hb) tr.size,hf,fun id o hi=>?_,fun id o hi hb=>?_,hh.inj⟩
 ·exact bE.mono tr id o (fun _ _=>⟨rfl,rfl⟩) ⟨rfl,rfl⟩ (fun hb=>(ho id o hi hb).1) (hh.obj id o hi)
 ·rw[(ho id o hi hb).2];exact hh.own id o hi hb
end Go.PX
