import Derived.Test.YtgpmlbbkfmkmkaaGreatDoorPxG
import Derived.IntWalk
import Derived.RangeFuncNested
set_option linter.all false
namespace Go.PX
open Go.RowKit
theorem qnk{tb:List Nat}{d:Option Nat}{v:V}{h':Heap}(h:qbU tb d v h'=true):qaw (zN tb d v h')=true:=by
 simp only[qbU,Bool.and_eq_true]at h;exact h.2
theorem qhR{l:List Nat}(h:l.Nodup){i j a:Nat}(hi:l[i]?=some a)(hj:l[j]?=some a):i=j:=by
 obtain⟨hi1,hi2⟩:=List.getElem?_eq_some_iff.1 hi;obtain⟨hj1,hj2⟩:=List.getElem?_eq_some_iff.1 hj;have hp:=List.pairwise_iff_getElem.1 h;rcases Nat.lt_trichotomy i j with hlt|heq|hgt
 ·exact absurd (hi2.trans hj2.symm) (hp i j hi1 hj1 hlt)
 ·exact heq
 ·exact absurd (hj2.trans hi2.symm) (hp j i hj1 hi1 hgt)
def newLoc(L L':Loc)(NL:List Nat)(c:Nat):Loc:=⟨fun x=>if x∈NL then L'.ρ (x-c+2000000) else L.ρ x,fun x=>if x∈NL then L'.κ (x-c+2000000) else L.κ x⟩
theorem qpN{L L':Loc}{NL:List Nat}{c x:Nat}(hx:x∉NL):(newLoc L L' NL c).ρ x=L.ρ x/\(newLoc L L' NL c).κ x=L.κ x:=⟨if_neg hx,if_neg hx⟩
theorem qpO{L L':Loc}{NL:List Nat}{c x:Nat}(hx:x∈NL):(newLoc L L' NL c).ρ x=L'.ρ (x-c+2000000)/\(newLoc L L' NL c).κ x=L'.κ (x-c+2000000):=⟨if_pos hx,if_pos hx⟩
theorem qrq{h st h0:Heap}{R:Nat->Nat}{tb:List Nat}(hh:qaF h st)(hlent:qcF R h 1000000 tb h0)(Rlent:∀ k id,tb[k]?=some id->R (1000000+k)=id) :
  ∀ i o,get h0 i=some o -> ∃ k id,i=1000000+k/\tb[k]?=some id/\R i=id/\get st id=some (qgE R o):=by
 intro i o hi;obtain⟨k,id,h1,h2,h3⟩:=qhN hlent i o hi;exact⟨k,id,h1,h2,by rw[h1];exact Rlent k id h2,hh _ _ h3⟩
theorem qyO{σ:Type}:∀ (ws:List Wr) (st st':St σ),st.env=st'.env->st.heap=st'.heap->qaS (qx st ws)=qaS (qx st' ws)
 | [],⟨e,h,s⟩,⟨e',h',s'⟩,h1,h2=>by
  simp only at h1 h2;subst h1;subst h2;rfl
 | w::r,⟨e,h,s⟩,⟨e',h',s'⟩,h1,h2=>by
  simp only at h1 h2;subst h1;subst h2;rw[qx,qx];exact qyO r _ _ (by cases w<;>rfl) (by cases w<;>rfl)
theorem qaa{L L2:Loc}{y:Nat}{o:Obj}(h:L2.κ y=L.κ y)(hb:Backed L2 y o):Backed L y o:=by
 cases o with
 | arr sz es=>intro e;exact hb (h.trans e)
 | box c=>exact trivial
 | map kvs=>exact trivial
 | iter s n=>exact trivial
 | buf t s=>exact trivial
 | tb t l=>exact trivial
 | mit v n l u=>exact trivial
def qnl(R:Nat->Nat)(L:Loc)(h0:Heap)(b:Nat):Prop:=∃ i o,get h0 i=some o/\Backed ⟨fun i=>L.ρ (R i),fun i=>L.κ (R i)⟩ i o/\L.ρ (R i)=b
theorem qek{σ:Type}{cx:Cx σ}{r:Option Nat}{m:List Nat}{L:Loc}{F:Nat->Nat}{st:St σ}{a:Act}{w:World}{tb:List Nat}{d:Option Nat}{v:V}{h':Heap}(hB:qbU tb d v h'=true){R:Nat->Nat}(hR:qaE tb (d.getD 0)=R)
  {h h0:Heap} (hh:qaF h st.heap) (hlent:qcF R h 1000000 tb h0) (hg:Good cx r m L F st a w) (hd:∀ k,d=some k->k<a.tmps.size) {s':σ} {x:Value} {w':World} {L':Loc} {F':Nat->Nat}
  (hHG:cx.HG s' w' F') (hcsz:∀ b,cx.C s' b->b<w'.heap.size) (hCn:∀ b,b<w.heap.size->¬ qnl R L h0 b->¬ cx.C st.s b->¬ cx.C s' b)
  (hkeep:∀ b,b<w.heap.size->¬ qnl R L h0 b->¬ cx.C st.s b->w'.heap[b]?=w.heap[b]?/\F' b=F b) (hfresh:∀ b,w'.heap.size<=b->F' b=0)
  (hobj:∀ i o,get h' i=some o->RepO cx.yv L' F' w' i o)
  (hown:∀ i o,get h' i=some o->Backed L' i o->F' (L'.ρ i)=0/\¬ cx.C s' (L'.ρ i)/\(L'.ρ i<w.heap.size->qnl R L h0 (L'.ρ i)))
  (hinj:∀ i j o p,get h' i=some o->get h' j=some p->Backed L' i o->Backed L' j p->L'.ρ i=L'.ρ j->i=j)
  (hv:RepV cx.yv L' F' w' v x) (tr:Tr F w F' w') (pin:qfb ⟨fun i=>L.ρ (R i),fun i=>L.κ (R i)⟩ L') :
  ∃ L2,Good cx r m L2 F' (qx ⟨st.env,st.heap,s'⟩ (zN tb d v h')) (a.put d x) w':=by
 have hnews:=qnk hB;simp only[qbU,Bool.and_eq_true]at hB;obtain⟨⟨⟨⟨⟨⟨⟨⟨⟨b1,b2⟩,b3⟩,b4⟩,b5⟩,b6⟩,b7⟩,b8⟩,b9⟩,_⟩:=hB;have htb:=qas b1;have b4:=qaK b4;have b5:=qgf b5;have b6:=qgf b6;have b7:∀ i∈jc h',i<2000064:=fun i hi=>Nat.le_of_ble_eq_true (List.all_eq_true.1 b7 i hi);have b8:=Nat.le_of_ble_eq_true b8;have b9:=Nat.le_of_ble_eq_true b9;rw[hR]at b4;have Rlent:∀ k id,tb[k]?=some id->R (1000000+k)=id:=fun k id hk=>by rw[<- hR];exact qei hk b9
 have Rnew:∀ i,2000000<=i->R i=100000+64*d.getD 0+(i-2000000):=fun i hi=>by rw[<- hR];exact qro hi
 obtain⟨Lent,hLent⟩:∃ Lent,Lent=qnl R L h0:=⟨_,rfl⟩;rw[<- hLent]at hCn hkeep hown;have hL0:∀ b,Lent b ↔ ∃ i o,get h0 i=some o/\Backed ⟨fun i=>L.ρ (R i),fun i=>L.κ (R i)⟩ i o/\L.ρ (R i)=b:=fun b=>by rw[hLent];exact Iff.rfl
 have hh0:=qrq hh hlent Rlent;have hH0obj:∀ i o,get h0 i=some o->RepO cx.yv ⟨fun i=>L.ρ (R i),fun i=>L.κ (R i)⟩ F w i o:=fun i o hi=>by
  obtain⟨k,id,rfl,h2,h3,h4⟩:=hh0 i o hi;have:=hg.heap.obj id _ h4;rw[<- h3]at this;exact(RepO.ren (R:=R) (L:=⟨fun i=>L.ρ (R i),fun i=>L.κ (R i)⟩) (L':=L) (1000000+k) o (fun _ _=>⟨rfl,rfl⟩) ⟨rfl,rfl⟩).1 this
 let NL:=(jc h').map R
 obtain⟨L2,hL2⟩:∃ L2,L2=newLoc L L' NL (100000+64*d.getD 0):=⟨_,rfl⟩;have L2old:∀ x,x∉NL->L2.ρ x=L.ρ x/\L2.κ x=L.κ x:=fun x hx=>by rw[hL2];exact qpN hx
 have L2new:∀ i,i∈jc h'->L2.ρ (R i)=L'.ρ i/\L2.κ (R i)=L'.κ i:=by
  intro i hi;have hge:=qeh hi;have hm:R i∈NL:=List.mem_map.2 ⟨i,hi,rfl⟩;have:R i-(100000+64*d.getD 0)+2000000=i:=by rw[Rnew i hge];omega
  have h2:=qpO (L:=L) (L':=L') (c:=100000+64*d.getD 0) hm;rw[this]at h2;rw[hL2];exact h2
 have L2lent:∀ i,1000000<=i->i<1000000+tb.length->L2.ρ (R i)=L'.ρ i/\L2.κ (R i)=L'.κ i:=by
  intro i h1 h2;obtain⟨k,hk'⟩:∃ k,i=1000000+k:=⟨i-1000000,by omega⟩;have hlt:k<tb.length:=by omega
  obtain⟨y,hk⟩:∃ y,tb[k]?=some y:=⟨_,List.getElem?_eq_getElem hlt⟩;have hRi:R i=y:=by rw[hk'];exact Rlent _ _ hk
  have hn:R i∉NL:=by rw[hRi];exact b4 _ (List.mem_of_getElem? hk)
  obtain⟨p1,p2⟩:=pin i ⟨h1,by omega⟩;exact⟨(L2old _ hn).1.trans p1.symm,(L2old _ hn).2.trans p2.symm⟩
 have L2in:∀ i,((1000000<=i/\i<1000000+tb.length)\/i∈jc h')->L2.ρ (R i)=L'.ρ i/\L2.κ (R i)=L'.κ i:=fun i hi=>hi.elim (fun h=>L2lent i h.1 h.2) (L2new i);have hg1:=hg.clr NL;have hunn:=qrp NL st (fun _=>False) (fun _ h=>h.elim);have hs1:(clr st NL).s=st.s:=qwA _ _;have hfs0:∀ (ws:List Wr),qaS (qx (⟨st.env,st.heap,s'⟩:St σ) ws)=qaS (qx st ws):=fun ws=>qyO ws _ _ rfl rfl;have hfs:qaS (qx st (zN tb d v h'))=appFs (qaS (clr st NL)) (zN tb d v h'):=by
  rw[qow _ _ hnews,qpM,hR]
 have hNL100:∀ x∈NL,100000<=x/\x<1000000:=by
  intro x hx;obtain⟨i,hi,rfl⟩:=List.mem_map.1 hx;have h1:=qeh hi;have h2:=b7 i hi;rw[Rnew i h1];omega
 have hws:zN tb d v h'=qhM R h' (jc h')++(qdT R h' 1000000 tb++wset d (ren R v)):=by rw[<- hR];rfl
 have henv:∀ t u,get (qx (⟨st.env,st.heap,s'⟩:St σ) (zN tb d v h')).env t=some u->(d=some t/\u=ren R v)\/(d≠some t/\get (clr st NL).env t=some u):=by
  intro t u ht0;have ht:(qaS (qx (⟨st.env,st.heap,s'⟩:St σ) (zN tb d v h'))).env t=some u:=ht0;clear ht0;rw[hfs0,hfs,hws,qcn,qcn]at ht
  cases d with
  | none=>
   simp only[wset,appFs,qkp,qnj]at ht;exact .inr ⟨by simp,ht⟩
  | some d=>
   simp only[wset,appFs,appF,qkp,qnj]at ht;split at ht
   ·rename_i e1;cases ht;exact .inl ⟨by rw[e1],rfl⟩
   ·rename_i e1;exact .inr ⟨by simpa using Ne.symm e1,ht⟩
 have hheap:∀ y o,get (qx (⟨st.env,st.heap,s'⟩:St σ) (zN tb d v h')).heap y=some o->(∃ i o0,((1000000<=i/\i<1000000+tb.length)\/i∈jc h')/\y=R i/\get h' i=some o0/\o=qgE R o0)\/(y∉tb/\y∉NL/\get (clr st NL).heap y=some o):=by
  intro y o hy;have hy:(qaS (qx (⟨st.env,st.heap,s'⟩:St σ) (zN tb d v h'))).heap y=some o:=hy;rw[hfs0,hfs,hws,qcn,qcn]at hy;have hy:(appFs (appFs (qaS (clr st NL)) (qhM R h' (jc h'))) (qdT R h' 1000000 tb)).heap y=some o:=by
   cases d with
   | none=>exact hy
   | some d=>exact hy
  rcases qlM R h' tb 1000000 _ y o hy with⟨k,o0,k1,k2,k3⟩|⟨k1,k2⟩
  ·have hk:k<tb.length:=(List.getElem?_eq_some_iff.1 k1).1
   exact .inl ⟨1000000+k,o0,.inl ⟨by omega,by omega⟩,(Rlent k y k1).symm,k2,k3⟩
  ·rcases qox R h' (jc h') _ y o (fun i hi=>qhQ hi) k2 with⟨i,o0,j1,j2,j3,j4⟩|⟨j1,j2⟩
   ·exact .inl ⟨i,o0,.inr j1,j2,j3,j4⟩
   ·exact .inr ⟨k1,j1,j2⟩
 have rest:∀ y o,y∉tb->y∉NL->get (clr st NL).heap y=some o->Backed L y o->¬ Lent (L.ρ y):=by
  intro y o h1 h2 hy hb hlb;obtain⟨i,o',hi,hbi,hij⟩:=(hL0 _).1 hlb;obtain⟨k,id,g1,g2,g3,g4⟩:=hh0 i o' hi;have hidNL:id∉NL:=b4 _ (List.mem_of_getElem? g2);have hclr:get (clr st NL).heap id=some (qgF NL (qgE R o')):=by
   rw[qej,if_neg hidNL,g4];rfl
  have hb1:Backed L id (qgE R o'):=by rw[<- g3];exact(zm (R:=R) (L:=⟨fun i=>L.ρ (R i),fun i=>L.κ (R i)⟩) (L':=L) i o' rfl).2 hbi
  have hkb:∀ (l:List Nat) (p:Obj),Backed L id p->Backed L id (qgF l p):=by
   intro l
   induction l with
   | nil=>exact fun p hp=>hp
   | cons i r ih=>exact fun p hp=>ih _ ((jr L i id p).2 hp)
  have:=hg1.heap.inj id y _ o hclr hy (hkb NL _ hb1) hb (by rw[<- g3];exact hij);subst this;exact h1 (List.mem_of_getElem? g2)
 have hs2:(qx (⟨st.env,st.heap,s'⟩:St σ) (zN tb d v h')).s=s':=jb _ _;have trk:Tr F w F' w':=tr;refine⟨L2,⟨by rw[hs2];exact hHG,fun b hb=>hcsz b (by rw[<- hs2];exact hb),hfresh,?_,?_,?_⟩,?_,?_,?_,hg.mnd,?_,?_,?_⟩
 ·intro y o hy
  rcases hheap y o hy with⟨i,o0,hi,rfl,h2,rfl⟩|⟨h1,h2,h3⟩
  ·have:=hobj i o0 h2
   refine(RepO.ren (R:=R) (L:=L') (L':=L2) i o0 (fun j hj=>L2in j (b5 j ((qH h2).2 j (jz j o0 hj)))) (L2in i hi)).2 this
  ·refine RepO.mono tr y o (fun j hj=>L2old j fun hm=>(hunn j (.inl hm)).heap y o h3 hj) (L2old y h2) (fun hb=>?_) (hg1.heap.obj y o h3)
   exact(hkeep _ ((hg1.heap.obj y o h3).lt hb) (rest y o h1 h2 h3 hb) (by rw[<- hs1];exact(hg1.heap.own y o h3 hb).2)).1
 ·intro y o hy hb
  rcases hheap y o hy with⟨i,o0,hi,rfl,h2,rfl⟩|⟨h1,h2,h3⟩
  ·have hb':Backed L' i o0:=(zm (R:=R) (L:=L') (L':=L2) i o0 (L2in i hi).2).1 hb
   obtain⟨k1,k2,_⟩:=hown i o0 h2 hb';rw[(L2in i hi).1];exact⟨k1,by rw[hs2];exact k2⟩
  ·have hb':Backed L y o:=qaa (L2old y h2).2 hb
   obtain⟨k1,k2⟩:=hg1.heap.own y o h3 hb';rw[(L2old y h2).1];rw[hs1]at k2;have hlt:=(hg1.heap.obj y o h3).lt hb';have hr:=rest y o h1 h2 h3 hb';exact⟨(hkeep _ hlt hr k2).2.trans k1,by rw[hs2];exact hCn _ hlt hr k2⟩
 ·intro y z o p hy hz hby hbz hyz
  have out:∀ y o,y∉tb->y∉NL->get (clr st NL).heap y=some o->Backed L2 y o->Backed L y o/\(L.ρ y<w.heap.size/\¬ Lent (L.ρ y))/\L2.ρ y=L.ρ y:=by
   intro y o h1 h2 h3 hb;have hb':Backed L y o:=qaa (L2old y h2).2 hb;exact⟨hb',⟨(hg1.heap.obj y o h3).lt hb',rest y o h1 h2 h3 hb'⟩,(L2old y h2).1⟩
  rcases hheap y o hy with⟨i,o0,hi,rfl,h2,rfl⟩|⟨h1,h2,h3⟩<;>rcases hheap z p hz with⟨j,p0,hj,rfl,g2,rfl⟩|⟨g1,g2,g3⟩
  ·have hb1:Backed L' i o0:=(zm (R:=R) (L:=L') (L':=L2) i o0 (L2in i hi).2).1 hby
   have hb2:Backed L' j p0:=(zm (R:=R) (L:=L') (L':=L2) j p0 (L2in j hj).2).1 hbz;rw[(L2in i hi).1,(L2in j hj).1]at hyz;rw[hinj i j o0 p0 h2 g2 hb1 hb2 hyz]
  ·exfalso
   have hb1:Backed L' i o0:=(zm (R:=R) (L:=L') (L':=L2) i o0 (L2in i hi).2).1 hby;obtain⟨q1,q2,q3⟩:=out z p g1 g2 g3 hbz;rw[(L2in i hi).1,q3]at hyz;exact q2.2 (by rw[<- hyz];exact(hown i o0 h2 hb1).2.2 (by rw[hyz];exact q2.1))
  ·exfalso
   have hb2:Backed L' j p0:=(zm (R:=R) (L:=L') (L':=L2) j p0 (L2in j hj).2).1 hbz;obtain⟨q1,q2,q3⟩:=out y o h1 h2 h3 hby;rw[(L2in j hj).1,q3]at hyz;exact q2.2 (by rw[hyz];exact(hown j p0 g2 hb2).2.2 (by rw[<- hyz];exact q2.1))
  ·obtain⟨q1,q2,q3⟩:=out y o h1 h2 h3 hby
   obtain⟨q4,q5,q6⟩:=out z p g1 g2 g3 hbz;rw[q3,q6]at hyz;exact hg1.heap.inj y z o p h3 g3 q1 q4 hyz
 ·intro t u ht
  rcases henv t u ht with⟨rfl,rfl⟩|⟨h1,h2⟩
  ·refine⟨x,?_,?_⟩
   ·simp[Act.put,Array.getElem?_setIfInBounds,hd t rfl]
   ·exact(RepV.ren (R:=R) (L:=L') (L':=L2) v x fun j hj=>L2in j (b6 j (qaZ j v hj))).2 hv
  ·obtain⟨y,hy,hry⟩:=hg1.env t u h2
   refine⟨y,?_,RepV.mono tr u y (fun j hj=>L2old j fun hm=>(hunn j (.inl hm)).env t u h2 hj) hry⟩
   cases d with
   | none=>exact hy
   | some d=>
    simp only[Act.put];rw[Array.getElem?_setIfInBounds_ne (by rintro rfl;exact h1 rfl)];exact hy
 ·cases d with
  | none=>exact hg.dfr
  | some d=>exact hg.dfr
 ·intro b hb
  obtain⟨k1,k2⟩:=hg.mks b hb;have hnl:¬ Lent b:=?_
  ·refine⟨?_,by rw[hs2];exact hCn b (za k1) hnl k2⟩
   rw[(hkeep b (za k1) hnl k2).1];exact k1
  intro hlb;obtain⟨i,o,hi,hbk,rfl⟩:=(hL0 _).1 hlb;have:=hH0obj i o hi
  cases o with
  | box c=>obtain⟨c',T,hc,_⟩:=this;rw[k1]at hc;cases hc
  | arr sz es=>
   obtain⟨_,_,h⟩:=this;rcases h with⟨_,hk⟩|⟨c,T,hc,_⟩
   ·exact hbk hk
   ·rw[k1]at hc;cases hc
  | map kvs=>obtain⟨en,c,hc,_⟩:=this;rw[k1]at hc;cases hc
  | iter s n=>have hc:w.heap[L.ρ (R i)]?=_:=this;rw[k1]at hc;cases hc
  | buf t s=>obtain⟨_,hc,_⟩:=this;rw[k1]at hc;cases hc
  | tb t l=>obtain⟨_,hc,_⟩:=this;rw[k1]at hc;cases hc
  | mit v n l u=>obtain⟨_,_,_,hc,_⟩:=this;rw[k1]at hc;cases hc
 ·intro l hl
  obtain⟨lp,⟨k1,k0⟩,k2⟩:=hg.lk l hl;have hnl:¬ Lent l:=?_
  ·refine⟨lp,⟨?_,k0⟩,by rw[hs2];exact hCn l (za k1) hnl k2⟩
   rw[(hkeep l (za k1) hnl k2).1];exact k1
  intro hlb;obtain⟨i,o,hi,hbk,rfl⟩:=(hL0 _).1 hlb;have:=hH0obj i o hi
  cases o with
  | box c=>obtain⟨c',T,hc,_⟩:=this;rw[k1]at hc;cases hc
  | arr sz es=>
   obtain⟨_,_,h⟩:=this;rcases h with⟨_,hk⟩|⟨c,T,hc,_⟩
   ·exact hbk hk
   ·rw[k1]at hc;cases hc
  | map kvs=>obtain⟨en,c,hc,_⟩:=this;rw[k1]at hc;cases hc
  | iter s n=>have hc:w.heap[L.ρ (R i)]?=_:=this;rw[k1]at hc;cases hc
  | buf t s=>obtain⟨_,hc,_⟩:=this;rw[k1]at hc;cases hc
  | tb t l=>obtain⟨_,hc,_⟩:=this;rw[k1]at hc;cases hc
  | mit v n l u=>obtain⟨_,_,_,hc,_⟩:=this;rw[k1]at hc;cases hc
 ·intro i hi
  have hn:i∉NL:=fun hm=>by have:=hNL100 i hm;unfold pinned at hi;omega
  rw[(L2old i hn).1,(L2old i hn).2];exact hg.pin i hi
 ·rw[jO];exact hg.tsz
theorem qhS{σ:Type}{cx:Cx σ}{r:Option Nat}{m:List Nat}{L:Loc}{F:Nat->Nat}{st:St σ}{a:Act}{w:World}{tb:List Nat}{R:Nat->Nat}{h h0:Heap}(hh:qaF h st.heap)(hlent:qcF R h 1000000 tb h0)
  (Rlent:∀ k id,tb[k]?=some id->R (1000000+k)=id) (htb:tb.Nodup) (hg:Good cx r m L F st a w) :
  HeapOk cx ⟨fun i=>L.ρ (R i),fun i=>L.κ (R i)⟩ F h0 st.s w:=by
 have hh0:=qrq hh hlent Rlent;refine⟨hg.heap.hg,hg.heap.csz,hg.heap.fresh,fun i o hi=>?_,fun i o hi hbk=>?_,fun i j o p hi hj hbi hbj hij=>?_⟩
 ·obtain⟨k,id,rfl,h2,h3,h4⟩:=hh0 i o hi
  have:=hg.heap.obj id _ h4;rw[<- h3]at this;exact(RepO.ren (R:=R) (L:=⟨fun i=>L.ρ (R i),fun i=>L.κ (R i)⟩) (L':=L) (1000000+k) o (fun _ _=>⟨rfl,rfl⟩) ⟨rfl,rfl⟩).1 this
 ·obtain⟨k,id,h1,h2,h3,h4⟩:=hh0 i o hi
  have hb':Backed L id (qgE R o):=by rw[<- h3];exact(zm (R:=R) (L:=⟨fun i=>L.ρ (R i),fun i=>L.κ (R i)⟩) (L':=L) i o rfl).2 hbk
  obtain⟨k1,k2⟩:=hg.heap.own id _ h4 hb';rw[<- h3]at k1 k2;exact⟨k1,k2⟩
 ·obtain⟨k,id,h1,h2,h3,h4⟩:=hh0 i o hi
  obtain⟨k',id',h1',h2',h3',h4'⟩:=hh0 j p hj;have hb1:Backed L id (qgE R o):=by rw[<- h3];exact(zm (R:=R) (L:=⟨fun i=>L.ρ (R i),fun i=>L.κ (R i)⟩) (L':=L) i o rfl).2 hbi
  have hb2:Backed L id' (qgE R p):=by rw[<- h3'];exact(zm (R:=R) (L:=⟨fun i=>L.ρ (R i),fun i=>L.κ (R i)⟩) (L':=L) j p rfl).2 hbj
  have hij:L.ρ (R i)=L.ρ (R j):=hij;have:=hg.heap.inj id id' _ _ h4 h4' hb1 hb2 (by rw[<- h3,<- h3'];exact hij);subst this;rw[h1,h1',qhR htb h2 h2']
def qoy{σ:Type}(cx:Cx σ)(s0:σ)(w:World)(F:Nat->Nat)(Lent:Nat->Prop):Cx σ where
 C:=fun s b=>cx.C s b\/(b<w.heap.size/\¬ Lent b)
 HG:=fun s w' F'=>cx.HG s w' F'/\w.heap.size<=w'.heap.size/\(∀ b,b<w.heap.size->¬ cx.C s0 b->¬ cx.C s b) /\ ∀ b,b<w.heap.size->¬ Lent b->¬ cx.C s0 b->w'.heap[b]?=w.heap[b]?/\F' b=F b
 yv:=cx.yv
 rcd:=cx.rcd
 pρ:=cx.pρ
 pκ:=cx.pκ
 stable:=by
  rintro s w1 F1 w2 F2 ⟨h1,h0,h2,h3⟩ tr hf hk;refine⟨cx.stable h1 tr hf fun b hb=>hk b (.inl hb),Nat.le_trans h0 tr.size,h2,fun b hb hl hc=>?_⟩;obtain⟨k1,k2⟩:=hk b (.inr ⟨hb,hl⟩);obtain⟨k3,k4⟩:=h3 b hb hl hc;exact⟨k1.trans k3,k2.trans k4⟩
theorem qcu{σ:Type}{P:Program}{Y:Hd σ}{cx:Cx σ}{s0:σ}{w:World}{F:Nat->Nat}{Lent:Nat->Prop}(hY:Handles P Y cx):Handles P Y (qoy cx s0 w F Lent):=by
 refine⟨?_,fun s w F hh=>hY.laid s w F hh.1⟩;intro l hl args h s Q hy L1 F1 vals w1 hh hr;obtain⟨hHG,hsz,hCn,hkeep⟩:=hh.hg;obtain⟨fn,tmps,asg,body,h1,h2⟩:=hY.yld l hl args h s Q hy L1 F1 vals w1 ⟨hHG,fun b hb=>hh.csz b (.inl hb),hh.fresh,hh.obj,fun id o ho hb=>⟨(hh.own id o ho hb).1,fun hC=>(hh.own id o ho hb).2 (.inl hC)⟩,hh.inj⟩ hr;refine⟨fn,tmps,asg,body,h1,h2.mono ?_⟩;rintro e w' ⟨x,he,v,h',s',L',F',hq,hh',hv,tr,pin,k1,k2,k3⟩;have hin:∀ b,b<w.heap.size->¬ Lent b->b<w1.heap.size /\ ∀ id o,get h id=some o->Backed L1 id o->L1.ρ id≠b:=fun b hb hl=>
  ⟨hh.csz b (.inr ⟨hb,hl⟩),fun id o ho hbk e=>(hh.own id o ho hbk).2 (.inr ⟨by rw[e];exact hb,by rw[e];exact hl⟩)⟩
 refine⟨x,he,v,h',s',L',F',hq,⟨⟨hh'.hg,Nat.le_trans hsz tr.size,fun b hb hc=>k1 b (Nat.lt_of_lt_of_le hb hsz) (hCn b hb hc),fun b hb hl hc=>?_⟩,fun b hb=>?_,hh'.fresh,hh'.obj,fun id o ho hb=>⟨(hh'.own id o ho hb).1,fun hC=>?_⟩,hh'.inj⟩,hv,tr,pin,fun b hb hC hC'=>?_,fun b hb hC=>k2 b hb (fun h=>hC (.inl h)),k3⟩
 ·obtain⟨p1,p2⟩:=hin b hb hl
  obtain⟨q1,q2⟩:=hkeep b hb hl hc;obtain⟨r1,r2⟩:=k2 b p1 (hCn b hb hc) p2;exact⟨r1.trans q1,r2.trans q2⟩
 ·rcases hb with hb|⟨hb,hl⟩
  ·exact hh'.csz b hb
  ·exact Nat.lt_of_lt_of_le (hin b hb hl).1 tr.size
 ·rcases hC with hC|⟨c1,c2⟩
  ·exact(hh'.own id o ho hb).2 hC
  ·obtain⟨p1,p2⟩:=hin _ c1 c2
   obtain⟨id',o',ho',hb',e⟩:=k3 id o ho hb p1;exact p2 id' o' ho' hb' e
 ·rcases hC' with hC'|hC'
  ·exact k1 b hb (fun h=>hC (.inl h)) hC'
  ·exact hC (.inr hC')
theorem qoz{σ:Type}{P:Program}{Y:Hd σ}{f:FuncId}{args0:List V}{h0:Heap}{Q:V->Heap->σ->Prop}{cx:Cx σ}{r:Option Nat}{m:List Nat}{L:Loc}{F:Nat->Nat}{st:St σ}{a:Act}{w:World}(hf:FnC P Y f args0 h0 st.s Q)
  (tb:List Nat) {h:Heap} {d:Option Nat} {args:List V} (hargs:qpJ (qaE tb (d.getD 0)) args0=args) (hlent:qcF (qaE tb (d.getD 0)) h 1000000 tb h0) (htb:qcm tb=true) (hln:Nat.ble tb.length 1000=true)
  (hY:Handles P Y cx) (hh:qaF h st.heap) (hg:Good cx r m L F st a w) (hd:∀ k,d=some k->k<a.tmps.size) {vals:Array Value} (hr:RepVL cx.yv L F w args vals.toList) :
  CallsIn Fence.wide 0 P f vals w fun e w'=>∃ x,e = .returned x /\ ∃ v h' s',Q v h' s'/\(qbU tb d v h'=true -> ∃ L2 F',Good cx r m L2 F' (qx ⟨st.env,st.heap,s'⟩ (zN tb d v h')) (a.put d x) w'/\Tr F w F' w'):=by
 have htb:=qas htb;have hln:=Nat.le_of_ble_eq_true hln;obtain⟨R,hR⟩:∃ R,R=qaE tb (d.getD 0):=⟨_,rfl⟩;have Rlent:∀ k id,tb[k]?=some id->R (1000000+k)=id:=fun k id hk=>by rw[hR];exact qei hk hln
 rw[<- hR]at hargs hlent;subst hargs;have hH:=qhS hh hlent Rlent htb hg;have hH0:HeapOk (qoy cx st.s w F (qnl R L h0)) ⟨fun i=>L.ρ (R i),fun i=>L.κ (R i)⟩ F h0 st.s w:=
  ⟨⟨hg.heap.hg,Nat.le_refl _,fun b hb hc=>hc,fun b hb hl hc=>⟨rfl,rfl⟩⟩,fun b hb=>hb.elim (hg.heap.csz b) (fun h=>h.1),hH.fresh,hH.obj,fun i o hi hbk=>⟨(hH.own i o hi hbk).1,fun hC=>hC.elim (hH.own i o hi hbk).2 fun hC=>hC.2 ⟨i,o,hi,hbk,rfl⟩⟩,hH.inj⟩
 have hargs':RepVL cx.yv ⟨fun i=>L.ρ (R i),fun i=>L.κ (R i)⟩ F w args0 vals.toList:=(RepVL.ren (R:=R) args0 _ fun _ _=>⟨rfl,rfl⟩).1 hr;have hcall:=hf.run _ (qcu hY) _ F vals w hH0 hargs';refine hcall.mono ?_;rintro en w' ⟨x,rfl,v,h',s',L',F',hq,hH',hv,tr,pin⟩;refine⟨x,rfl,v,h',s',hq,fun hB=>?_⟩;obtain⟨hHG,_,hCn,hkeep⟩:=hH'.hg;obtain⟨L2,hg2⟩:=qek hB hR.symm hh hlent hg hd hHG (fun b hb=>hH'.csz b (.inl hb)) (fun b hb hl hc=>hCn b hb hc) hkeep hH'.fresh hH'.obj
  (fun i o hi hb=>⟨(hH'.own i o hi hb).1,fun hC=>(hH'.own i o hi hb).2 (.inl hC),fun hlt=>Classical.byContradiction fun hl=>(hH'.own i o hi hb).2 (.inr ⟨hlt,hl⟩)⟩)
  hH'.inj hv tr pin
 exact⟨L2,F',hg2,tr⟩
theorem qjl{P:Program}{f:FuncId}{args0:List V}{h0:Heap}{v0:V}{h1:Heap}(hf:FnU P f args0 h0 fun v h'=>v=v0/\h'=h1)(tb:List Nat){e:Env}{h:Heap}{d:Option Nat}{args:List V}
  (hargs:qpJ (qaE tb (d.getD 0)) args0=args) (hlent:qcF (qaE tb (d.getD 0)) h 1000000 tb h0) (hB:qbU tb d v0 h1=true):qdH P e h d f args (zN tb d v0 h1):=by
 refine⟨(hf (σ:=Unit) { y:=fun _ _ _ _=>False } ()).enter,?_⟩;intro σ cx hld r m L F st a w vals he hh hg hd hr;have hB0:=hB;simp only[qbU,Bool.and_eq_true]at hB0;obtain⟨⟨⟨⟨⟨⟨⟨⟨⟨b1,b2⟩,b3⟩,b4⟩,b5⟩,b6⟩,b7⟩,b8⟩,b9⟩,_⟩:=hB0;refine(qoz (hf ({ y:=fun _ _ _ _=>False }:Hd σ) st.s) tb hargs hlent b1 b9 ⟨fun _ _ _ _ _ _ hy=>hy.elim,hld⟩ hh hg hd hr).mono ?_;rintro en w' ⟨x,rfl,v,h',s',⟨⟨rfl,rfl⟩,rfl⟩,hk⟩;obtain⟨L2,F',hg2,tr⟩:=hk hB;exact⟨x,rfl,L2,F',hg2,tr⟩
theorem qtv{σ:Type}{P:Program}{Y:Hd σ}{f:FuncId}{args0:List V}{h0:Heap}{s:σ}{Q:V->Heap->σ->Prop}(hf:FnC P Y f args0 h0 s Q)(tb:List Nat){e:Env}{h:Heap}{d:Option Nat}{args:List V}{K:St σ->Prop}
  (hargs:qpJ (qaE tb (d.getD 0)) args0=args) (hlent:qcF (qaE tb (d.getD 0)) h 1000000 tb h0) (htb:qcm tb=true) (hln:Nat.ble tb.length 1000=true)
  (hq:∀ v h1 s',Q v h1 s'->qbU tb d v h1=true/\K (qx ⟨e,h,s'⟩ (zN tb d v h1))):CallA P Y ⟨e,h,s⟩ d f args K:=by
 refine⟨hf.enter,fun cx hY r m L F a w vals hg hd hr=>?_⟩;refine(qoz (st:=⟨e,h,s⟩) hf tb hargs hlent htb hln hY (fun _ _ h=>h) hg hd hr).mono ?_;rintro en w' ⟨x,rfl,v,h',s',hv,hk⟩;obtain⟨hB,hK⟩:=hq _ _ _ hv;obtain⟨L2,F',hg2,tr⟩:=hk hB;exact .inl ⟨x,rfl,_,L2,F',hK,hg2,tr⟩
theorem qvu{σ:Type}{P:Program}{Y:Hd σ}{args0:List V}{h0:Heap}{s:σ}{Q:V->Heap->σ->Prop}(tb:List Nat){e:Env}{h:Heap}{d:Option Nat}{args:List V}{K:St σ->Prop}(hy:Y.y args0 h0 s Q)
  (hargs:qpJ (qaE tb (d.getD 0)) args0=args) (hlent:qcF (qaE tb (d.getD 0)) h 1000000 tb h0) (htb:qcm tb=true) (hln:Nat.ble tb.length 1000=true)
  (hq:∀ v h1 s',Q v h1 s'->qbU tb d v h1=true/\K (qx ⟨e,h,s'⟩ (zN tb d v h1))):YldA P Y ⟨e,h,s⟩ d args K:=by
 refine⟨fun cx hY l hl r m L F a w vals hg hd hr=>?_⟩;have htb:=qas htb;have hln:=Nat.le_of_ble_eq_true hln;obtain⟨R,hR⟩:∃ R,R=qaE tb (d.getD 0):=⟨_,rfl⟩;have Rlent:∀ k id,tb[k]?=some id->R (1000000+k)=id:=fun k id hk=>by rw[hR];exact qei hk hln
 rw[<- hR]at hargs hlent;subst hargs;have hH:=qhS (st:=⟨e,h,s⟩) (fun _ _ h=>h) hlent Rlent htb hg;obtain⟨fn,tmps,asg,body,h1,h2⟩:=hY.yld l hl args0 h0 s Q hy ⟨fun i=>L.ρ (R i),fun i=>L.κ (R i)⟩ F vals w hH ((RepVL.ren (R:=R) args0 _ fun _ _=>⟨rfl,rfl⟩).1 hr);refine⟨fn,tmps,asg,body,h1,h2.mono ?_⟩;rintro en w' ⟨x,rfl,v,h',s',L',F',hv,hH',hrv,tr,pin,k1,k2,k3⟩;obtain⟨hB,hK⟩:=hq _ _ _ hv;have hnl:∀ b,¬ qnl R L h0 b -> ∀ id o,get h0 id=some o->Backed ⟨fun i=>L.ρ (R i),fun i=>L.κ (R i)⟩ id o->L.ρ (R id)≠b:=fun b hb id o ho hbk e=>hb ⟨id,o,ho,hbk,e⟩;obtain⟨L2,hg2⟩:=qek (st:=⟨e,h,s⟩) hB hR.symm (fun _ _ h=>h) hlent hg hd hH'.hg hH'.csz (fun b hb hl hc=>k1 b hb hc) (fun b hb hl hc=>k2 b hb hc (hnl b hl)) hH'.fresh hH'.obj
  (fun i o hi hb=>⟨(hH'.own i o hi hb).1,(hH'.own i o hi hb).2,fun hlt=>by
   obtain⟨id',o',ho',hb',e'⟩:=k3 i o hi hb hlt;exact⟨id',o',ho',hb',e'⟩⟩)
  hH'.inj hrv tr pin
 exact⟨x,rfl,_,L2,F',hK,hg2,tr⟩
section
variable {P : Program} {T : Tys} {σ : Type} {Y : Hd σ} {e : Env} {h : Heap} {s : σ} {d : Option Nat} {f : FuncId} {args : List V}
theorem qfp{ws:List Wr}(ho:qdH P e h d f args ws){K:St σ->Prop}(hk:qP ws e h fun e h=>K ⟨e,h,s⟩):CallA P Y ⟨e,h,s⟩ d f args K:=by
 refine⟨ho.1,fun cx hY r m L F a w vals hg hd hr=>(ho.2 cx hY.laid r m L F ⟨e,h,s⟩ a w vals (fun _ _ h=>h) (fun _ _ h=>h) hg hd hr).mono ?_⟩;rintro en w' ⟨x,rfl,L',F',hg',tr⟩;rw[zy s]at hk;have hs:(qx (⟨e,h,s⟩:St σ) ws).s=s:=jb _ _;refine .inl ⟨x,rfl,_,L',F',?_,hg',tr⟩;generalize qx (⟨e,h,s⟩:St σ) ws=st at hk hs;obtain⟨e1,h1,s1⟩:=st;simp only at hs;subst hs;exact hk
theorem qT{args0:List V}{h0:Heap}{v0:V}{h1:Heap}(hf:FnU P f args0 h0 fun v h'=>v=v0/\h'=h1)(tb:List Nat)(hargs:qpJ (qaE tb (d.getD 0)) args0=args)
  (hlent:qcF (qaE tb (d.getD 0)) h 1000000 tb h0) (hB:qbU tb d v0 h1=true) {K:St σ->Prop} (hk:qP (zN tb d v0 h1) e h fun e h=>K ⟨e,h,s⟩):CallA P Y ⟨e,h,s⟩ d f args K:=
 qfp (qjl hf tb hargs hlent hB) hk
end
inductive DO where
 | box (l:List D)
 | arr (sz:Nat) (l:List (List D))
 | map (l:List (D×D))
mutual
def jU(g:Nat->Option DO):V->Option D
 | .d v=>some v
 | .agg cs=>match zY g cs with
  | some l=>some (.agg l)
  | none=>none
 | .tup cs=>match zY g cs with
  | some l=>some (.tup l)
  | none=>none
 | .clo f cs=>match zY g cs with
  | some l=>some (.clo f l)
  | none=>none
 | .ptr id off=>match g id with
  | some (.box l)=>some (.ref (l.drop off))
  | _=>none
 | .sl id sz off len=>match g id with
  | some (.arr m l)=>match Nat.beq m sz,Nat.ble (off+len) l.length with
   | true,true=>some (.vs ((l.drop off).take len))
   | _,_=>none
  | _=>none
 | .mp id=>match g id with
  | some (.map kvs)=>some (.mv kvs)
  | _=>none
 | .ep _ _ _ _=>none
 | .it _=>none
 | .yld=>none
 | .unk=>none
def zY(g:Nat->Option DO):List V->Option (List D)
 | []=>some []
 | v::r=>match jU g v,zY g r with
  | some a,some l=>some (a::l)
  | _,_=>none
end
def qaA(g:Nat->Option DO):List (List V)->Option (List (List D))
 | []=>some []
 | v::r=>match zY g v,qaA g r with
  | some a,some l=>some (a::l)
  | _,_=>none
def qcv(h:Heap):Nat->Nat->Option DO
 | 0,_=>none
 | n+1,id=>match get h id with
  | some (.box (.dd l))=>some (.box l)
  | some (.box (.vv l))=>match zY (qcv h n) l with
   | some l=>some (.box l)
   | none=>none
  | some (.arr sz (.dd l))=>some (.arr sz l)
  | some (.arr sz (.vv l))=>match qaA (qcv h n) l with
   | some l=>some (.arr sz l)
   | none=>none
  | some (.map kvs)=>some (.map kvs)
  | _=>none
def qhT(w:World)(b:Nat):Nat:=
 match w.heap[b]? with
 | some (.cells c _ _)=>c.size
 | some (.map _ _)=>1
 | _=>0
open Classical in
noncomputable def qaB(L:Loc)(F:Nat->Nat)(h:Heap)(w:World):Nat->Nat:=fun b=>if ∃ id o,get h id=some o/\Backed L id o/\L.ρ id=b then qhT w b else F b
section
variable {σ : Type} {cx : Cx σ} {L : Loc} {F : Nat -> Nat} {h : Heap} {s : σ} {w : World}
theorem qdU{id:Nat}{o:Obj}(hi:get h id=some o)(hb:Backed L id o):qaB L F h w (L.ρ id)=qhT w (L.ρ id):=if_pos ⟨id,o,hi,hb,rfl⟩
theorem qaC{b:Nat}(hb:¬ ∃ id o,get h id=some o/\Backed L id o/\L.ρ id=b):qaB L F h w b=F b:=if_neg hb
theorem qrr(hh:HeapOk cx L F h s w)(b:Nat):F b<=qaB L F h w b:=by
 by_cases hb:∃ id o,get h id=some o/\Backed L id o/\L.ρ id=b
 ·obtain⟨id,o,hi,hbk,rfl⟩:=hb
  rw[(hh.own id o hi hbk).1];exact Nat.zero_le _
 ·rw[qaC hb];exact Nat.le_refl _
theorem qfq(hh:HeapOk cx L F h s w){b:Nat}(hC:cx.C s b):qaB L F h w b=F b:=
 qaC fun⟨id,o,hi,hb,e⟩=>(hh.own id o hi hb).2 (by rw[e];exact hC)
theorem qaL(hh:HeapOk cx L F h s w):Tr F w (qaB L F h w) w:=
 ⟨rfl,rfl,rfl,Nat.le_refl _,qrr hh,fun _ _ _=>rfl,fun _ _ _ _ h=>h⟩
theorem qab(hh:HeapOk cx L F h s w)(b:Nat)(hb:w.heap.size<=b):qaB L F h w b=0:=by
 by_cases h1:∃ id o,get h id=some o/\Backed L id o/\L.ρ id=b
 ·obtain⟨id,o,hi,hbk,rfl⟩:=h1
  have:=(hh.obj id o hi).lt hbk;omega
 ·rw[qaC h1];exact hh.fresh b hb
theorem qlN(hh:HeapOk cx L F h s w):HeapOk cx L (qaB L F h w) [] s w:=
 ⟨cx.stable hh.hg (qaL hh) (qab hh) fun b hb=>⟨rfl,qfq hh hb⟩,hh.csz,qab hh,(fun id o hi=>by cases hi),(fun id o hi=>by cases hi),(fun i j o p hi=>by cases hi)⟩
def qnm(yv:Option Nat)(L:Loc)(F:Nat->Nat)(w:World)(id:Nat):DO->Prop
 | .box l=>RepAt F w (L.ρ id) 0 l
 | .arr sz l=>zL sz l/\((l = []/\L.κ id=0)\/(RepAt F w (L.ρ id) 0 l.flatten))
 | .map kvs=>∃ en c,0<F (L.ρ id)/\w.heap[L.ρ id]?=some (.map en c)/\RepKv F w kvs en.toList
theorem RepEs.of_flat{F:Nat->Nat}{w:World}{b sz:Nat}:∀ {es:List (List D)} {off:Nat},zL sz es->RepAt F w b off es.flatten->RepEs F w b off sz es
 | [],_,_,_=>trivial
 | e::r,off,hl,h=>by
  have he:=hl e (List.mem_cons_self ..);have hsplit:∀ {a c:List D} {off:Nat},RepAt F w b off (a++c)->RepAt F w b off a/\RepAt F w b (off+a.length) c:=by
   intro a
   induction a with
   | nil=>exact fun h=>⟨trivial,h⟩
   | cons x r ih=>
    intro c off h;obtain⟨h1,h2,h3⟩:=h;obtain⟨h4,h5⟩:=ih h3;refine⟨⟨h1,h2,h4⟩,?_⟩
    rwa [show off+(x::r).length=off+1+r.length by simp;omega]
  rw[List.flatten_cons]at h;obtain⟨h1,h2⟩:=hsplit h;rw[he]at h2;exact⟨he,h1,RepEs.of_flat (fun x hx=>hl x (List.mem_cons_of_mem _ hx)) h2⟩
theorem RepAt.of_cells{F:Nat->Nat}{w:World}{b:Nat}:∀ {cs:List D} {off:Nat} {l:List Value},RepDL F w cs l->(∀ i x,l[i]?=some x->off+i<F b/\w.cell? ⟨b,off+i,none⟩=some x)->RepAt F w b off cs
 | [],_,_,_,_=>trivial
 | c::r,off,_,h,hc=>by
  obtain⟨x,l',rfl,h1,h2⟩:=h;obtain⟨k1,k2⟩:=hc 0 x (by simp);refine⟨by simpa using k1,⟨x,by simpa using k2,h1⟩,RepAt.of_cells h2 fun i y hy=>?_⟩;have:=hc (i+1) y (by simpa using hy)
  rwa [show off+(i+1)=off+1+i by omega]at this
mutual
theorem qrs{g:Nat->Option DO}{F1:Nat->Nat}{yv:Option Nat}{L:Loc}{F:Nat->Nat}{w:World}(tr:Tr F w F1 w)(hg:∀ id o,g id=some o->qnm yv L F1 w id o):∀ (v:V) (x:Value) (d:D),jU g v=some d->RepV yv L F w v x->RepD F1 w d x
 | .d v,x,d,hv,hr=>by
  simp only[jU,Option.some.injEq]at hv;subst hv;exact RepD.mono tr _ _ hr
 | .agg cs,x,d,hv,hr=>by
  simp only[jU]at hv;split at hv
  ·rename_i l hl
   cases hv;obtain⟨a,rfl,ha⟩:=hr;exact⟨a,rfl,qcw tr hg cs _ l hl ha⟩
  ·cases hv
 | .tup cs,x,d,hv,hr=>by
  simp only[jU]at hv;split at hv
  ·rename_i l hl
   cases hv;obtain⟨a,rfl,ha⟩:=hr;exact⟨a,rfl,qcw tr hg cs _ l hl ha⟩
  ·cases hv
 | .clo f cs,x,d,hv,hr=>by
  simp only[jU]at hv;split at hv
  ·rename_i l hl
   cases hv;obtain⟨a,rfl,ha⟩:=hr;exact⟨a,rfl,qcw tr hg cs _ l hl ha⟩
  ·cases hv
 | .ptr id off,x,d,hv,hr=>by
  simp only[jU]at hv;split at hv
  ·rename_i l hl
   cases hv;have hat:RepAt F1 w (L.ρ id) 0 l:=hg id _ hl;have hat:=RepAt.drop off hat;rw[Nat.zero_add]at hat;exact⟨L.ρ id,off,hr,hat⟩
  ·cases hv
 | .sl id sz off len,x,d,hv,hr=>by
  simp only[jU]at hv;split at hv;case h_2=>cases hv
  rename_i m l hl;split at hv;case h_2=>cases hv
  rename_i hm hlen;cases hv;have hm:=Nat.eq_of_beq_eq_true hm;subst hm;have hlen:=Nat.le_of_ble_eq_true hlen;obtain⟨a,cap,rfl,h1,h2,h3⟩:=hr;obtain⟨hls,hor⟩:=hg id _ hl;refine⟨a,len,cap,rfl,by rw[List.length_take,List.length_drop];omega,h1,fun hne=>?_⟩;have hlen0:len≠0:=by
   rintro rfl;simp at hne
  rcases h3 with⟨h3,_⟩|⟨h3,h4⟩
  ·exact absurd h3 hlen0
  rcases hor with⟨rfl,_⟩|hat
  ·simp at hne
  ·refine⟨L.ρ id,off*m,m,h3,h2,?_⟩
   have hes:=RepEs.of_flat hls hat;have hes:=RepEs.drop off hes;rw[Nat.zero_add]at hes;exact RepEs.take len hes
 | .mp id,x,d,hv,hr=>by
  simp only[jU]at hv;split at hv
  ·rename_i l hl
   cases hv;obtain⟨en,c,h1,h2,h3⟩:=hg id _ hl;exact⟨L.ρ id,en,c,hr,h1,h2,h3⟩
  ·cases hv
 | .ep _ _ _ _,_,_,hv,_=>by simp[jU]at hv
 | .it _,_,_,hv,_=>by simp[jU]at hv
 | .yld,_,_,hv,_=>by simp[jU]at hv
 | .unk,_,_,hv,_=>by simp[jU]at hv
theorem qcw{g:Nat->Option DO}{F1:Nat->Nat}{yv:Option Nat}{L:Loc}{F:Nat->Nat}{w:World}(tr:Tr F w F1 w)(hg:∀ id o,g id=some o->qnm yv L F1 w id o):∀ (vs:List V) (l:List Value) (ds:List D),zY g vs=some ds->RepVL yv L F w vs l->RepDL F1 w ds l
 | [],l,ds,hv,hr=>by
  simp only[zY,Option.some.injEq]at hv;subst hv;exact hr
 | v::r,l,ds,hv,hr=>by
  simp only[zY]at hv;split at hv
  ·rename_i a m h1 h2
   cases hv;obtain⟨x,l',rfl,h3,h4⟩:=hr;exact⟨x,l',rfl,qrs tr hg v x a h1 h3,qcw tr hg r l' m h2 h4⟩
  ·cases hv
end
theorem qeM{g:Nat->Option DO}:∀ {es:List (List V)} {l:List (List D)},qaA g es=some l->zY g es.flatten=some l.flatten/\l.length=es.length /\ ∀ sz,zL sz es->zL sz l
 | [],l,h=>by
  simp only[qaA,Option.some.injEq]at h;subst h;exact⟨rfl,rfl,fun _ _ _ he=>by cases he⟩
 | e::r,l,h=>by
  simp only[qaA]at h;split at h
  ·rename_i a m h1 h2
   cases h;obtain⟨k1,k2,k3⟩:=qeM h2;have app:∀ {a b:List V} {x y:List D},zY g a=some x->zY g b=some y->zY g (a++b)=some (x++y)/\x.length=a.length:=by
    intro a
    induction a with
    | nil=>intro b x y h1 h2;simp only[zY,Option.some.injEq]at h1;subst h1;exact⟨h2,rfl⟩
    | cons v r ih=>
     intro b x y h1 h2;simp only[zY]at h1;split at h1
     ·rename_i p q h3 h4
      cases h1;obtain⟨k1,k2⟩:=ih h4 h2;refine⟨?_,by simp[k2]⟩;simp only[List.cons_append,zY,h3,k1]
     ·cases h1
   obtain⟨j1,j2⟩:=app h1 k1;refine⟨by simpa using j1,by simp[k2],fun sz hl x hx=>?_⟩;rcases List.mem_cons.1 hx with rfl|hx
   ·rw[j2];exact hl e (List.mem_cons_self ..)
   ·exact k3 sz (fun y hy=>hl y (List.mem_cons_of_mem _ hy)) x hx
  ·cases h
theorem qel{w:World}{b:Nat}{c:Array Value}{T:TypeId}(h:w.heap[b]?=some (.cells c T (0,0))){i:Nat}{x:Value}(hx:c.toList[i]?=some x):i<qhT w b/\w.cell? ⟨b,i,none⟩=some x:=by
 have hx:c[i]?=some x:=by simpa using hx
 have hi:=(Array.getElem?_eq_some_iff.1 hx).1;refine⟨by simp only[qhT,h];exact hi,?_⟩;rw[cell_of_row _ _ _ _ _ _ h];simpa using hx
theorem qgG(hh:HeapOk cx L F h s w):∀ (n:Nat) (id:Nat) (o:DO),qcv h n id=some o->qnm cx.yv L (qaB L F h w) w id o
 | 0,_,_,ho=>by cases ho
 | n+1,id,o,ho=>by
  have tr:=qaL hh;simp only[qcv]at ho;split at ho
  ·rename_i l hi
   cases ho;obtain⟨c,T,hc,hr⟩:=hh.obj id _ hi;have hr:RepDL F w l c.toList:=RepVL.inj.1 hr;refine RepAt.of_cells (RepDL.mono tr _ _ hr) fun i x hx=>?_;rw[Nat.zero_add,qdU hi trivial];exact qel hc hx
  ·rename_i l hi
   split at ho
   ·rename_i l' hl
    cases ho;obtain⟨c,T,hc,hr⟩:=hh.obj id _ hi;have hr:=qcw tr (qgG hh n) l _ l' hl hr;refine RepAt.of_cells hr fun i x hx=>?_;rw[Nat.zero_add,qdU hi trivial];exact qel hc hx
   ·cases ho
  ·rename_i sz l hi
   cases ho;obtain⟨h1,h2,h3⟩:=hh.obj id _ hi;have hls:zL sz l:=fun e he=>by
    have:=h2 (inj e) (by rw[Els.toV,qZ];exact List.mem_map_of_mem he)
    rwa [jl]at this
   refine⟨hls,?_⟩;rcases h3 with⟨h3,h4⟩|⟨c,T,hc,hk,hn,hr⟩
   ·left
    rw[Els.toV,qZ,List.map_eq_nil_iff]at h3;exact⟨h3,h4⟩
   ·by_cases hk0:L.κ id=0
    ·left
     refine⟨?_,hk0⟩;rw[hk,hk0]at hn;rw[Els.toV,qZ,List.length_map]at hn;have:l.length=0:=by
      rcases Nat.eq_zero_or_pos l.length with h|h
      ·exact h
      ·have:=Nat.mul_pos h h1;omega
     exact List.length_eq_zero_iff.1 this
    ·right
     rw[Els.toV,zW]at hr;have hr:=RepVL.inj.1 hr;refine RepAt.of_cells (RepDL.mono tr _ _ hr) fun i x hx=>?_;rw[Nat.zero_add,qdU hi hk0];rw[List.getElem?_take]at hx;split at hx
     ·exact qel hc hx
     ·cases hx
  ·rename_i sz l hi
   split at ho;case h_2=>cases ho
   rename_i l' hl;cases ho;obtain⟨h1,h2,h3⟩:=hh.obj id _ hi;obtain⟨j1,j2,j3⟩:=qeM hl;refine⟨j3 sz h2,?_⟩;rcases h3 with⟨h3,h4⟩|⟨c,T,hc,hk,hn,hr⟩
   ·left
    have h3:l = []:=h3;subst h3;exact⟨List.length_eq_zero_iff.1 j2,h4⟩
   ·by_cases hk0:L.κ id=0
    ·left
     refine⟨?_,hk0⟩;rw[hk,hk0]at hn;have:l.length=0:=by
      rcases Nat.eq_zero_or_pos l.length with h|h
      ·exact h
      ·have:=Nat.mul_pos h h1
       have hn:l.length*sz<=0:=hn;omega
     exact List.length_eq_zero_iff.1 (by rw[j2];exact this)
    ·right
     have hr:=qcw tr (qgG hh n) l.flatten _ l'.flatten j1 hr;refine RepAt.of_cells hr fun i x hx=>?_;rw[Nat.zero_add,qdU hi hk0];rw[List.getElem?_take]at hx;split at hx
     ·exact qel hc hx
     ·cases hx
  ·rename_i kvs hi
   cases ho;obtain⟨en,c,hc,hr⟩:=hh.obj id _ hi;refine⟨en,c,?_,hc,RepKv.mono tr _ _ hr.1⟩;rw[qdU hi trivial];simp[qhT,hc]
  ·cases ho
end
end Go.PX
namespace Go.PX
open Go.RowKit
def qiR(ds:List D):D:=
 match ds with
 | [x]=>x
 | l=>.tup l
theorem qrt{F:Nat->Nat}{w:World}{ds:List D}{vals:List Value}(h:RepDL F w ds vals):RepD F w (qiR ds) (qtf vals):=by
 cases ds with
 | nil=>
  have:vals = []:=h;subst this;exact⟨#[],rfl,rfl⟩
 | cons a r=>
  obtain⟨x,l,rfl,hx,hl⟩:=h
  cases r with
  | nil=>
   have:l = []:=hl;subst this;exact hx
  | cons b r=>
   obtain⟨y,l',rfl,hy,hl'⟩:=hl;refine⟨(x::y::l').toArray,rfl,?_⟩;exact⟨x,y::l',rfl,hx,y,l',rfl,hy,hl'⟩
theorem qc{σ:Type}{l:List V}{h:Heap}{s:σ}{Q:V->Heap->σ->Prop}(n:Nat){ds:List D}(hv:zY (qcv h n) l=some ds)(hq:Q (.d (qiR ds)) [] s):RetA l h s Q:=by
 refine⟨fun cx L F vals w hh hr=>?_⟩;have tr:=qaL hh;exact⟨_,[],L,qaB L F h w,hq,qlN hh,qrt (qcw tr (qgG hh n) l vals ds hv hr),tr,fun _ _=>⟨rfl,rfl⟩⟩
def qwB(l:List V):V:=
 match l with
 | [x]=>x
 | l=>mkTup l
def qbk(nk:List Nat)(i:Nat):Nat:=
 match Nat.blt i 2000000 with
 | true=>i
 | false=>match nk[i-2000000]? with
  | some k=>k
  | none=>0
def qru(R:Nat->Nat)(h:Heap):Heap->Prop
 | []=>True
 | (i,o)::r=>get h (R i)=some (qgE R o)/\qru R h r
theorem qbV{R:Nat->Nat}{h:Heap}:∀ {h1:Heap},qru R h h1 -> ∀ i o,get h1 i=some o->get h (R i)=some (qgE R o)
 | [],_,i,o,hi=>by cases hi
 | (k,p)::r,hh,i,o,hi=>by
  simp only[get]at hi;split at hi
  ·rename_i he
   have:=Nat.eq_of_beq_eq_true he;subst this;cases hi;exact hh.1
  ·exact qbV hh.2 i o hi
def zX:Heap->List Nat
 | []=>[]
 | (i,_)::r=>i::zX r
theorem qcG:∀ {h:Heap} {i:Nat} {o:Obj},get h i=some o->i∈zX h
 | [],i,o,h=>by cases h
 | (k,p)::r,i,o,h=>by
  simp only[get]at h;split at h
  ·rename_i he
   have:=Nat.eq_of_beq_eq_true he;subst this;simp[zX]
  ·simp[zX,qcG h]
theorem qA{σ:Type}{l:List V}{h:Heap}{s:σ}{Q:V->Heap->σ->Prop}(nk:List Nat)(l1:List V)(h1:Heap)(hl:qpJ (qbk nk) l1=l)(hh1:qru (qbk nk) h h1)(hnd:qcm ((zX h1).map (qbk nk))=true)
  (hq:Q (qwB l1) h1 s):RetA l h s Q:=by
 refine⟨fun cx L F vals w hh hr=>?_⟩;have hR:∀ i,pinned i->qbk nk i=i:=fun i hi=>by
  unfold qbk;rw[show Nat.blt i 2000000=true from Nat.ble_eq_true_of_le hi.2]
 generalize qbk nk=R at hl hh1 hnd hR;subst hl;have hinj:∀ i j,i∈zX h1->j∈zX h1->R i=R j->i=j:=by
  have hn:=qas hnd;intro i j hi hj hij;obtain⟨a,ha⟩:=List.mem_iff_getElem?.1 hi;obtain⟨b,hb⟩:=List.mem_iff_getElem?.1 hj;have k1:((zX h1).map R)[a]?=some (R i):=by rw[List.getElem?_map,ha];rfl
  have k2:((zX h1).map R)[b]?=some (R i):=by rw[List.getElem?_map,hb,hij];rfl
  have:=qhR hn k1 k2;subst this;rw[ha]at hb;exact Option.some.inj hb
 have hr1:RepVL cx.yv ⟨fun i=>L.ρ (R i),fun i=>L.κ (R i)⟩ F w l1 vals:=(RepVL.ren (R:=R) l1 _ fun _ _=>⟨rfl,rfl⟩).1 hr;refine⟨_,h1,⟨fun i=>L.ρ (R i),fun i=>L.κ (R i)⟩,F,hq,⟨hh.hg,hh.csz,hh.fresh,fun i o hi=>?_,fun i o hi hb=>?_,fun i j o p hi hj hbi hbj hij=>?_⟩,?_,Tr.refl F w,fun i hi=>by
  show L.ρ (R i)=L.ρ i/\L.κ (R i)=L.κ i;rw[hR i hi];exact⟨rfl,rfl⟩⟩
 ·exact(RepO.ren (R:=R) (L:=⟨fun i=>L.ρ (R i),fun i=>L.κ (R i)⟩) (L':=L) i o (fun _ _=>⟨rfl,rfl⟩) ⟨rfl,rfl⟩).1 (hh.obj _ _ (qbV hh1 i o hi))
 ·exact hh.own _ _ (qbV hh1 i o hi) ((zm (R:=R) (L:=⟨fun i=>L.ρ (R i),fun i=>L.κ (R i)⟩) (L':=L) i o rfl).2 hb)
 ·refine hinj i j (qcG hi) (qcG hj) ?_
  exact hh.inj _ _ _ _ (qbV hh1 i o hi) (qbV hh1 j p hj) ((zm (R:=R) (L:=⟨fun i=>L.ρ (R i),fun i=>L.κ (R i)⟩) (L':=L) i o rfl).2 hbi)
   ((zm (R:=R) (L:=⟨fun i=>L.ρ (R i),fun i=>L.κ (R i)⟩) (L':=L) j p rfl).2 hbj) hij
 ·cases l1 with
  | nil=>
   have:vals = []:=hr1;subst this;exact⟨#[],rfl,rfl⟩
  | cons v r=>
   cases r with
   | nil=>
    obtain⟨x,l,rfl,hx,hl⟩:=hr1;have:l = []:=hl;subst this;exact hx
   | cons u r=>
    obtain⟨x,l,rfl,hx,y,l',rfl,hy,hl'⟩:=hr1;have hall:RepVL cx.yv ⟨fun i=>L.ρ (R i),fun i=>L.κ (R i)⟩ F w (v::u::r) (x::y::l'):=⟨x,_,rfl,hx,y,l',rfl,hy,hl'⟩;show RepV _ _ _ _ (mkTup (v::u::r)) (.tuple (x::y::l').toArray);unfold mkTup;split
    ·rename_i ds hds
     refine⟨_,rfl,?_⟩;rw[qde hds]at hall;exact RepVL.inj.1 hall
    ·exact⟨_,rfl,hall⟩
mutual
def qdl:D->Bool
 | .bool _=>true
 | .int _ _=>true
 | .str _=>true
 | .agg cs=>qdm cs
 | .tup cs=>qdm cs
 | .vs _=>false
 | .nils=>true
 | .ref _=>false
 | .nilp=>true
 | .mv _=>false
 | .nilm=>true
 | .clo _ cs=>qdm cs
 | .mth _ cs=>qdm cs
 | .nilf=>true
 | .ifc _ v=>qdl v
 | .nili=>true
def qdm:List D->Bool
 | []=>true
 | v::r=>qdl v&&qdm r
end
mutual
theorem RepD.free{F F':Nat->Nat}{w w':World}:∀ (v:D) (x:Value),qdl v=true->RepD F w v x->RepD F' w' v x
 | .bool _,_,_,h=>h
 | .int _ _,_,_,h=>h
 | .str _,_,_,h=>h
 | .agg cs,_,hf,h=>by
  obtain⟨l,rfl,hl⟩:=h;exact⟨l,rfl,RepDL.free cs _ hf hl⟩
 | .tup cs,_,hf,h=>by
  obtain⟨l,rfl,hl⟩:=h;exact⟨l,rfl,RepDL.free cs _ hf hl⟩
 | .vs _,_,hf,_=>by simp[qdl]at hf
 | .nils,_,_,h=>h
 | .ref _,_,hf,_=>by simp[qdl]at hf
 | .nilp,_,_,h=>h
 | .mv _,_,hf,_=>by simp[qdl]at hf
 | .nilm,_,_,h=>h
 | .clo _ cs,_,hf,h=>by
  obtain⟨l,rfl,hl⟩:=h;exact⟨l,rfl,RepDL.free cs _ hf hl⟩
 | .mth _ cs,_,hf,h=>by
  obtain⟨l,rfl,hl⟩:=h;exact⟨l,rfl,RepDL.free cs _ hf hl⟩
 | .nilf,_,_,h=>h
 | .ifc _ v,_,hf,h=>by
  obtain⟨y,rfl,hy⟩:=h;exact⟨y,rfl,RepD.free v y hf hy⟩
 | .nili,_,_,h=>h
theorem RepDL.free{F F':Nat->Nat}{w w':World}:∀ (vs:List D) (l:List Value),qdm vs=true->RepDL F w vs l->RepDL F' w' vs l
 | [],_,_,h=>h
 | v::r,_,hf,h=>by
  simp only[qdm,Bool.and_eq_true]at hf;obtain⟨x,l',rfl,hx,hl⟩:=h;exact⟨x,l',rfl,RepD.free v x hf.1 hx,RepDL.free r l' hf.2 hl⟩
end
def FnV(P:Program)(f:FuncId)(ds:List D)(r:D):Prop:=FnU P f (inj ds) [] fun v h'=>v = .d r/\h' = []
section
variable {P : Program} {σ : Type} {cx : Cx σ} {r : Option Nat} {m : List Nat} {L : Loc} {F : Nat -> Nat} {st : St σ} {a : Act} {w : World}
theorem Good.onward(hg:Good cx r m L F st a w){F':Nat->Nat}{w':World}(tr:Tr F w F' w')(hk:∀ b,b<w.heap.size->w'.heap[b]?=w.heap[b]?/\F' b=F b)(hf:∀ b,w'.heap.size<=b->F' b=0):Good cx r m L F' st a w':=by
 refine⟨⟨cx.stable hg.heap.hg tr hf fun b hb=>hk b (hg.heap.csz b hb),fun b hb=>Nat.lt_of_lt_of_le (hg.heap.csz b hb) tr.size,hf,fun id o hi=>?_,fun id o hi hb=>?_,hg.heap.inj⟩,fun t v ht=>?_,hg.dfr,fun b hb=>?_,hg.mnd,fun l hl=>?_,hg.pin,hg.tsz⟩
 ·exact RepO.mono tr id o (fun _ _=>⟨rfl,rfl⟩) ⟨rfl,rfl⟩ (fun hb=>(hk _ ((hg.heap.obj id o hi).lt hb)).1) (hg.heap.obj id o hi)
 ·rw[(hk _ ((hg.heap.obj id o hi).lt hb)).2];exact hg.heap.own id o hi hb
 ·obtain⟨x,hx,hr⟩:=hg.env t v ht
  exact⟨x,hx,RepV.mono tr v x (fun _ _=>⟨rfl,rfl⟩) hr⟩
 ·obtain⟨k1,k2⟩:=hg.mks b hb
  exact⟨by rw[(hk b (za k1)).1];exact k1,k2⟩
 ·obtain⟨lp,k1⟩:=hg.lk l hl
  exact⟨lp,⟨by rw[(hk l (za k1.1.1)).1];exact k1.1.1,k1.1.2⟩,k1.2⟩
theorem qgH{f:FuncId}{ds:List D}{res:D}(hf:FnV P f ds res)(hfree:qdl res=true)(n:Nat){e:Env}{h:Heap}{d:Option Nat}{args:List V}(hv:zY (qcv h n) args=some ds) :
  qdH P e h d f args (wset d (.d res)):=by
 refine⟨(hf (σ:=Unit) { y:=fun _ _ _ _=>False } ()).enter,?_⟩;intro σ cx hld r m L F st a w vals he hh hg hd hr;have hok:HeapOk cx L F h st.s w:=(hg.sub (e:=st.env) (h:=h) (fun _ _ h=>h) hh).heap;have tr1:=qaL hok;generalize hF1:qaB L F h w=F1 at tr1;have hF1C:∀ b,cx.C st.s b->F1 b=F b:=fun b hb=>by rw[<- hF1];exact qfq hok hb
 have hvals:RepDL F1 w ds vals.toList:=by
  rw[<- hF1];exact qcw (qaL hok) (qgG hok n) args _ ds hv hr
 let cx':Cx σ:={
  C:=fun s b=>cx.C s b\/b<w.heap.size
  HG:=fun s w' F'=>cx.HG s w' F' /\ ∀ b,b<w.heap.size->w'.heap[b]?=w.heap[b]?/\F' b=F1 b
  yv:=cx.yv
  rcd:=cx.rcd
  pρ:=cx.pρ
  pκ:=cx.pκ
  stable:=by
   rintro s w1 F1' w2 F2 ⟨h1,h2⟩ tr hf hk;refine⟨cx.stable h1 tr hf fun b hb=>hk b (.inl hb),fun b hb=>?_⟩;obtain⟨k1,k2⟩:=hk b (.inr hb);obtain⟨k3,k4⟩:=h2 b hb;exact⟨k1.trans k3,k2.trans k4⟩ }
 have hH0:HeapOk cx' L F1 [] st.s w:=by
  refine⟨⟨cx.stable hg.heap.hg tr1 (by rw[<- hF1];exact qab hok) fun b hb=>⟨rfl,hF1C b hb⟩,fun _ _=>⟨rfl,rfl⟩⟩,fun b hb=>hb.elim (hg.heap.csz b) id,?_,(fun _ _ hi=>by cases hi),(fun _ _ hi=>by cases hi),(fun _ _ _ _ hi=>by cases hi)⟩;rw[<- hF1];exact qab hok
 have hcall:=(hf ({ y:=fun _ _ _ _=>False }:Hd σ) st.s).run cx' ⟨fun _ _ _ _ _ _ hy=>hy.elim,fun s w F hh=>hld s w F hh.1⟩ L F1 vals w hH0 (RepVL.inj.2 hvals);refine hcall.mono ?_;rintro en w' ⟨x,rfl,v,h',s',L',F',⟨⟨rfl,rfl⟩,rfl⟩,hH,hv',tr,pin⟩;obtain⟨hHG,hkeep⟩:=hH.hg
 let F2:Nat->Nat:=fun b=>if b<w.heap.size then F b else F' b
 have hF2lt:∀ b,b<w.heap.size->F2 b=F b:=fun b hb=>if_pos hb;have hF2ge:∀ b,w.heap.size<=b->F2 b=F' b:=fun b hb=>if_neg (by omega);have hFlt:∀ b o,o<F b->b<w.heap.size:=fun b o ho=>by
  rcases Nat.lt_or_ge b w.heap.size with h|h
  ·exact h
  ·rw[hg.heap.fresh b h]at ho;omega
 have tr2:Tr F w F2 w':=by
  refine⟨tr.os,tr.tape,tr.output,tr.size,fun b=>?_,fun b o ho=>qbN (hkeep b (hFlt b o ho)).1,fun b en c hb hm=>by rw[(hkeep b (hFlt b 0 hb)).1];exact hm⟩;rcases Nat.lt_or_ge b w.heap.size with h|h
  ·rw[hF2lt b h];exact Nat.le_refl _
  ·rw[hg.heap.fresh b h];exact Nat.zero_le _
 have hg2:=hg.onward tr2 (fun b hb=>⟨(hkeep b hb).1,hF2lt b hb⟩) (fun b hb=>by
  rw[hF2ge b (Nat.le_trans tr.size hb)];exact hH.fresh b hb)
 exact⟨x,rfl,L,F2,hg2.wset hd (RepD.free res x hfree hv'),tr2⟩
theorem qw{Y:Hd σ}{f:FuncId}{ds:List D}{res:D}(hf:FnV P f ds res)(hfree:qdl res=true)(n:Nat){e:Env}{h:Heap}{s:σ}{d:Option Nat}{args:List V}(hv:zY (qcv h n) args=some ds)
  {K:St σ->Prop} (hk:qP (wset d (.d res)) e h fun e h=>K ⟨e,h,s⟩):CallA P Y ⟨e,h,s⟩ d f args K:=qfp (qgH hf hfree n hv) hk
theorem qB{f:FuncId}{ds:List D}{res:D}(hf:FnV P f ds res)(hfree:qdl res=true)(n:Nat){e:Env}{h:Heap}{d:Option Nat}{args:List V}(hv:zY (qcv h n) args=some ds)
  {K:List Wr->Prop} (hk:K (wset d (.d res))):DrawCall P e h d f args K:=⟨_,hk,qgH hf hfree n hv⟩
theorem qhU{f:FuncId}{ds:List D}{res:D}(hf:FnV P f ds res){e:Env}{h:Heap}{d:Option Nat}{args:List V}(hv:args=inj ds)(hd:Nat.ble (d.getD 0) 10000=true):qdH P e h d f args (wset d (.d res)):=by
 have hmap:qpJ (qaE [] (d.getD 0)) (inj ds)=args:=by rw[hv];exact qiV _ _
 have hB:qbU [] d (.d res) []=true:=by
  cases d with
  | none=>rfl
  | some d=>
   simp only[qbU,jc,qcm,zz,qpK,zq,List.map_nil,disj,List.all_nil,List.length_nil,hd,Bool.and_true,Bool.true_and,zN,qhM,qdT,List.nil_append,wset,qaw,zp];rfl
 exact qjl hf [] hmap rfl hB
theorem qk{Y:Hd σ}{f:FuncId}{ds:List D}{res:D}(hf:FnV P f ds res){e:Env}{h:Heap}{s:σ}{d:Option Nat}{args:List V}(hv:args=inj ds)(hd:Nat.ble (d.getD 0) 10000=true)
  {K:St σ->Prop} (hk:qP (wset d (.d res)) e h fun e h=>K ⟨e,h,s⟩):CallA P Y ⟨e,h,s⟩ d f args K:=qfp (qhU hf hv hd) hk
theorem qq{f:FuncId}{ds:List D}{res:D}(hf:FnV P f ds res){e:Env}{h:Heap}{d:Option Nat}{args:List V}(hv:args=inj ds)(hd:Nat.ble (d.getD 0) 10000=true)
  {K:List Wr->Prop} (hk:K (wset d (.d res))):DrawCall P e h d f args K:=⟨_,hk,qhU hf hv hd⟩
end
end Go.PX
namespace Go.PX
open Go.RowKit
theorem qkq{p:Nat->Prop}:∀ (n:Nat),p n -> ∃ m,p m /\ ∀ k,p k->m<=k:=by
 intro n
 induction n using Nat.strongRecOn with
 | _ n ih=>
  intro hn;by_cases h:∃ k,k<n/\p k
  ·obtain⟨k,hk,hp⟩:=h;exact ih k hk hp
  ·exact⟨n,hn,fun k hk=>Nat.le_of_not_lt fun hlt=>h ⟨k,hlt,hk⟩⟩
open Classical in
noncomputable def qpP(p:Nat->Prop):Nat:=if h:∃ n,p n then (qkq h.choose h.choose_spec).choose else 0
theorem qlO{p:Nat->Prop}(h:∃ n,p n):p (qpP p):=by
 unfold qpP;rw[dif_pos h];exact(qkq h.choose h.choose_spec).choose_spec.1
theorem qoA{p:Nat->Prop}{k:Nat}(hk:p k):qpP p<=k:=by
 have h:∃ n,p n:=⟨k,hk⟩;unfold qpP;rw[dif_pos h];exact(qkq h.choose h.choose_spec).choose_spec.2 k hk
def Wk{σ:Type}(st st':St σ):Prop:=
 ∀ (cx:Cx σ) (r:Option Nat) (m:List Nat) (L:Loc) (F:Nat->Nat) (a:Act) (w:World),Good cx r m L F st a w -> ∃ L' F',Good cx r m L' F' st' a w/\Tr F w F' w
theorem Wk.refl{σ:Type}(st:St σ):Wk st st:=fun cx r m L F a w h=>⟨L,F,h,Tr.refl F w⟩
theorem Wk.trans{σ:Type}{st st' st'':St σ}(h:Wk st st')(k:Wk st' st''):Wk st st'':=fun cx r m L F a w hg=>by
 obtain⟨L',F',h1,h2⟩:=h cx r m L F a w hg;obtain⟨L'',F'',h3,h4⟩:=k cx r m L' F' a w h1;exact⟨L'',F'',h3,Tr.trans h2 h4⟩
def qoB(e:Env):Env->Prop
 | []=>True
 | (k,v)::r=>get e k=some v/\qoB e r
def qbt(e:Heap):Heap->Prop
 | []=>True
 | (k,v)::r=>get e k=some v/\qbt e r
theorem zi{e:Env}:∀ {e':Env},qoB e e'->qaF e' e
 | [],_,s,v,h=>by cases h
 | (k,u)::r,hs,s,v,h=>by
  simp only[get]at h;split at h
  ·rename_i he
   have:=Nat.eq_of_beq_eq_true he;subst this;cases h;exact hs.1
  ·exact zi hs.2 s v h
theorem jF{e:Heap}:∀ {e':Heap},qbt e e'->qaF e' e
 | [],_,s,v,h=>by cases h
 | (k,u)::r,hs,s,v,h=>by
  simp only[get]at h;split at h
  ·rename_i he
   have:=Nat.eq_of_beq_eq_true he;subst this;cases h;exact hs.1
  ·exact jF hs.2 s v h
theorem Wk.sub{σ:Type}{e e':Env}{h h':Heap}{s:σ}(he:qoB e e')(hh:qbt h h'):Wk (⟨e,h,s⟩:St σ) ⟨e',h',s⟩:=
 fun cx r m L F a w hg=>⟨L,F,hg.sub (zi he) (jF hh),Tr.refl F w⟩
theorem Wk.move{σ:Type}{e:Env}{h:Heap}{s:σ}(i j:Nat)(hj:Nat.blt j 1000000=true)(hij:Nat.beq i j=false) :
  Wk (⟨e,h,s⟩:St σ) ⟨jT (mapId (jA i j)) (jT (mapId (qz j)) e),qfe i j (jT (Obj.mapId (qz j)) (cut h j)),s⟩:=by
 intro cx r m L F a w hg;have hj:=Nat.le_of_ble_eq_true hj;have hij:i≠j:=by rintro rfl;simp at hij
 have h1:Good cx r m L F ⟨e,cut h j,s⟩ a w:=hg.del j;have h2:=h1.kill j;have hu:=qgg (e:=e) (h:=h) j (x:=j) (.inl rfl);exact⟨_,F,h2.move (by unfold pinned;omega) hij hu,Tr.refl F w⟩
mutual
def repl(g:Nat->Option DO):V->V
 | .d v=>.d v
 | .agg cs=>mkAgg (qdn g cs)
 | .tup cs=>mkTup (qdn g cs)
 | .clo f cs=>match qqy (qdn g cs) with
  | some l=>.d (.clo f l)
  | none=>.clo f (qdn g cs)
 | .ptr i o=>match jU g (.ptr i o) with
  | some v=>.d v
  | none=>.ptr i o
 | .ep i n j o=>.ep i n j o
 | .sl i n o l=>match jU g (.sl i n o l) with
  | some v=>.d v
  | none=>.sl i n o l
 | .mp i=>match jU g (.mp i) with
  | some v=>.d v
  | none=>.mp i
 | .it i=>.it i
 | .yld=>.yld
 | .unk=>.unk
def qdn(g:Nat->Option DO):List V->List V
 | []=>[]
 | v::r=>repl g v::qdn g r
end
def qdB(g:Nat->Option DO):List (List V)->List (List V)
 | []=>[]
 | v::r=>qdn g v::qdB g r
def qrv:List (List V)->Option (List (List D))
 | []=>some []
 | v::r=>match qqy v,qrv r with
  | some a,some l=>some (a::l)
  | _,_=>none
def qkr(g:Nat->Option DO):Obj->Obj
 | .box (.vv l)=>match qqy (qdn g l) with
  | some l=>.box (.dd l)
  | none=>.box (.vv (qdn g l))
 | .tb t l=>.tb t (qdn g l)
 | .arr n (.vv l)=>match qrv (qdB g l) with
  | some l=>.arr n (.dd l)
  | none=>.arr n (.vv (qdB g l))
 | o=>o
def qmO{α:Type}(t:Tab α):List Nat->Tab α
 | []=>t
 | i::r=>qmO (cut t i) r
theorem qdo{α:Type}:∀ (l:List Nat) (t:Tab α) (x:Nat),get (qmO t l) x=if x∈l then none else get t x
 | [],t,x=>by simp[qmO]
 | i::r,t,x=>by
  rw[qmO,qdo r,zZ];by_cases h1:x∈r
  ·simp[h1]
  ·by_cases h2:x=i
   ·simp[h2]
   ·simp[h1,h2]
section
variable {yv : Option Nat} {L : Loc} {F F1 : Nat -> Nat} {w : World} {g : Nat -> Option DO}
theorem RepV.view1(tr:Tr F w F1 w)(hg:∀ id o,g id=some o->qnm yv L F1 w id o){v:V}{x:Value}(hr:RepV yv L F w v x):RepV yv L F1 w (match jU g v with
  | some d=>.d d
  | none=>v) x:=by
 split
 ·rename_i d hd
  exact qrs tr hg v x d hd hr
 ·exact RepV.mono tr v x (fun _ _=>⟨rfl,rfl⟩) hr
theorem RepV.mkTup{cs:List V}{l:Array Value}(h:RepVL yv L F w cs l.toList):RepV yv L F w (mkTup cs) (.tuple l):=by
 unfold PX.mkTup;split
 ·rename_i ds hds
  rw[qde hds]at h;exact⟨l,rfl,RepVL.inj.1 h⟩
 ·exact⟨l,rfl,h⟩
mutual
theorem RepV.repl(tr:Tr F w F1 w)(hg:∀ id o,g id=some o->qnm yv L F1 w id o):∀ (v:V) (x:Value),RepV yv L F w v x->RepV yv L F1 w (repl g v) x
 | .d v,x,h=>by simp only[PX.repl];exact RepD.mono tr v x h
 | .agg cs,x,h=>by
  obtain⟨l,rfl,hl⟩:=h;simp only[PX.repl];exact RepV.mkAgg (RepVL.repl tr hg cs _ hl)
 | .tup cs,x,h=>by
  obtain⟨l,rfl,hl⟩:=h;simp only[PX.repl];exact RepV.mkTup (RepVL.repl tr hg cs _ hl)
 | .clo f cs,x,h=>by
  obtain⟨l,rfl,hl⟩:=h;simp only[PX.repl];have:=RepVL.repl tr hg cs _ hl;split
  ·rename_i ds hds
   rw[qde hds]at this;exact⟨l,rfl,RepVL.inj.1 this⟩
  ·exact⟨l,rfl,this⟩
 | .ptr i o,x,h=>by simp only[PX.repl];exact RepV.view1 tr hg h
 | .ep i n j o,x,h=>by simp only[PX.repl];exact RepV.mono tr _ x (fun _ _=>⟨rfl,rfl⟩) h
 | .sl i n o l,x,h=>by simp only[PX.repl];exact RepV.view1 tr hg h
 | .mp i,x,h=>by simp only[PX.repl];exact RepV.view1 tr hg h
 | .it i,x,h=>by simp only[PX.repl];exact RepV.mono tr _ x (fun _ _=>⟨rfl,rfl⟩) h
 | .yld,x,h=>by simp only[PX.repl];exact h
 | .unk,x,h=>by simp only[PX.repl];exact h
theorem RepVL.repl(tr:Tr F w F1 w)(hg:∀ id o,g id=some o->qnm yv L F1 w id o):∀ (vs:List V) (l:List Value),RepVL yv L F w vs l->RepVL yv L F1 w (qdn g vs) l
 | [],_,h=>h
 | v::r,_,h=>by
  obtain⟨x,l',rfl,hx,hl⟩:=h;exact⟨x,l',rfl,RepV.repl tr hg v x hx,RepVL.repl tr hg r l' hl⟩
end
theorem qlP(a b:List V):qdn g (a++b)=qdn g a++qdn g b:=by
 induction a with
 | nil=>rfl
 | cons x r ih=>simp[qdn,ih]
theorem qlQ(a:List V):(qdn g a).length=a.length:=by
 induction a with
 | nil=>rfl
 | cons x r ih=>simp[qdn,ih]
theorem qhV:∀ (a:List (List V)),(qdB g a).flatten=qdn g a.flatten/\(qdB g a).length=a.length /\ ∀ sz,zL sz a->zL sz (qdB g a)
 | []=>⟨rfl,rfl,fun _ _ _ h=>by cases h⟩
 | e::r=>by
  obtain⟨h1,h2,h3⟩:=qhV r;refine⟨by simp[qdB,h1,qlP],by simp[qdB,h2],fun sz hl x hx=>?_⟩;rcases List.mem_cons.1 hx with rfl|hx
  ·rw[qlQ];exact hl e (List.mem_cons_self ..)
  ·exact h3 sz (fun y hy=>hl y (List.mem_cons_of_mem _ hy)) x hx
theorem qoC:∀ {l:List (List V)} {ds:List (List D)},qrv l=some ds->l=ze ds
 | [],ds,h=>by simp only[qrv,Option.some.injEq]at h;subst h;rfl
 | v::r,ds,h=>by
  simp only[qrv]at h;split at h
  ·rename_i a l h1 h2
   cases h;simp only[ze];rw[qde h1,qoC h2]
  ·cases h
theorem RepO.repl(tr:Tr F w F1 w)(hg:∀ id o,g id=some o->qnm yv L F1 w id o)(id:Nat)(o:Obj)(h:RepO yv L F w id o):RepO yv L F1 w id (qkr g o):=by
 cases o with
 | box c=>
  cases c with
  | dd l=>exact RepO.mono tr id _ (fun _ _=>⟨rfl,rfl⟩) ⟨rfl,rfl⟩ (fun _=>rfl) h
  | vv l=>
   obtain⟨c,T,hc,hr⟩:=h;have hr:=RepVL.repl tr hg l _ hr;simp only[qkr];split
   ·rename_i ds hds
    rw[qde hds]at hr;exact⟨c,T,hc,hr⟩
   ·exact⟨c,T,hc,hr⟩
 | arr sz es=>
  cases es with
  | dd l=>exact RepO.mono tr id _ (fun _ _=>⟨rfl,rfl⟩) ⟨rfl,rfl⟩ (fun _=>rfl) h
  | vv l=>
   obtain⟨hs,hl,h⟩:=h;obtain⟨k1,k2,k3⟩:=qhV (g:=g) l;have hnew:RepO yv L F1 w id (.arr sz (.vv (qdB g l))):=by
    refine⟨hs,k3 sz hl,?_⟩;rcases h with⟨h,hk⟩|⟨c,T,hc,hk,hn,hr⟩
    ·left
     have h:l = []:=h;subst h;exact⟨rfl,hk⟩
    ·right
     refine⟨c,T,hc,hk,?_,?_⟩
     ·show(qdB g l).length*sz<=_
      rw[k2];exact hn
     ·show RepVL yv L F1 w (qdB g l).flatten (c.toList.take ((qdB g l).length*sz))
      rw[k2,k1];exact RepVL.repl tr hg _ _ hr
   simp only[qkr];split
   ·rename_i ds hds
    rw[qoC hds]at hnew;exact hnew
   ·exact hnew
 | map kvs=>exact RepO.mono tr id _ (fun _ _=>⟨rfl,rfl⟩) ⟨rfl,rfl⟩ (fun _=>rfl) h
 | iter s n=>exact RepO.mono tr id _ (fun _ _=>⟨rfl,rfl⟩) ⟨rfl,rfl⟩ (fun _=>rfl) h
 | buf t s=>exact RepO.mono tr id _ (fun _ _=>⟨rfl,rfl⟩) ⟨rfl,rfl⟩ (fun _=>rfl) h
 | tb t l=>
  obtain⟨c,hc,hr⟩:=h;exact⟨c,hc,RepVL.repl tr hg l _ hr⟩
 | mit v n l u=>exact RepO.mono tr id _ (fun _ _=>⟨rfl,rfl⟩) ⟨rfl,rfl⟩ (fun _=>rfl) h
theorem qeN(id:Nat)(o:Obj):Backed L id (qkr g o)↔Backed L id o:=by
 cases o with
 | box c=>cases c with
  | dd l=>exact Iff.rfl
  | vv l=>simp only[qkr];split<;>exact Iff.rfl
 | arr sz es=>cases es with
  | dd l=>exact Iff.rfl
  | vv l=>simp only[qkr];split<;>exact Iff.rfl
 | map kvs=>exact Iff.rfl
 | iter s n=>exact Iff.rfl
 | buf t s=>exact Iff.rfl
 | tb t l=>exact Iff.rfl
 | mit v n l u=>exact Iff.rfl
end
theorem qhW{α:Type}:∀ (l:List Nat) (t:Tab α) (x:Nat),get (qM l t) x=if inL l x then get t x else none
 | l,[],x=>by simp[qM,get]
 | l,(k,v)::r,x=>by
  simp only[qM];split
  ·rename_i hk
   simp only[get];split
   ·rename_i he
    have:=Nat.eq_of_beq_eq_true he;subst this;simp[hk]
   ·exact qhW l r x
  ·rename_i hk
   rw[qhW l r x];simp only[get]
   cases hkx:Nat.beq k x with
   | true=>
    have:=Nat.eq_of_beq_eq_true hkx;subst this;simp[hk]
   | false=>rfl
theorem Wk.frz{σ:Type}{e:Env}{h:Heap}{s:σ}(n:Nat)(ids:List Nat) :
  Wk (⟨e,h,s⟩:St σ) ⟨jT (repl (qcv (qM ids h) n)) e,jT (qkr (qcv (qM ids h) n)) (qmO h ids),s⟩:=by
 intro cx r m L F a w hg;have hsub:qaF (qM ids h) h:=jZ ids h;have hok:HeapOk cx L F (qM ids h) s w:=(hg.sub (e:=e) (h:=qM ids h) (fun _ _ h=>h) hsub).heap;have tr:=qaL hok;have hF1C:∀ b,cx.C s b->qaB L F (qM ids h) w b=F b:=fun b hb=>qfq hok hb;have hF1o:∀ id o,get h id=some o->id∉ids->Backed L id o->qaB L F (qM ids h) w (L.ρ id)=F (L.ρ id):=by
  intro id o hi hn hb;refine qaC ?_;rintro ⟨j,p,hj,hbj,hij⟩;have:=hg.heap.inj j id p o (hsub j p hj) hi hbj hb hij;subst this;exact hn (qdk ids h j p hj)
 have hfr:=qab hok;have hobj:=qgG hok n;generalize qaB L F (qM ids h) w=F1 at tr hF1C hF1o hfr hobj;generalize qcv (qM ids h) n=g at hobj;have hget:∀ i o',get (jT (qkr g) (qmO h ids)) i=some o'->i∉ids /\ ∃ o0,get h i=some o0/\o'=qkr g o0:=by
  intro i o' hi;rw[qQ,qdo]at hi;split at hi
  ·cases hi
  ·rename_i hn
   cases h0:get h i with
   | none=>simp[h0]at hi
   | some o0=>simp[h0]at hi;exact⟨hn,o0,rfl,hi.symm⟩
 refine⟨L,F1,⟨⟨cx.stable hg.heap.hg tr hfr fun b hb=>⟨rfl,hF1C b hb⟩,hg.heap.csz,hfr,?_,?_,?_⟩,?_,hg.dfr,hg.mks,hg.mnd,hg.lk,hg.pin,hg.tsz⟩,tr⟩
 ·intro i o' hi
  obtain⟨_,o0,h0,rfl⟩:=hget i o' hi;exact RepO.repl tr hobj i o0 (hg.heap.obj i o0 h0)
 ·intro i o' hi hb
  obtain⟨hn,o0,h0,rfl⟩:=hget i o' hi;have hb:=(qeN i o0).1 hb;rw[hF1o i o0 h0 hn hb];exact hg.heap.own i o0 h0 hb
 ·intro i j o' p hi hj hbi hbj he
  obtain⟨_,o0,h0,rfl⟩:=hget i o' hi;obtain⟨_,p0,hp0,rfl⟩:=hget j p hj;exact hg.heap.inj i j o0 p0 h0 hp0 ((qeN i o0).1 hbi) ((qeN j p0).1 hbj) he
 ·intro t v ht
  simp only[qQ]at ht
  cases h0:get e t with
  | none=>simp[h0]at ht
  | some v0=>
   simp[h0]at ht;subst ht;obtain⟨x,hx,hr⟩:=hg.env t v0 h0;exact⟨x,hx,RepV.repl tr hobj v0 x hr⟩
section
variable {P : Program} {T : Tys} {σ : Type} {Y : Hd σ}
theorem WPC.wk{c:Code}{st st':St σ}{K:AExit->St σ->Prop}(hw:Wk st st')(h:WPC P Y c st' K):WPC P Y c st K:=by
 intro cx hY r m L F a w hg hc;obtain⟨L',F',hg',tr⟩:=hw cx r m L F a w hg;refine wpIn_mono (h cx hY r m L' F' a w hg' hc) fun ex a' w' hq=>?_;rcases hq with⟨e',st1,m',L1,F1,h1,h2,h3,h4,h5⟩|hp
 ·exact .inl ⟨e',st1,m',L1,F1,h1,h2,h3,Tr.trans tr h4,h5⟩
 ·exact .inr (hp.trans tr rfl)
theorem zI(hT:qU P T){ft:FT}{c:Code}(hD:zS P T ft c){α:Type}(I:α->St σ)(Pr:α->Prop)(μ:α->Nat)(x0:α){st:St σ}{K:AExit->St σ->Prop}(h0:Wk st (I x0))(p0:Pr x0)
  (round:∀ x,Pr x->wpA P T ft Y c (I x) fun e st'=>match e with
   | .normal=>∃ y,μ y<μ x/\Pr y/\Wk st' (I y)
   | e=>K e st'):LoopA P ft Y c st K:=by
 refine⟨WPC.wk h0 ?_⟩;intro cx hY r m0 L0 F0 a w hg hc;have hc:jm a.tmps.size c=true:=hc
 let J:Act->World->α->Prop:=fun a' w' x=>Pr x /\ ∃ m L F,Good cx r m L F (I x) a' w'/\Tr F0 w F w'/\a'.tmps.size=a.tmps.size
 let M:Act->World->Nat:=fun a' w'=>qpP fun n=>∃ x,J a' w' x/\μ x=n
 refine wpIn_loop (fun a' w'=>∃ x,J a' w' x) M ⟨x0,p0,m0,L0,F0,hg,Tr.refl F0 w,rfl⟩ fun a' w' hJ=>?_;obtain⟨x,⟨hp,m,L,F,hg',tr,hs⟩,hx⟩:=qlO (p:=fun n=>∃ x,J a' w' x/\μ x=n) (by obtain⟨x,hx⟩:=hJ;exact⟨μ x,x,hx,rfl⟩);refine wpIn_mono (zM hT c hD (I x) _ (round x hp) cx hY r m L F a' w' hg' (by rw[hs];exact hc)) fun ex a'' w'' hq=>?_;rcases hq with⟨e',st1,m1,L1,F1,rfl,h2,h3,h4,h5⟩|hpn
 case inr=>
  have hpn':=hpn;obtain⟨v,pe,ph,ps,m',L',F',rfl,_⟩:=hpn;exact .inr (hpn'.trans tr hs)
 cases e' with
 | normal=>
  obtain⟨y,hy,hpy,hwk⟩:=h2;obtain⟨L2,F2,hg2,tr2⟩:=hwk cx r m1 L1 F1 a'' w'' h3;have hJy:J a'' w'' y:=⟨hpy,m1,L2,F2,hg2,Tr.trans tr (Tr.trans h4 tr2),h5.trans hs⟩;refine⟨⟨y,hJy⟩,?_⟩;have:M a'' w''<=μ y:=qoA ⟨y,hJy,rfl⟩;have hx:μ x=M a' w':=hx;omega
 | exit i=>exact .inl ⟨.exit i,st1,m1,L1,F1,rfl,h2,h3,Tr.trans tr h4,h5.trans hs⟩
 | ret=>exact .inl ⟨.ret,st1,m1,L1,F1,rfl,h2,h3,Tr.trans tr h4,h5.trans hs⟩
end
section
variable {σ : Type}
theorem Good.reval{cx:Cx σ}{r:Option Nat}{m:List Nat}{L:Loc}{F:Nat->Nat}{e:Env}{h:Heap}{s:σ}{a:Act}{w:World}(hg:Good cx r m L F ⟨e,h,s⟩ a w){t:Nat}{v v':V}(ht:get e t=some v)
  (hv:∀ x,RepV cx.yv L F w v x->RepV cx.yv L F w v' x):Good cx r m L F ⟨put e t v',h,s⟩ a w:=by
 refine⟨hg.heap,fun u y hu=>?_,hg.dfr,hg.mks,hg.mnd,hg.lk,hg.pin,hg.tsz⟩;rw[jq]at hu;split at hu
 ·rename_i he
  cases hu;subst he
  obtain⟨x,hx,hr⟩:=hg.env u v ht;exact⟨x,hx,hv x hr⟩
 ·exact hg.env u y hu
theorem Wk.born{e:Env}{h:Heap}{s:σ}(t id sz:Nat)(hid:Nat.blt id 1000000=true)(hs:Nat.blt 0 sz=true)(ht:get e t=some (.d .nils)) :
  Wk (⟨e,h,s⟩:St σ) ⟨put (jT (mapId (qz id)) e) t (.sl id sz 0 0),((id,.arr sz (.dd []))::jT (Obj.mapId (qz id)) (cut h id)),s⟩:=by
 intro cx r m L F a w hg;have hid:=Nat.le_of_ble_eq_true hid;have hs:=Nat.le_of_ble_eq_true hs;have h1:=hg.newEmpty id sz (by unfold pinned;omega) hs (.dd []) rfl;refine⟨_,F,Good.reval (t:=t) (v:=.d .nils) h1 (by rw[qQ,ht];rfl) fun x hx=>?_,Tr.refl F w⟩;have hx:x = .slice none 0 0:=hx;subst hx;exact⟨none,0,rfl,Nat.le_refl _,hs,.inl ⟨rfl,rfl⟩⟩
end
end Go.PX
namespace Go.PX
open Go.RowKit
mutual
def eqD:D->D->Bool
 | .bool a,.bool b=>a ==b
 | .int k n,.int k' m=>decide (k=k')&&decide (n=m)
 | .str a,.str b=>decide (a=b)
 | .agg a,.agg b=>quP a b
 | .tup a,.tup b=>quP a b
 | .nils,.nils=>true
 | .nilp,.nilp=>true
 | .nilm,.nilm=>true
 | .nilf,.nilf=>true
 | .nili,.nili=>true
 | _,_=>false
def quP:List D->List D->Bool
 | [],[]=>true
 | a::r,b::l=>eqD a b&&quP r l
 | _,_=>false
end
mutual
theorem qtw:∀ (a b:D),eqD a b=true->a=b
 | .bool a,b,h=>by cases b<;>simp[eqD]at h;rw[h]
 | .int k n,b,h=>by cases b<;>simp[eqD]at h;rw[h.1,h.2]
 | .str a,b,h=>by cases b<;>simp[eqD]at h;rw[h]
 | .agg a,b,h=>by cases b<;>simp[eqD]at h;rw[qfr _ _ h]
 | .tup a,b,h=>by cases b<;>simp[eqD]at h;rw[qfr _ _ h]
 | .nils,b,h=>by cases b<;>simp[eqD]at h;rfl
 | .nilp,b,h=>by cases b<;>simp[eqD]at h;rfl
 | .nilm,b,h=>by cases b<;>simp[eqD]at h;rfl
 | .nilf,b,h=>by cases b<;>simp[eqD]at h;rfl
 | .nili,b,h=>by cases b<;>simp[eqD]at h;rfl
 | .vs _,b,h=>by cases b<;>simp[eqD]at h
 | .ref _,b,h=>by cases b<;>simp[eqD]at h
 | .mv _,b,h=>by cases b<;>simp[eqD]at h
 | .clo _ _,b,h=>by cases b<;>simp[eqD]at h
 | .mth _ _,b,h=>by cases b<;>simp[eqD]at h
 | .ifc _ _,b,h=>by cases b<;>simp[eqD]at h
theorem qfr:∀ (a b:List D),quP a b=true->a=b
 | [],b,h=>by cases b<;>simp[quP]at h;rfl
 | x::r,b,h=>by
  cases b with
  | nil=>simp[quP]at h
  | cons y l=>
   simp only[quP,Bool.and_eq_true]at h;rw[qtw x y h.1,qfr r l h.2]
end
def eqFields:List (Nat×TypeId)->List (Nat×TypeId)->Bool
 | [],[]=>true
 | (a,b)::r,(c,d)::l=>Nat.beq a c&&Nat.beq b d&&eqFields r l
 | _,_=>false
theorem qfs:∀ (a b:List (Nat×TypeId)),eqFields a b=true->a=b
 | [],[],_=>rfl
 | [],_::_,h=>by simp[eqFields]at h
 | _::_,[],h=>by simp[eqFields]at h
 | (a,b)::r,(c,d)::l,h=>by
  simp only[eqFields,Bool.and_eq_true]at h;rw[Nat.eq_of_beq_eq_true h.1.1,Nat.eq_of_beq_eq_true h.1.2,qfs r l h.2]
def qxR:Kd->Kd->Bool
 | .bool,.bool=>true
 | .int k,.int k'=>decide (k=k')
 | .str,.str=>true
 | .slice e,.slice e'=>Nat.beq e e'
 | .struct fs,.struct gs=>eqFields fs gs
 | .array n e,.array n' e'=>Nat.beq n n'&&Nat.beq e e'
 | .map k e,.map k' e'=>Nat.beq k k'&&Nat.beq e e'
 | .iface,.iface=>true
 | .other,.other=>true
 | _,_=>false
theorem qrw(a b:Kd)(h:qxR a b=true):a=b:=by
 cases a<;>cases b<;>simp only[qxR,Bool.and_eq_true,decide_eq_true_eq]at h<;>first|rfl|(cases h;done)|skip
 ·rw[h]
 ·rw[Nat.eq_of_beq_eq_true h]
 ·rw[qfs _ _ h]
 ·rw[Nat.eq_of_beq_eq_true h.1,Nat.eq_of_beq_eq_true h.2]
 ·rw[Nat.eq_of_beq_eq_true h.1,Nat.eq_of_beq_eq_true h.2]
def eqB:Bool->Bool->Bool
 | true,true=>true
 | false,false=>true
 | _,_=>false
def tyB(P:Program)(t:TypeId)(ti:TyI):Bool:=
 match P.info? t,P.underlying t with
 | some i,some d=>Nat.beq ti.size i.size&&Nat.beq ti.bytes i.bytes&&qxR ti.kd (qfZ d)&&eqB ti.isAgg (qjZ d)&&(match ti.held with
   | true=>true
   | false=>!P.stoodInHeld t&&(match ti.kd with | .int _=>i.comparable|_=>true))&&(match ti.zero with
   | none=>true
   | some z=>match i.zero with
    | some zv=>match zeroCells zv with
     | some z'=>quP z' z&&eqB (qwl zv) ti.isAgg
     | none=>false
    | none=>false)
 | _,_=>false
theorem qtx{P:Program}{t:TypeId}{ti:TyI}(h:tyB P t ti=true):∃ i d,P.info? t=some i/\P.underlying t=some d/\ti.size=i.size/\ti.bytes=i.bytes/\ti.kd=qfZ d/\ti.isAgg=qjZ d /\
  (ti.held=false->P.stoodInHeld t=false /\ ∀ k,ti.kd = .int k->i.comparable=true)/\(∀ z,ti.zero=some z -> ∃ zv,i.zero=some zv/\zeroCells zv=some z/\qwl zv=ti.isAgg):=by
 unfold tyB at h;split at h;case h_2=>cases h
 rename_i i d hi hd;simp only[Bool.and_eq_true]at h;obtain⟨⟨⟨⟨⟨h1,h2⟩,h3⟩,h4⟩,h5⟩,h6⟩:=h;refine⟨i,d,hi,hd,Nat.eq_of_beq_eq_true h1,Nat.eq_of_beq_eq_true h2,qrw _ _ h3,?_,fun hh=>?_,fun z hz=>?_⟩
 ·revert h4;cases ti.isAgg<;>cases qjZ d<;>simp[eqB]
 ·rw[hh]at h5
  simp only[Bool.and_eq_true,Bool.not_eq_true']at h5;refine⟨h5.1,fun k hk=>?_⟩;have:=h5.2;rw[hk]at this;exact this
 ·rw[hz]at h6
  simp only at h6;split at h6;case h_2=>cases h6
  rename_i zv hzv;split at h6;case h_2=>cases h6
  rename_i z' hz';simp only[Bool.and_eq_true]at h6;exact⟨zv,hzv,by rw[hz',qfr _ _ h6.1],by have:=h6.2;revert this;cases qwl zv<;>cases ti.isAgg<;>simp[eqB]⟩
def qxu(P:Program):Tys->Bool
 | .lf=>true
 | .nd l k v r=>qxu P l&&tyB P k v&&qxu P r
theorem qhX{P:Program}:∀ {T:Tys},qxu P T=true->qU P T
 | .lf,_,t,ti,h=>by cases h
 | .nd l k v r,hT,t,ti,h=>by
  simp only[qxu,Bool.and_eq_true]at hT;simp only[Tys.get]at h;split at h
  ·rename_i he
   have:=Nat.eq_of_beq_eq_true he;subst this;cases h;exact qtx hT.1.2
  ·split at h
   ·exact qhX hT.1.1 t ti h
   ·exact qhX hT.2 t ti h
end Go.PX
namespace Go.PX
theorem qe{k:IntKind}{n:Int}{K:V->Prop}(h:k.wrap n=n)(hK:K (.d (.int k n))):arith k n K:=by constructor;rw[h];exact hK
theorem qj{b:Bool}{X Y:Prop}(h:b=true->X)(k:b=false->Y):brk b X Y:=by cases b<;>simp_all[brk]
theorem zx{b:Bool}{K:Prop}(h:b=true)(k:K):chk b K:=by subst h;exact k
theorem qK{es:List (List D)}{i:Int}{K:List D->Prop}(l:List D)(h:0<=i/\es[i.toNat]?=some l)(k:K l):qpj es i K:=by simp[qpj,h.1,h.2,k]
theorem jd{α:Type}{cs:List α}{n:Nat}{K:α->Prop}(v:α)(h:cs[n]?=some v)(k:K v):qhl cs n K:=by simp[qhl,h,k]
theorem qb{n:Int}(h : -9223372036854775808<=n/\n<=9223372036854775807):IntKind.wrap .i64 n=n:=IntWalk.i64_in n h
abbrev i64(n:Int):D:=.int .i64 n
theorem qJ{P:Program}{T:Tys}(hm:P.follows .mixedOrders=true)(hT:qU P T){f:FuncId}{fn:Func}{c:Code}(hf:P.funcs[f]?=some fn)(hb:fn.body=some c){ft:FT}{ds:List D}{r:D}(n:Nat)(hok:fnB ft fn n=true)(hn:ds.length=n)
     (hw:∀ {σ:Type} (Y:Hd σ) (s:σ),wpA P T ft Y c ⟨jn 0 (inj ds),[],s⟩ (fnK T fn.results.toList fun v h' s'=>(v = .d r/\h' = [])/\s'=s)):FnV P f ds r:=by
  intro σ Y s;exact qaT hm hT hf hb (by rw[jl,hn];exact hok) (hw Y.np s)
end Go.PX
namespace Go.PX
open Go.RowKit
def qci(R:Nat->Nat):Heap->Heap
 | []=>[]
 | (k,o)::r=>(R k,qgE R o)::qci R r
def qqz(R:Nat->Nat)(e:Env):Env:=jT (mapId (qlJ R)) e
theorem qdp{R:Nat->Nat}:∀ {h:Heap} {k:Nat} {o:Obj},get (qci R h) k=some o -> ∃ j o1,get h j=some o1/\k=R j/\o=qgE R o1
 | [],k,o,h=>by cases h
 | (j,p)::r,k,o,h=>by
  simp only[qci,get]at h;split at h
  ·rename_i he
   have:=Nat.eq_of_beq_eq_true he;subst this;cases h;exact⟨j,p,by simp[get],rfl,rfl⟩
  ·rename_i he
   obtain⟨j',o1,h1,rfl,rfl⟩:=qdp h;refine⟨j',o1,?_,rfl,rfl⟩;have:Nat.beq j j'=false:=by
    rw[Bool.eq_false_iff];intro e;have:=Nat.eq_of_beq_eq_true e;subst this;simp at he
   simp[get,this,h1]
section
variable {σ : Type} {cx : Cx σ} {L L' : Loc} {F : Nat -> Nat} {s : σ} {w : World} {R : Nat -> Nat}
theorem HeapOk.ren{h:Heap}(hh:HeapOk cx L F h s w)(hn:∀ i∈zz h,L'.ρ (R i)=L.ρ i/\L'.κ (R i)=L.κ i):HeapOk cx L' F (qci R h) s w:=by
 refine⟨hh.hg,hh.csz,hh.fresh,fun k o hk=>?_,fun k o hk hb=>?_,fun k l o p hk hl hbk hbl e=>?_⟩
 ·obtain⟨j,o1,h1,rfl,rfl⟩:=qdp hk
  obtain⟨n1,n2⟩:=qH h1;exact(RepO.ren (R:=R) (L:=L) (L':=L') j o1 (fun i hi=>hn i (n2 i (jz i o1 hi))) (hn j n1)).2 (hh.obj j o1 h1)
 ·obtain⟨j,o1,h1,rfl,rfl⟩:=qdp hk
  obtain⟨n1,n2⟩:=qH h1;rw[(hn j n1).1];exact hh.own j o1 h1 ((zm (R:=R) (L:=L) (L':=L') j o1 (hn j n1).2).1 hb)
 ·obtain⟨j,o1,h1,rfl,rfl⟩:=qdp hk
  obtain⟨i,o2,h2,rfl,rfl⟩:=qdp hl;obtain⟨n1,_⟩:=qH h1;obtain⟨n2,_⟩:=qH h2;rw[(hn j n1).1,(hn i n2).1]at e;rw[hh.inj j i o1 o2 h1 h2 ((zm (R:=R) (L:=L) (L':=L') j o1 (hn j n1).2).1 hbk) ((zm (R:=R) (L:=L) (L':=L') i o2 (hn i n2).2).1 hbl) e]
def qaM:Env->List Nat
 | []=>[]
 | (_,v)::r=>zq v++qaM r
theorem qbl:∀ {e:Env} {t:Nat} {v:V} {i:Nat},get e t=some v->qbz v i->i∈qaM e
 | [],t,v,i,h,_=>by cases h
 | (k,u)::r,t,v,i,h,hi=>by
  simp only[get]at h;split at h
  ·cases h
   exact List.mem_append.2 (.inl (qaZ i _ hi))
  ·exact List.mem_append.2 (.inr (qbl h hi))
end
def idx:List Nat->Nat->Nat->Option Nat
 | [],_,_=>none
 | k::r,n,i=>match Nat.beq k i with
  | true=>some n
  | false=>idx r (n+1) i
def upR(c:Nat)(tb:List Nat)(i:Nat):Nat:=
 match idx tb c i with
 | some k=>k
 | none=>i
def dnR(c:Nat)(tb:List Nat)(j:Nat):Nat:=
 match Nat.ble c j with
 | true=>match tb[j-c]? with
  | some i=>i
  | none=>j
 | false=>j
theorem qks:∀ {tb:List Nat} {n i k:Nat},idx tb n i=some k->n<=k/\tb[k-n]?=some i
 | [],n,i,k,h=>by cases h
 | t::r,n,i,k,h=>by
  simp only[idx]at h;split at h
  ·rename_i he
   have:=Nat.eq_of_beq_eq_true he;subst this;cases h;exact⟨Nat.le_refl _,by simp⟩
  ·obtain⟨h1,h2⟩:=qks h
   refine⟨by omega,?_⟩;have:k-n=(k-(n+1))+1:=by omega
   rw[this,List.getElem?_cons_succ];exact h2
theorem qoD:∀ {tb:List Nat} {n i:Nat},idx tb n i=none->i∉tb
 | [],n,i,h=>by simp
 | t::r,n,i,h=>by
  simp only[idx]at h;split at h
  ·cases h
  ·rename_i he
   intro hm;rcases List.mem_cons.1 hm with rfl|hm
   ·simp at he
   ·exact qoD h hm
theorem Tr.ctl{F:Nat->Nat}{w:World}{b:Nat}{o o':Go.Obj}(h:w.heap[b]?=some o)(hc:∀ c T x,o ≠ .cells c T x)(hm:∀ e c,o ≠ .map e c)(hc':∀ c T x,o' ≠ .cells c T x):Tr F w F (w.putObj b o'):=by
 have hk:∀ x,x≠b->(w.putObj b o').heap[x]?=w.heap[x]?:=fun x hx=>World.putObj_heap_other hx;refine⟨rfl,rfl,rfl,by simp,fun _=>Nat.le_refl _,fun x i hx=>?_,fun x en c hx hm'=>?_⟩
 ·by_cases he:x=b
  ·subst he
   have h1:=World.putObj_heap_same (w:=w) (o:=o') (za h);have k1:w.cell? ⟨x,i,none⟩=none:=by
    simp only[World.cell?,h];cases o<;>first|rfl|exact absurd rfl (hc _ _ _)
   have k2:(w.putObj x o').cell? ⟨x,i,none⟩=none:=by
    simp only[World.cell?,h1];cases o'<;>first|rfl|exact absurd rfl (hc' _ _ _)
   rw[k1,k2]
  ·exact qbN (hk x he)
 ·by_cases he:x=b
  ·subst he;rw[h]at hm';cases hm';exact absurd rfl (hm _ _)
  ·rw[hk x he];exact hm'
theorem RepO.not_ctl{yv:Option Nat}{L:Loc}{F:Nat->Nat}{w:World}{id:Nat}{o:Obj}(h:RepO yv L F w id o)(hb:Backed L id o){x:Go.Obj}(hx:w.heap[L.ρ id]?=some x):(∀ lp,x ≠ .loop lp)/\(∀ d,x ≠ .deferred d):=by
 cases o with
 | box c=>obtain⟨c',T,hc,_⟩:=h;rw[hc]at hx;cases hx;exact⟨fun _ h=>(by cases h),fun _ h=>(by cases h)⟩
 | arr sz es=>
  obtain⟨_,_,h⟩:=h;rcases h with⟨_,hk⟩|⟨c,T,hc,_⟩
  ·exact absurd hk hb
  ·rw[hc]at hx;cases hx;exact⟨fun _ h=>(by cases h),fun _ h=>(by cases h)⟩
 | map kvs=>obtain⟨en,c,hc,_⟩:=h;rw[hc]at hx;cases hx;exact⟨fun _ h=>(by cases h),fun _ h=>(by cases h)⟩
 | iter s n=>
  have hc:w.heap[L.ρ id]?=_:=h;rw[hc]at hx;cases hx;exact⟨fun _ h=>(by cases h),fun _ h=>(by cases h)⟩
 | buf t s=>obtain⟨_,hc,_⟩:=h;rw[hc]at hx;cases hx;exact⟨fun _ h=>(by cases h),fun _ h=>(by cases h)⟩
 | tb t l=>obtain⟨_,hc,_⟩:=h;rw[hc]at hx;cases hx;exact⟨fun _ h=>(by cases h),fun _ h=>(by cases h)⟩
 | mit v n l u=>obtain⟨_,_,_,hc,_⟩:=h;rw[hc]at hx;cases hx;exact⟨fun _ h=>(by cases h),fun _ h=>(by cases h)⟩
theorem HeapOk.keep{σ:Type}{cx:Cx σ}{L:Loc}{F F':Nat->Nat}{h:Heap}{s:σ}{w w':World}(hh:HeapOk cx L F h s w)(tr:Tr F w F' w')(hf:∀ b,w'.heap.size<=b->F' b=0)
  (hC:∀ b,cx.C s b->w'.heap[b]?=w.heap[b]?/\F' b=F b) (ho:∀ id o,get h id=some o->Backed L id o->w'.heap[L.ρ id]?=w.heap[L.ρ id]?/\F' (L.ρ id)=F (L.ρ id)):HeapOk cx L F' h s w':=by
 refine⟨cx.stable hh.hg tr hf hC,fun b hb=>Nat.lt_of_lt_of_le (hh.csz b hb) tr.size,hf,fun id o hi=>?_,fun id o hi hb=>?_,hh.inj⟩
 ·exact RepO.mono tr id o (fun _ _=>⟨rfl,rfl⟩) ⟨rfl,rfl⟩ (fun hb=>(ho id o hi hb).1) (hh.obj id o hi)
 ·rw[(ho id o hi hb).2];exact hh.own id o hi hb
end Go.PX
