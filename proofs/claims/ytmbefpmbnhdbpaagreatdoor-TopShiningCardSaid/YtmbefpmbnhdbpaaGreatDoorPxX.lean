import Derived.Test.YtmbefpmbnhdbpaaGreatDoorPxW
set_option linter.all false
set_option maxRecDepth 10000
namespace Go.PX
open Go.Proofs
open Go.RowKit
theorem X2(l:aN):bq Tryz.prog 5 [l.d] (.tup [i64 (gf l).1,i64 (gf l).2.1,i64 (bC l)]):=abF l
theorem XA(c:bG):bq Tryz.prog 15 [c.d] (.tup [i64 (bN c).1,i64 (bN c).2.1,i64 (bN c).2.2]):=abf c
theorem RA{N:Int}(hN:0<N)(n:Int):(n.tmod N+N).tmod N=n%N:=by
 have h1 : -N<n.tmod N:=Int.lt_tmod_of_pos n hN;rw[Int.tmod_eq_emod_of_nonneg (by omega),Int.tmod_def,show n-N*n.tdiv N+N=n+N*(1-n.tdiv N) from by rw[Int.mul_sub];omega,Int.add_mul_emod_self_left]
theorem xq{N lo hi u:Int}(hN:0<N)(h1:lo<=u)(h2:u<=hi){P:Int->Prop}(h:∀ n,lo<=n->n<=hi->n<=lo+N->P (n%N)):P (u%N):=by
 have a1:=Int.emod_nonneg (u-lo) (show N≠0 by omega);have a2:=Int.emod_lt_of_pos (u-lo) hN;have a3:(u-lo)%N<=u-lo:=by
  have h3:=Int.mul_nonneg (show 0<=N by omega) (Int.ediv_nonneg (show 0<=u-lo by omega) (show 0<=N by omega));rw[Int.emod_def];omega
 have e:(lo+(u-lo)%N)%N=u%N:=by
  rw[Int.add_emod_emod,show lo+(u-lo)=u by omega]
 rw[<- e];exact h _ (by omega) (by omega) (by omega)
set_option maxHeartbeats 8000000 in
theorem te4(l:aN)(c:bG)(v x y:List Int)(w1 w2 g:Int)(hv:∀ b∈v,0<=b/\b<=255)(hx:Uj x)(hy:Uj y)(Dc:0<=w1/\w1<=255)(E9:0<=w2/\w2<=255):bq Tryz.prog 4 [l.d,c.d,.agg [lj v,db x,db y,.int .u8 w1,.int .u8 w2,.int .u8 g]] (.bool true):=by
 have h5:=fun {σ}=>@X2 l σ;have h6:=fun {σ}=>@XA c σ;rcases Classical.em (bC l=0/\(bN c).2.2=0) with hc|hc
 case inr=>
  generalize gf l=P at h5;generalize bC l=N at h5 hc;generalize bN c=M at h6 hc;show bq Tryz.prog 4 [l.d,c.d,.agg [lj v,db x,db y,.int .u8 w1,.int .u8 w2,.int .u8 g]] _;refine aY Tryz.func4 rfl (ft:=ft4) 3 fun {σ} Y st=>?_;conv=>whnf
  refine af (ds:=[l.d]) h5 rfl rfl ?_;conv=>whnf
  refine af (ds:=[c.d]) h6 rfl rfl ?_;conv=>whnf
  refine ag (fun h1=>?_) (fun h1=>?_)
  ·conv=>whnf
   refine af (Kl) rfl rfl ?_;conv=>whnf
   conv=>whnf
   refine af (KQ) rfl rfl ?_;conv=>whnf
   exact ai
  ·conv=>whnf
   refine ag (fun h2=>?_) (fun h2=>?_)
   ·conv=>whnf
    refine af (Kl) rfl rfl ?_;conv=>whnf
    conv=>whnf
    refine af (KQ) rfl rfl ?_;conv=>whnf
    exact ai
   ·exact absurd ⟨by simpa using h1,by simpa using h2⟩ hc
 obtain⟨wS,ou⟩:=hc;have h9:bq Tryz.prog 9 [l.d,db x,db y] (.tup [(⟨l.near,(oN l x y).an⟩:aN).d,.vs ((oN l x y).times.map fun r=>[aV r]),.vs ((oN l x y).lU.map fun r=>[aV r])]):=abN l wS x y hx hy;have hO:=Ue wS (x:=x) (y:=y) fun n hn=>(hy n hn).1;have hR:=ed ou;have hT:=K7 hR hv;have h17:bq Tryz.prog 17 [c.d,lj v] (rB c v).d:=abm c hR v hv;generalize rB c v=t at hT h17;have h18:bq Tryz.prog 18 [c.d,t.d,.int .u8 0] (oM c t).d:=abn c hR t hT;have nV:=H2 ou hT;have TA:(bN (oM c t)).2.2=0:=by rw[Az];exact ou
 have TB:(oM c t).aB.night=c.aB.night:=rfl;have h20:bq Tryz.prog 20 [c.aB.d,aV c.az,t.d] (dj (bX c.aB c.az t)):=XF c.aB c.az t (Ls.of hR hT);have hL:=(nA (w:=c.az) (t:=t) hR.aB).2.2;have hn:=hR.aB.night;generalize bX c.aB c.az t=L at nV h20 hL;generalize oM c t=z at nV TA TB h18;have tJ:=fun(s:Int) hs=>R5 TA (s:=s) hs nV;have h19:=fun {σ} (s:Int)=>@TG z s σ;rw[TB]at tJ;rw[wS]at h5;rw[ou]at h6;generalize oN l x y=Z at hO h9;have hZR:=fI hO.check;have hZl:=hZR.an;have xV:=hO.R.bl;have Kb:=hO.R.tl;have hZe:∀ b∈Z.an,b.ar.length<=8:=fun b hb=>(hZR.book b hb).ar;have Wl:=hO.R.book;have WE:=fun {i k:Nat} {T:List Int} {u:Int}=>@pR.inst l Z hO i k T u;have Pp:=fun {i k:Nat} {T:List Int} {u:Int}=>@pR.Zb l Z hO i k T u;have YG:=fun {σ}=>@ab6 ⟨l.near,Z.an⟩ w1 w2 hZl hZe Dc E9 σ;have Wf:(yL ⟨l.near,Z.an⟩ w1 w2).2=true -> ∃ (i k:Nat) (b:au) (T:List Int) (u:Int),(yL ⟨l.near,Z.an⟩ w1 w2).1=⟨i,k⟩/\Z.times[i]?=some T/\T[k]?=some u:=by
  have dh:w1.toNat%Z.an.length<Z.an.length:=Nat.mod_lt _ (by have:1<=Z.an.length:=hZl.1;omega);have hg:=List.getElem?_eq_getElem dh;generalize Z.an[w1.toNat%Z.an.length]=b at hg;obtain⟨b0,T,O,_,_,_,_,hT,_,hBT,_⟩:=Wl _ b hg;unfold yL;simp only[hg];intro h;by_cases h0:b.ar.length=0
  ·rw[if_pos h0]at h;cases h
  ·rw[if_neg h0]
   have hk:w2.toNat%b.ar.length<T.length:=by rw[hBT.tl];exact Nat.mod_lt _ (by omega)
   exact⟨_,_,b,T,T[w2.toNat%b.ar.length],rfl,hT,List.getElem?_eq_getElem hk⟩
 clear hO;generalize yL ⟨l.near,Z.an⟩ w1 w2=E at YG Wf;obtain⟨at0,is⟩:=E;have Ul:=fun {σ}=>@Qe ⟨l.near,Z.an⟩ at0 σ;show bq Tryz.prog 4 [l.d,c.d,.agg [lj v,db x,db y,.int .u8 w1,.int .u8 w2,.int .u8 g]] _;refine aY Tryz.func4 rfl (ft:=ft4) 3 fun {σ} Y st=>?_;conv=>whnf
 refine af (ds:=[l.d]) h5 rfl rfl ?_;conv=>whnf
 refine af (ds:=[c.d]) h6 rfl rfl ?_;conv=>whnf
 refine af (ds:=[l.d,db x,db y]) h9 rfl rfl ?_;conv=>whnf
 refine af (ds:=[(⟨l.near,Z.an⟩:aN).d,.agg [.int .u8 w1,.int .u8 w2]]) YG rfl rfl ?_
 cases is with
 | false=>
  conv=>whnf
  refine af (Kl) rfl rfl ?_;conv=>whnf
  conv=>whnf
  refine af (KQ) rfl rfl ?_;conv=>whnf
  exact ai
 | true=>
  conv=>whnf
  obtain⟨i,k,b,T,u,he,hT,hu⟩:=Wf rfl;simp only at he;subst he;obtain⟨g1,g2,g3⟩:=WE hT hu;obtain⟨g4,g5⟩:=Pp hT hu;have Ul:bq Tryz.prog 12 [(⟨l.near,Z.an⟩:aN).d,dt.d ⟨i,k⟩] (.tup [(iV ⟨l.near,Z.an⟩ ⟨i,k⟩).d,i64 0]):=bq.cast Ul (by rw[g1]);generalize iV ⟨l.near,Z.an⟩ ⟨i,k⟩=s at g2 g3 g4 g5 Ul;refine af (ds:=[c.d,lj v]) h17 rfl rfl ?_;conv=>whnf
  refine af (ds:=[c.d,t.d,.int .u8 0]) h18 rfl rfl ?_;conv=>whnf
  refine af (ds:=[(⟨l.near,Z.an⟩:aN).d,dt.d ⟨i,k⟩]) Ul rfl rfl ?_;conv=>whnf
  refine aG hT ?_;conv=>whnf
  refine aG hu ?_;conv=>whnf
  refine ag (fun h=>absurd h (by simp;omega)) (fun _=>?_);conv=>whnf
  refine ag (fun h=>absurd h (by simp;omega)) (fun _=>?_);conv=>whnf
  have hmd:∀ n:Int,-c.aB.night<n.tmod c.aB.night/\n.tmod c.aB.night<c.aB.night:=fun n=>⟨Int.lt_tmod_of_pos n (by omega),Int.tmod_lt_of_pos n (by omega)⟩;have aaI:((min s.hi (s.lo+c.aB.night)-s.lo+1).toNat:Int)=min s.hi (s.lo+c.aB.night)-s.lo+1:=by omega
  generalize (min s.hi (s.lo+c.aB.night)-s.lo+1).toNat=M at aaI;refine bB (T:=tys) av (by exact aj mixed av (by decide +kernel)) (List.range M) (fun q (a:Bool×Bool)=>⟨[(4,.ptr 4 0),(18,.ptr 18 0),(19,.ptr 19 0),(20,.ptr 20 0),(21,.d (i64 u)),(22,.d (i64 c.aB.night)),(23,.d (.bool a.1)),(24,.d (.bool a.2)),(25,.d (i64 (s.lo+(q:Int))))],[(20,.box (.dd [i64 s.lo,i64 s.hi])),(19,.box (.dd z.cells)),(18,.box (.dd t.cells)),(4,.box (.dd c.cells))],st⟩)
   (fun q _ a=>(a.1=true -> ∀ j:Nat,j<q->wJ z ((s.lo+j)%c.aB.night)=1)/\(a.2=true -> ∀ j:Nat,j<q->wJ z ((s.lo+j)%c.aB.night)=0)) (true,true) ?wk ⟨fun _ j h=>absurd h (by omega),fun _ j h=>absurd h (by omega)⟩ ?_ ?_
  case wk=>exact aw
  ·rintro q y acf ⟨al,da⟩ hy hq D7 ⟨AV,SN⟩
   rw[List.length_range]at hq;simp only at AV SN;conv=>whnf
   refine ao (s.lo+c.aB.night) rfl (wrap_i64 (by omega)) ?_;conv=>whnf
   refine ag (fun _=>?_) (fun h=>absurd (of_decide_eq_false h) (by omega));conv=>whnf
   refine aM (decide_eq_true (by omega)) ?_;conv=>whnf
   refine ao ((s.lo+(q:Int)).tmod c.aB.night+c.aB.night) rfl (wrap_i64 (by have:=hmd (s.lo+(q:Int));omega)) ?_;conv=>whnf
   refine aM (decide_eq_true (by omega)) ?_;conv=>whnf
   rw[RA hn.1 (s.lo+(q:Int))];refine ax (ds:=[z.d,i64 ((s.lo+(q:Int))%c.aB.night)]) (h19 ((s.lo+(q:Int))%c.aB.night)) rfl rfl ?_;conv=>whnf
   obtain⟨ha1,_,_⟩:=tJ ((s.lo+(q:Int))%c.aB.night) ⟨Int.emod_nonneg _ (by omega),Int.emod_lt_of_pos _ hn.1⟩;rw[ha1];obtain⟨d1,Wt⟩:∃ d,decide (wJ z ((s.lo+(q:Int))%c.aB.night)=1)=d:=⟨_,rfl⟩;obtain⟨d0,YT⟩:∃ d,decide (wJ z ((s.lo+(q:Int))%c.aB.night)=0)=d:=⟨_,rfl⟩;have A1:((al&&d1)=true -> ∀ j:Nat,j<q+1->wJ z ((s.lo+j)%c.aB.night)=1)/\((da&&d0)=true -> ∀ j:Nat,j<q+1->wJ z ((s.lo+j)%c.aB.night)=0):=by
    constructor
    ·intro h j hj
     rw[Bool.and_eq_true]at h;by_cases hjq:j=q
     ·subst hjq
      rw[h.2]at Wt;exact of_decide_eq_true Wt
     ·exact AV h.1 j (by omega)
    ·intro h j hj
     rw[Bool.and_eq_true]at h;by_cases hjq:j=q
     ·subst hjq
      rw[h.2]at YT;exact of_decide_eq_true YT
     ·exact SN h.1 j (by omega)
   clear AV SN
   cases al with
   | false=>
    cases da with
    | false=>
     conv=>whnf
     refine ao (s.lo+((q+1:Nat):Int)) (by omega) (wrap_i64 (by omega)) ?_;conv=>whnf
     refine⟨(_,_),A1,aw⟩
    | true=>
     conv=>whnf
     rw[YT];conv=>whnf
     refine ao (s.lo+((q+1:Nat):Int)) (by omega) (wrap_i64 (by omega)) ?_;conv=>whnf
     refine⟨(_,_),A1,aw⟩
   | true=>
    cases da with
    | false=>
     conv=>whnf
     rw[Wt];conv=>whnf
     refine ao (s.lo+((q+1:Nat):Int)) (by omega) (wrap_i64 (by omega)) ?_;conv=>whnf
     refine⟨(_,_),A1,aw⟩
    | true=>
     conv=>whnf
     rw[Wt];conv=>whnf
     rw[YT];conv=>whnf
     refine ao (s.lo+((q+1:Nat):Int)) (by omega) (wrap_i64 (by omega)) ?_;conv=>whnf
     refine⟨(_,_),A1,aw⟩
  ·rintro ⟨al,da⟩ ⟨AV,SN⟩
   rw[List.length_range]at AV SN ⊢;simp only at AV SN;conv=>whnf
   refine ao (s.lo+c.aB.night) rfl (wrap_i64 (by omega)) ?_;conv=>whnf
   refine ag (fun h=>absurd (of_decide_eq_true h) (by omega)) (fun _=>?_);conv=>whnf
   refine af (ds:=[c.aB.d,aV c.az,t.d]) h20 rfl rfl ?_;conv=>whnf
   refine aM (decide_eq_true (by omega)) ?_;conv=>whnf
   refine ao (u.tmod c.aB.night+c.aB.night) rfl (wrap_i64 (by have:=hmd u;omega)) ?_;conv=>whnf
   refine aM (decide_eq_true (by omega)) ?_;conv=>whnf
   rw[RA hn.1 u];have hw:=Int.emod_nonneg u (show c.aB.night≠0 by omega);have E9:=Int.emod_lt_of_pos u hn.1;have dh:(u%c.aB.night).toNat<L.length:=by omega
   have hP1:al=true->L.getD (u%c.aB.night).toNat false=true:=fun h=>xq (P:=fun m=>L.getD m.toNat false=true) hn.1 g2 g3 fun n h1 h2 h3=>
    (tJ (n%c.aB.night) ⟨Int.emod_nonneg _ (by omega),Int.emod_lt_of_pos _ hn.1⟩).2.2.1 (by
     have:=AV h (n-s.lo).toNat (by omega)
     rwa [show s.lo+((n-s.lo).toNat:Int)=n by omega]at this) _ nV
   have hP0:da=true->L.getD (u%c.aB.night).toNat false=false:=fun h=>xq (P:=fun m=>L.getD m.toNat false=false) hn.1 g2 g3 fun n h1 h2 h3=>
    (tJ (n%c.aB.night) ⟨Int.emod_nonneg _ (by omega),Int.emod_lt_of_pos _ hn.1⟩).2.2.2.1 (by
     have:=SN h (n-s.lo).toNat (by omega)
     rwa [show s.lo+((n-s.lo).toNat:Int)=n by omega]at this) _ nV
   obtain⟨b1,nW⟩:∃ b,L[(u%c.aB.night).toNat]?=some b:=⟨_,List.getElem?_eq_getElem dh⟩;rw[List.getD_eq_getElem?_getD,nW]at hP1 hP0;refine aU [.bool b1] ⟨hw,by simp[nW]⟩ ?_
   cases al with
   | false=>
    cases da with
    | false=>
     conv=>whnf
     refine af (Kl) rfl rfl ?_;conv=>whnf
     conv=>whnf
     refine af (KQ) rfl rfl ?_;conv=>whnf
     exact ai
    | true=>
     have nr:b1=false:=hP0 rfl;subst nr;conv=>whnf
     refine af (Kl) rfl rfl ?_;conv=>whnf
     conv=>whnf
     refine af (KQ) rfl rfl ?_;conv=>whnf
     exact ai
   | true=>
    have nr:b1=true:=hP1 rfl;subst nr
    cases da with
    | false=>
     conv=>whnf
     refine af (Kl) rfl rfl ?_;conv=>whnf
     conv=>whnf
     refine af (KQ) rfl rfl ?_;conv=>whnf
     exact ai
    | true=>exact absurd (hP0 rfl) (by simp)
end Go.PX
