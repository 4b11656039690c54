import Derived.Test.YtdadolcglibjdaaGreatPxO
import Derived.Test.YtdadolcglibjdaaGreatPxN
import Derived.Test.YtdadolcglibjdaaGreatPxM
set_option linter.all false
set_option maxRecDepth 10000
namespace Go.PX
open Go.Proofs
def Gn(f:Fix)(x:Int):List Pt:=(FC (2*f.half+1).toNat (-f.half)).map fun y=>⟨x*f.step,y*f.step⟩
def zH(f:Fix)(k:Nat)(x:Int):List Pt:=(FC k x).flatMap (Gn f)
def nW(f:Fix):List Pt:=zH f (2*f.half+1).toNat (-f.half)
def SN(p:Pt):List V×aq:=([.d p.d],[])
theorem Gp(f:Fix)(x:Int):(Gn f x).length=(2*f.half+1).toNat:=by unfold Gn;rw[List.length_map,El]
theorem Bx(f:Fix):∀ (k:Nat) (x:Int),(zH f k x).length=k*(2*f.half+1).toNat
 | 0,x=>by simp[zH,FC]
 | k+1,x=>by
  have:=Bx f k (x+1);unfold zH at this ⊢;rw[FC,List.flatMap_cons,List.length_append,this,Gp,Nat.add_mul,Nat.one_mul];omega
theorem oT{f:Fix}(hf:jh f):(nW f).length<=289:=by
 unfold nW;rw[Bx];have:=hf.DJ;have e1:(2*f.half+1).toNat<=17:=by omega
 exact Nat.mul_le_mul e1 e1
theorem Be:∀ {k:Nat} {v x:Int},x∈FC k v↔v<=x/\x<v+k
 | 0,v,x=>by
  constructor
  ·intro h;cases h
  ·intro h;omega
 | k+1,v,x=>by
  rw[FC,List.mem_cons,Be];omega
theorem Bd{f:Fix}(hf:jh f){p:Pt}:p∈nW f ↔ ∃ a b:Int,(-f.half<=a/\a<=f.half)/\(-f.half<=b/\b<=f.half)/\p=⟨a*f.step,b*f.step⟩:=by
 have:=hf.DI;unfold nW zH Gn;simp only[List.mem_flatMap,List.mem_map,Be];constructor
 ·rintro ⟨x,hx,y,hy,rfl⟩
  exact⟨x,y,by omega,by omega,rfl⟩
 ·rintro ⟨a,b,ha,hb,rfl⟩
  exact⟨a,by omega,b,by omega,rfl⟩
theorem zu{f:Fix}(hf:jh f){a:Int}(h : -f.half<=a/\a<=f.half) : -4000<=a*f.step/\a*f.step<=4000:=by
 have:=hf.DJ;have:=hf.step1;have:=hf.step2;have h1 : -8<=a/\a<=8:=by omega
 constructor
 ·have h2:(-a)*f.step<=8*500:=Int.mul_le_mul (by omega) (by omega) (by omega) (by omega)
  rw[Int.neg_mul]at h2;omega
 ·have:a*f.step<=8*500:=Int.mul_le_mul h1.2 (by omega) (by omega) (by omega)
  omega
theorem u4{f:Fix}(hf:jh f){p:Pt}(hp:p∈nW f):jZ 4000 p:=by
 obtain⟨a,b,ha,hb,rfl⟩:=(Bd hf).1 hp;exact⟨zu hf ha,zu hf hb⟩
def GK:FT:=⟨GJ.ks,cut GJ.tb 6⟩
def R8:RT:=match get GJ.tb 6 with
 | some r=>r
 | none=>⟨[],[]⟩
set_option maxHeartbeats 1000000 in
theorem yx(f:Fix)(l:List aC)(hf:jh f):Yields Tryz.prog 137 [.ref [.ref (tU f l)]] ((nW f).map SN):=by
 intro γ Y g0 Q fD;have h1:=hf.DI;have h2:=hf.DJ;have h3:=hf.step1;have h4:=hf.step2;refine cX mixed ao Tryz.func137 rfl (ft:=GK) (args:=[.yld,.d (.ref [.ref (tU f l)])]) (show qC GK Tryz.f137 2=true from by decide +kernel) ?_;replace fD:=fD.np;generalize Y.np=Y at fD ⊢;conv=>whnf
 refine af ?_;conv=>whnf
 refine bP (T:=tys) ao (by exact ai mixed ao (by decide +kernel)) (α:=Nat×γ)
  (fun z=>⟨[(0,.yld),(1,.d (.ref [.ref (tU f l)])),(3,.d (i64 (-f.half+z.1)))],[],z.2⟩)
  (fun z=>z.1<=(2*f.half+1).toNat/\iterate Y ((zH f ((2*f.half+1).toNat-z.1) (-f.half+z.1)).map SN) z.2 Q) (fun z=>(2*f.half+1).toNat-z.1) (0,g0) ?wk ⟨by simp,by simpa[nW]using fD⟩ ?_
 case wk=>exact Wk.sub ⟨rfl,rfl,congrArg (fun z=>some (V.d (i64 z))) (by simp),trivial⟩ trivial
 clear fD g0;rintro ⟨i,g0⟩ ⟨hi,fD⟩;simp only at hi fD;conv=>whnf
 refine ag (fun h5=>?_) (fun h5=>?_)
 ·have h5 : -f.half+(i:Int)<=f.half:=of_decide_eq_true h5
  obtain⟨m,hm⟩:∃ m,(2*f.half+1).toNat-i=m+1:=⟨(2*f.half).toNat-i,by omega⟩;have zi:(2*f.half+1).toNat-(i+1)=m:=by omega
  rw[hm,zH,FC,List.flatMap_cons,List.map_append]at fD;conv=>whnf
  refine af ?_;conv=>whnf
  refine bP (T:=tys) ao (by exact ai mixed ao (by decide +kernel)) (α:=Nat×γ)
   (fun z=>⟨[(0,.yld),(1,.d (.ref [.ref (tU f l)])),(3,.d (i64 (-f.half+i))),(4,.d (i64 (-f.half+z.1)))],[],z.2⟩)
   (fun z=>z.1<=(2*f.half+1).toNat/\iterate Y ((((FC ((2*f.half+1).toNat-z.1) (-f.half+z.1)).map fun y=>(⟨(-f.half+i)*f.step,y*f.step⟩:Pt)).map SN)++((zH f m (-f.half+(i+1:Nat))).map SN)) z.2 Q) (fun z=>(2*f.half+1).toNat-z.1) (0,g0) ?wk2 ⟨by simp,by simpa[Gn,zH,Int.add_assoc]using fD⟩ ?_
  case wk2=>exact Wk.sub ⟨rfl,rfl,rfl,congrArg (fun z=>some (V.d (i64 z))) (by simp),trivial⟩ trivial
  clear fD;rintro ⟨j,g1⟩ ⟨hj,fD⟩;simp only at hj fD;conv=>whnf
  refine ag (fun h6=>?_) (fun h6=>?_)
  ·have h6 : -f.half+(j:Int)<=f.half:=of_decide_eq_true h6
   obtain⟨k,hk⟩:∃ k,(2*f.half+1).toNat-j=k+1:=⟨(2*f.half).toNat-j,by omega⟩;have iQ:(2*f.half+1).toNat-(j+1)=k:=by omega
   rw[hk,FC,List.map_cons,List.map_cons,List.cons_append]at fD;conv=>whnf
   refine sV mixed ao R8 16 (by decide +kernel) (by decide +kernel) ?_;conv=>whnf
   have b1:=zu hf (a:=-f.half+(i:Int)) (by omega);have b2:=zu hf (a:=-f.half+(j:Int)) (by omega);refine af ?_;conv=>whnf
   refine nK (wrap_i64 (by show _<=(-f.half+(j:Int))*f.step/\(-f.half+(j:Int))*f.step<=_;omega)) ?_;conv=>whnf
   refine uF (ds:=[Pt.d ⟨(-f.half+(i:Int))*f.step,(-f.half+(j:Int))*f.step⟩]) fD rfl rfl (fun s' G4=>?_) (fun s' DR=>?_)
   ·conv=>whnf
    refine af ?_;conv=>whnf
    exact⟨(j+1,s'),by simp only;omega,⟨by simp only;omega,by simp only;rw[iQ,show(-f.half+((j+1:Nat):Int)) = -f.half+j+1 by omega];exact G4⟩,Wk.sub ⟨rfl,rfl,rfl,congrArg (fun z=>some (V.d (i64 z))) (by simp only;omega),trivial⟩ trivial⟩
   ·conv=>whnf
    exact an 0 rfl ⟨rfl,DR⟩
  ·have h6:¬ -f.half+(j:Int)<=f.half:=of_decide_eq_false h6
   rw[show(2*f.half+1).toNat-j=0 by omega,FC]at fD;conv=>whnf
   refine af ?_;conv=>whnf
   exact⟨(i+1,g1),by simp only;omega,⟨by simp only;omega,by simp only;rw[zi];exact fD⟩,Wk.sub ⟨rfl,rfl,congrArg (fun z=>some (V.d (i64 z))) (by simp only;omega),trivial⟩ trivial⟩
 ·have h5:¬ -f.half+(i:Int)<=f.half:=of_decide_eq_false h5
  rw[show(2*f.half+1).toNat-i=0 by omega]at fD;conv=>whnf
  exact an 0 rfl ⟨rfl,fD⟩
theorem yI{p:Nat->Bool}:∀ {l:List Nat},(∀ i∈l,p i=true)->tI p l=true
 | [],_=>rfl
 | k::r,h=>by
  simp only[tI,Bool.and_eq_true];exact⟨h k (by simp),yI fun i hi=>h i (by simp[hi])⟩
theorem jb:∀ (a b:aq),bk (a++b)=bk a++bk b
 | [],_=>rfl
 | (i,o)::r,b=>by
  show i::(eE o++bk (r++b))=i::(eE o++bk r)++bk b;rw[jb r b];simp
theorem zt{f:Fix}{l:List aC}{n:Nat}{M:bM}{i:Nat}(h:i∈bk (kP f l n M)):i=1000000\/i=1000001:=by
 have h:i∈1000000::(bU (bh f l n 1000000 1000001) ++ [1000001]):=h;rcases List.mem_cons.1 h with rfl|h
 ·exact .inl rfl
 rcases List.mem_append.1 h with h|h
 ·exact og h
 ·exact .inr (List.mem_singleton.1 h)
theorem rG(R:Nat->Nat):∀ (a b:aq),df R (a++b)=df R a++df R b
 | [],_=>rfl
 | (i,o)::r,b=>by show(R i,iD R o)::df R (r++b)=_;rw[rG R r b];rfl
theorem zE(R:Nat->Nat)(h0:R 1000000=1000000)(h1:R 1000001=1000001)(f:Fix)(l:List aC)(n:Nat)(M:bM):df R (kP f l n M)=kP f l n M:=by
 show [(R 1000000,iD R (.fz (bh f l n 1000000 1000001))),(R 1000001,cn M)]=_;rw[fm,h0,h1];rfl
theorem qu{c2:Nat}{tb:List Nat}{own:aq}{f:Fix}{l:List aC}{n:Nat}{M:bM}(h0:Fb c2 tb own=true)(h1:(!aV c2 64 1000000 && !tQ tb 1000000)=true)(h2:(!aV c2 64 1000001 && !tQ tb 1000001)=true):Fb c2 tb (own++kP f l n M)=true:=by
 unfold Fb at h0 ⊢;rw[jb];refine yI fun i hi=>?_;rcases List.mem_append.1 hi with hi|hi
 ·exact dW h0 i hi
 ·rcases zt hi with rfl|rfl
  ·exact h1
  ·exact h2
section
variable {P : Program} {T : dV} {ft : FT} {α σ : Type} {Y : Hd σ}
theorem xc(hT:bl P T){g:Operand}{ps:Array Tmp}{a b:Code}(I8:cy P T ft a)(I9:cy P T ft b){fc:FuncId}{aL:List D}{e:Env}{own:aq}{f:Fix}{l:List aC}{n:Nat}{M0:bM}{s:σ}{K:dX->St σ->Prop}(Mw:aH e g=some (.d (.clo fc aL)))
  (c1 c2:Nat) (tb:List Nat) {β:Type} {items:List β} {arg:β->List V} {hp:β->aq} (hf:Yields P fc aL (items.map fun b=>(arg b,hp b)))
  (I:α->aq×bM) (J:List β->α->Prop) (x0:α) (mE:ox c1 c2 tb e own=true) (hc:(!aV c1 tb.length 1000000 && !aV c1 tb.length 1000001&&(!aV c2 64 1000000 && !aV c2 64 1000001))=true) (hI:I x0=(df (nD c1 tb) own,M0)) (Cq:Fb c2 tb (I x0).1=true) (QR:J items x0)
  (round:∀ it rest x,J (it::rest) x -> ∀ (Q:V->aq->RS α σ->Prop),(∀ x',J rest x'->Q (.d (.bool true)) (hp it) (.go x'))->(∀ ex hd M s',K ex ⟨e,df (nO c1 tb) hd++kP f l n M,s'⟩->Q (.d (.bool false)) (hp it) (.done ex (hd++kP f l n M) s')) ->
   (oy P T ft Y (fun x=>((I x).1++kP f l n (I x).2,s)) ps a b (sF (nD c1 tb) e) c2 tb).y (arg it) (hp it) (.go x) Q)
  (fin:∀ x,J [] x->K .normal ⟨e,df (nO c1 tb) (I x).1++kP f l n (I x).2,s⟩):jw P ft Y g ps a b ⟨e,own++kP f l n M0,s⟩ K:=by
 have Q4:=mE;simp only[ox,Bool.and_eq_true]at Q4;obtain⟨⟨⟨⟨⟨⟨⟨⟨k1,k2⟩,k3⟩,k4⟩,k5⟩,k6⟩,k7⟩,k8⟩,k9⟩:=Q4;simp only[Bool.and_eq_true,Bool.not_eq_true']at hc;obtain⟨⟨W7,W8⟩,Ya,Yb⟩:=hc;have tO:∀ i∈tb,i<1000000:=fun i hi=>Nat.le_of_ble_eq_true (dW k2 i hi);have nZ:(1000000:Nat)∉tb:=fun h=>by have:=tO _ h;omega
 have sq:(1000001:Nat)∉tb:=fun h=>by have:=tO _ h;omega
 have u0:nD c1 tb 1000000=1000000:=m6 nZ;have u1:nD c1 tb 1000001=1000001:=m6 sq;have d0:nO c1 tb 1000000=1000000:=oO W7;have d1:nO c1 tb 1000001=1000001:=oO W8;have Z0:tQ tb 1000000=false:=by cases h:tQ tb 1000000 with|false=>rfl|true=>exact absurd (eZ.1 h) nZ
 have Z1:tQ tb 1000001=false:=by cases h:tQ tb 1000001 with|false=>rfl|true=>exact absurd (eZ.1 h) sq
 have VM:ox c1 c2 tb e (own++kP f l n M0)=true:=by
  simp only[ox,Bool.and_eq_true];refine⟨⟨⟨⟨⟨⟨⟨⟨k1,k2⟩,k3⟩,k4⟩,k5⟩,k6⟩,k7⟩,k8⟩,?_⟩;rw[jb];refine yI fun i hi=>?_;rcases List.mem_append.1 hi with hi|hi
  ·exact dW k9 i hi
  ·rcases zt hi with rfl|rfl
   ·rw[W7];rfl
   ·rw[W8];rfl
 refine qL hT I8 I9 Mw c1 c2 tb hf (fun x=>((I x).1++kP f l n (I x).2,s)) J x0 VM ?_ ?_ QR ?_ ?_
 ·show((I x0).1++kP f l n (I x0).2,s)=_
  rw[hI,rG,zE _ u0 u1]
 ·exact qu Cq (by rw[Ya,Z0];rfl) (by rw[Yb,Z1];rfl)
 ·intro it rest x hj Q h1 h2
  refine round it rest x hj Q h1 fun ex hd M s' hk=>h2 ex _ s' ?_;rw[rG,zE _ d0 d1];exact hk
 ·intro x hj
  show K .normal ⟨e,df (nO c1 tb) ((I x).1++kP f l n (I x).2),s⟩;rw[rG,zE _ d0 d1];exact fin x hj
end
def uI(f:Fix)(l:List aC)(p:Pt)(marks insts:Int):pg×Bool:=(atR f l p marks insts []).1
theorem yM(f:Fix)(p:Pt)(marks insts:Int):∀ (l:List aC) (s:pg) (M M':bM),(Ah f p marks insts l s M).1=(Ah f p marks insts l s M').1
 | [],_,_,_=>rfl
 | x::r,s,M,M'=>by
  rw[Ah,Ah];split
  ·exact yM f p marks insts r s M M'
  ·split
   ·exact yM f p marks insts r _ _ _
   ·rfl
theorem IK(f:Fix)(l:List aC)(p:Pt)(marks insts:Int)(M:bM):(atR f l p marks insts M).1=uI f l p marks insts:=yM f p marks insts l _ _ _
def FN(f:Fix)(l:List aC)(marks insts:Int)(p:Pt)(M:bM):bM:=(atR f l p marks insts M).2
theorem qb{f:Fix}{l:List aC}{marks insts:Int}{p:Pt}{M:bM}(h:bN f M):bN f (FN f l marks insts p M):=B6 h
theorem AE{n:Nat}(f:Fix)(l:List aC)(p:Pt)(marks insts:Int){M:bM}(hg:e8 f l)(hn:f.insts.length=n)(hM:bN f M):sU Tryz.prog 68 [.ptr 1000000 0,.d p.d,.d (i64 marks),.d (i64 insts)] (kP f l n M)
  fun v h'=>v = .d (.tup [.agg (HC (uI f l p marks insts).1),.bool (uI f l p marks insts).2])/\h'=kP f l n (FN f l marks insts p M):=by
 intro σ Y st;have:=Vf (n:=n) f l p marks insts hg.r hn hg.s hg.len hM Y st;rw[IK]at this;exact this
def pb(f:Fix)(l:List aC)(marks insts:Int):List Pt->bM->bM
 | [],M=>M
 | p::r,M=>pb f l marks insts r (FN f l marks insts p M)
theorem v9{f:Fix}{l:List aC}{marks insts:Int}:∀ {ps:List Pt} {M:bM},bN f M->bN f (pb f l marks insts ps M)
 | [],_,h=>h
 | p::r,M,h=>v9 (ps:=r) (M:=FN f l marks insts p M) (qb h)
def gn(f:Fix)(l:List aC):List Pt:=(nW f).filter fun p=>(uI f l p 0 0).2
def vS(f:Fix)(l:List aC)(M:bM):bM:=pb f l 0 0 (nW f) M
end Go.PX
namespace Go.PX
theorem Wk.WY{σ:Type}{e e':Env}{h h':aq}{s:σ}(he:cN e' e)(hh:cN h' h):Wk (⟨e,h,s⟩:St σ) ⟨e',h',s⟩:=
 fun cx r m L F a w hg=>⟨L,F,hg.sub he hh,Tr.refl F w⟩
theorem zo:∀ {l:List Nat} {k:Nat},tQ l k=true↔k∈l
 | [],k=>by simp[tQ]
 | i::r,k=>by
  rw[tQ];by_cases h:k=i
  ·subst h;simp
  ·rw[List.mem_cons,<- zo (l:=r)]
   split
   ·rename_i h1
    have:=Nat.eq_of_beq_eq_true h1;omega
   ·simp[h]
theorem Wk.TR{σ:Type}{e:Env}{h:aq}{s:σ}(n:Nat)(ids:List Nat):Wk (⟨e,h,s⟩:St σ) ⟨ct (dE (dJ (aQ ids h) n)) e,ct (jN (dJ (aQ ids h) n)) (tJ h ids),s⟩:=by
 intro cx r m L F a w hg;obtain⟨F1,h1,h2,_⟩:=hg.OY n ids;exact⟨L,F1,h1,h2⟩
end Go.PX
namespace Go.PX
open Go.Proofs
theorem HZ{g:Nat->Option DO}{f:Fix}{n b j:Nat}(h:g b=none):dE g (eD f n b j)=eD f n b j:=by
 unfold eD
 cases Nat.blt j n with
 | true=>
  have:dE g (.ptr b 0) = .ptr b 0:=by simp only[dE,cA,h]
  show V.ifc _ [pQ [dE g (.ptr b 0)]]=_;rw[this];rfl
 | false=>rfl
theorem CV{g:Nat->Option DO}{f:Fix}{l:List aC}{n b m:Nat}(h:g b=none)(h2:g m=none):fG g (bh f l n b m)=bh f l n b m:=by
 have:dE g (.mp m) = .mp m:=by simp only[dE,cA,h2]
 show [V.d _,V.d _,V.d _,V.d _,V.d _,V.d _,V.d _,V.d _,dE g (eD f n b 0),dE g (eD f n b 1),dE g (eD f n b 2),dE g (eD f n b 3),dE g (.mp m)]=_;simp only[HZ h,this];rfl
theorem F9{σ:Type}{h:aq}{s:σ}{Q:V->aq->σ->Prop}{f:Fix}{l:List aC}{n:Nat}{M:bM}(id:Nat){sz n':Nat}{es:List (List D)}(dR:id<1000000)(hI:get h id=some (.arr sz (.dd es)))(so:n'=es.length)
  (hb:get h 1000000=some (.fz (bh f l n 1000000 1000001))) (hm:get h 1000001=some (cn M)) (hq:Q (.d (.vs es)) (kP f l n M) s):pj [.sl id sz 0 n'] h s Q:=by
 have pL:∀ x,x≠id->dJ (aQ [id] h) 1 x=none:=fun x hx=>by
  have:get (aQ [id] h) x=none:=by
   rw[oS];rw[if_neg];intro hm;have:=zo.1 hm;rw[List.mem_singleton]at this;exact hx this
  rw[dJ,this]
 have Y6:get (aQ [id] h) id=some (.arr sz (.dd es)):=by
  rw[oS,if_pos (zo.2 (by simp)),hI]
 have hv:cA (dJ (aQ [id] h) 1) (.sl id sz 0 n')=some (.vs es):=cB Y6 so;refine IH (l':=inj [.vs es]) (h':=kP f l n M) ((Wk.TR 1 [id]).trans (Wk.WY (fun y v hy=>?_) (fun y o hy=>?_))) rfl rfl (eT [.vs es] rfl rfl rfl hq)
 ·rw[bs]
  have hy:get [(0,V.d (.vs es))] y=some v:=hy;show(get [(0,V.sl id sz 0 n')] y).map _=some v;rw[dQ]at hy ⊢;split at hy
  ·rename_i e
   rw[if_pos e];cases hy;simp only[Option.map_some,dE,hv]
  ·cases hy
 ·rw[bs,nV]
  have hy:get [(1000000,.fz (bh f l n 1000000 1000001)),(1000001,cn M)] y=some o:=hy;rw[dQ]at hy;split at hy
  ·rename_i e
   subst e;cases hy;rw[if_neg (by simp;omega),hb];show some (Obj.fz (fG _ (bh f l n 1000000 1000001)))=_;rw[CV (pL _ (by omega)) (pL _ (by omega))]
  ·rw[dQ]at hy
   split at hy
   ·rename_i e
    subst e;cases hy;rw[if_neg (by simp;omega),hm];rfl
   ·cases hy
def Fu:List Pt->D
 | []=>.nils
 | p::r=>g9 (p::r)
def Z7(l:List Pt)(M:bM):aq×bM:=match l with
 | []=>([(1500000,.box (.vv [.ptr 1000000 0])),(1500001,.box (.dd [.nils]))],M)
 | p::r=>([(1500000,.box (.vv [.ptr 1000000 0])),(1500001,.box (.vv [.sl 19 2 0 (p::r).length])),(19,.arr 2 (.dd ((p::r).map Pt.cells)))],M)
set_option maxHeartbeats 2000000 in
theorem Mc{n:Nat}(f:Fix)(l:List aC){M:bM}(hg:e8 f l)(hn:f.insts.length=n)(hM:bN f M):sU Tryz.prog 54 [.ptr 1000000 0] (kP f l n M)
  fun v h'=>v = .d (Fu (gn f l))/\h'=kP f l n (vS f l M):=by
 intro σ Y st;refine cX mixed ao Tryz.func54 rfl (ft:=Qd) (args:=[.ptr 1000000 0]) (show qC Qd Tryz.f54 1=true from by decide +kernel) ?_;conv=>whnf
 refine w9 1000000 (tU f l) rfl rfl ?_;refine ah (ds:=[.ref (tU f l)]) (QJ f l) rfl rfl ?_;conv=>whnf
 have hf:=hg.r;have Y7:=oT hf;refine jw.wk (Wk.sub (e':=[(1,.ptr 1 0),(2,.ptr 2 0),(7,.d (.clo 137 [.ref [.ref (tU f l)]]))]) (h':=[(1,.box (.vv [.ptr 1000000 0])),(2,.box (.dd [.nils])),(1000000,.fz (bh f l n 1000000 1000001)),(1000001,cn M)]) ⟨rfl,rfl,rfl,trivial⟩ ⟨rfl,rfl,(by first|rfl|(simp only[ab,Nat.reduceBEq,eq_self];rfl)),rfl,trivial⟩) ?_;refine xc (f:=f) (l:=l) (n:=n) (M0:=M) (own:=[(1,.box (.vv [.ptr 1000000 0])),(2,.box (.dd [.nils]))]) ao (by exact ai mixed ao (by decide +kernel)) (by exact ai mixed ao (by decide +kernel)) rfl 1500000 1600000 [1,2] (yx f l hf)
  (fun(x:List Pt×bM)=>Z7 x.1 x.2)
  (fun rest x=>bN f x.2/\x.1.length+rest.length<=289/\gn f l=x.1++rest.filter (fun p=>(uI f l p 0 0).2)/\vS f l M=pb f l 0 0 rest x.2) ([],M) rfl rfl rfl rfl ⟨hM,by simpa using Y7,rfl,rfl⟩ ?_ ?_
 ·rintro p rest ⟨acc,M'⟩ ⟨DH,hlen,he,hm⟩ Q FO -
  simp only at DH hlen he hm;refine⟨⟨rfl,rfl⟩,?_⟩;rw[pb]at hm;rw[List.filter_cons]at he;have tc:=qb (l:=l) (marks:=0) (insts:=0) (p:=p) DH
  cases acc with
  | nil=>
   conv=>whnf
   refine fL 1000000 1000001 (AE (n:=n) f l p 0 0 hg hn DH) (by first|rfl|(simp only[ab,Nat.reduceBEq,eq_self];rfl)) rfl rfl rfl rfl ?_;generalize hO:uI f l p 0 0=O at he ⊢;generalize FN f l 0 0 p M'=M2 at tc hm ⊢;obtain⟨s,b⟩:=O;conv=>whnf
   cases b with
   | true=>
    simp only[if_true]at he;conv=>whnf
    refine aK rfl ?_;conv=>whnf
    exact⟨([p],M2),Wk.sub trivial ⟨rfl,rfl,rfl,(by first|rfl|(simp only[ab,Nat.reduceBEq,eq_self];rfl)),rfl,trivial⟩,qu rfl rfl rfl,FO _ ⟨tc,by simp only[List.length_cons,List.length_nil]at hlen ⊢;omega,by simpa using he,hm⟩⟩
   | false=>
    simp only[Bool.false_eq_true,if_false]at he;conv=>whnf
    exact⟨([],M2),Wk.sub trivial ⟨rfl,rfl,(by first|rfl|(simp only[ab,Nat.reduceBEq,eq_self];rfl)),rfl,trivial⟩,qu rfl rfl rfl,FO _ ⟨tc,by simp only[List.length_cons]at hlen ⊢;omega,he,hm⟩⟩
  | cons a r=>
   conv=>whnf
   refine fL 1000000 1000001 (AE (n:=n) f l p 0 0 hg hn DH) (by first|rfl|(simp only[ab,Nat.reduceBEq,eq_self];rfl)) rfl rfl rfl rfl ?_;generalize hO:uI f l p 0 0=O at he ⊢;generalize FN f l 0 0 p M'=M2 at tc hm ⊢;obtain⟨s,b⟩:=O;conv=>whnf
   cases b with
   | true=>
    simp only[if_true]at he;conv=>whnf
    refine aK rfl ?_;conv=>whnf
    refine aK (by simp[a7.len]) ?_;conv=>whnf
    refine bc (decide_eq_true (by
     show(((a::r).map Pt.cells).length+1)*16<=140737488355328;rw[List.length_map];simp only[List.length_cons]at hlen ⊢;omega)) ?_
    conv=>whnf
    refine⟨(a::r ++ [p],M2),Wk.sub trivial ⟨rfl,?_,?_,(by first|rfl|(simp only[ab,Nat.reduceBEq,eq_self];rfl)),rfl,trivial⟩,qu rfl rfl rfl,FO _ ⟨tc,by simp only[List.length_cons,List.length_append,List.length_nil]at hlen ⊢;omega,by simpa using he,hm⟩⟩
    ·show some (Obj.box (Cells.vv [V.sl 19 2 0 (((a::r).map Pt.cells).length+1)]))=some (Obj.box (Cells.vv [V.sl 19 2 0 (a::(r ++ [p])).length]))
     simp
    ·show some (Obj.arr 2 (a7.dd (((a::r).map Pt.cells) ++ [p.cells])))=some (Obj.arr 2 (a7.dd ((a::(r ++ [p])).map Pt.cells)))
     simp
   | false=>
    simp only[Bool.false_eq_true,if_false]at he;conv=>whnf
    exact⟨(a::r,M2),Wk.sub trivial ⟨rfl,rfl,rfl,(by first|rfl|(simp only[ab,Nat.reduceBEq,eq_self];rfl)),rfl,trivial⟩,qu rfl rfl rfl,FO _ ⟨tc,by simp only[List.length_cons]at hlen ⊢;omega,he,hm⟩⟩
 ·rintro ⟨acc,M'⟩ ⟨DH,hlen,he,hm⟩
  simp only[List.filter_nil,List.append_nil,pb]at he hm;rw[he,hm]
  cases acc with
  | nil=>
   conv=>whnf
   exact eT [.nils] rfl (by first|rfl|(simp only[ab,Nat.reduceBEq,eq_self];rfl)) rfl ⟨⟨rfl,rfl⟩,rfl⟩
  | cons a r=>
   conv=>whnf
   exact F9 19 (by decide) rfl (by simp) (by first|rfl|(simp only[ab,Nat.reduceBEq,eq_self];rfl)) rfl ⟨⟨rfl,rfl⟩,rfl⟩
theorem L8(f:Fix)(l:List aC)(hg:e8 f l):aX Tryz.prog 10 [f.d,bn l] (.tup [Fu (gn f l),i64 0]):=by
 refine aB Tryz.func10 rfl (ft:=TS) 2 fun {σ} Y st=>?_;conv=>whnf
 refine dH (gX (rs:=[i64 0]) (GO f l hg) 11 100704 100705 rfl rfl rfl rfl) ?_;conv=>whnf
 refine fL 100704 100705 (Mc (n:=f.insts.length) f l hg rfl (lZ f)) (by first|rfl|(simp only[ab,Nat.reduceBEq,eq_self];rfl)) rfl rfl rfl rfl ?_;conv=>whnf
 exact ae
theorem Vg(p:List Span)(h0:p ≠ [])(hp:p.length<1000000):aX Tryz.prog 69 [cw p] (cw p):=by
 refine aB Tryz.func69 rfl (ft:=LZ) 1 fun {σ} Y st=>?_;conv=>whnf
 refine⟨fun b hb=>?_⟩
 cases b with
 | true=>
  cases p with
  | nil=>exact absurd rfl h0
  | cons a r=>exact absurd (hb (by simp)) (by simp)
 | false=>
  conv=>whnf
  refine ny.mk rfl ?_;conv=>whnf
  refine bc (by
   show(fE 2 (p.map Span.cells)&&true)=true;rw[dG (fun x=>⟨rfl,rfl⟩)];rfl) ?_
  conv=>whnf
  refine bc (by simp[a7.len,a7.part];omega) ?_;conv=>whnf
  exact Ds (es:=p.map Span.cells) rfl (by simp[a7.len,a7.part]) ⟨⟨rfl,rfl⟩,rfl⟩
theorem FF{h:aq}{n id sz k:Nat}{es ds:List (List D)}(hg:get h id=some (.arr sz (.dd es)))(hk:k<=es.length)(hd:es.take k=ds):cA (dJ h (n+1)) (.sl id sz 0 k)=some (.vs ds):=by
 have h1:Nat.beq sz sz=true:=Nat.beq_refl sz;have h2:Nat.ble (0+k) es.length=true:=Nat.ble_eq_true_of_le (by omega);simp only[cA,dJ,hg,h1,h2];rw[List.drop_zero,hd]
def rz(f:Fix)(s:pg):List Span:=(List.range f.insts.length).map s
def Bj(f:Fix)(l:List aC)(p:Pt):D×Int:=if (uI f l p 0 0).2=true then (cw (rz f (uI f l p 0 0).1),0) else (.nils,9)
theorem QF(f:Fix)(l:List aC)(p:Pt)(hg:e8 f l)(hp:bW 30000 p=true):aX Tryz.prog 27 [f.d,bn l,p.d] (.tup [(Bj f l p).1,i64 (Bj f l p).2]):=by
 refine aB Tryz.func27 rfl (ft:=T9) 3 fun {σ} Y st=>?_;conv=>whnf
 refine dH (gX (rs:=[i64 0]) (GO f l hg) 15 100960 100961 rfl rfl rfl rfl) ?_;conv=>whnf
 refine ak (ub (-30000) 30000 p.x p.y) rfl 1 rfl ?_;conv=>whnf
 rw[show(a6 p.x (-30000) 30000&&a6 p.y (-30000) 30000)=true from hp];conv=>whnf
 refine fL 100960 100961 (AE (n:=f.insts.length) f l p 0 0 hg rfl (lZ f)) (by first|rfl|(simp only[ab,Nat.reduceBEq,eq_self];rfl)) rfl rfl rfl rfl ?_;unfold Bj;generalize uI f l p 0 0=O;generalize FN f l 0 0 p []=M2;obtain⟨s,b⟩:=O;conv=>whnf
 cases b with
 | false=>
  conv=>whnf
  exact ae
 | true=>
  conv=>whnf
  have hn:=hg.r.n9;have sq:=hg.r.many1;refine bc (by rw[List.length_map,Bool.and_eq_true,decide_eq_true_iff,decide_eq_true_iff];omega) ?_;conv=>whnf
  have ef:rz f s ≠ []:=by
   unfold rz;intro h;rw[List.map_eq_nil_iff,List.range_eq_nil]at h;omega
  have YU:(rz f s).map Span.cells = [[i64 (s 0).lo,i64 (s 0).hi],[i64 (s 1).lo,i64 (s 1).hi],[i64 (s 2).lo,i64 (s 2).hi],[i64 (s 3).lo,i64 (s 3).hi]].take f.insts.length:=by
   unfold rz;have h4:f.insts.length=1\/f.insts.length=2\/f.insts.length=3\/f.insts.length=4:=by omega
   rcases h4 with h|h|h|h<;>rw[h]<;>rfl
  refine jg (ds:=[cw (rz f s)]) (Vg (rz f s) ef (by unfold rz;simp;omega)) 1 [40] ?_ rfl ?_
  ·refine aG (FF (es:=[[i64 (s 0).lo,i64 (s 0).hi],[i64 (s 1).lo,i64 (s 1).hi],[i64 (s 2).lo,i64 (s 2).hi],[i64 (s 3).lo,i64 (s 3).hi]]) rfl ?_ ?_) rfl
   ·show((f.insts.map dr.cells).length:Int).toNat-0<=4
    rw[List.length_map];omega
   ·rw[YU]
    show List.take (((f.insts.map dr.cells).length:Int).toNat-0) _=_;rw[List.length_map];rfl
  conv=>whnf
  exact ae
def Lu(b:zZ)(p:Pt):zZ:=⟨⟨min b.x.lo p.x,max b.x.hi p.x⟩,⟨min b.y.lo p.y,max b.y.hi p.y⟩⟩
def IM(p:Pt)(l:List Pt):zZ:=l.foldl Lu ⟨⟨p.x,p.x⟩,⟨p.y,p.y⟩⟩
theorem Va(f:Fix)(l:List aC)(hg:e8 f l)(p:Pt)(r:List Pt)(hp:gn f l=p::r):aX Tryz.prog 30 [f.d,bn l] (.tup [(IM p (p::r)).d,i64 0]):=by
 refine aB Tryz.func30 rfl (ft:=Uc) 2 fun {σ} Y st=>?_;conv=>whnf
 refine dH (gX (rs:=[i64 0]) (GO f l hg) 14 100896 100897 rfl rfl rfl rfl) ?_;conv=>whnf
 refine fL 100896 100897 (Mc (n:=f.insts.length) f l hg rfl (lZ f)) (by first|rfl|(simp only[ab,Nat.reduceBEq,eq_self];rfl)) rfl rfl rfl rfl ?_;rw[hp];conv=>whnf
 refine ba (T:=tys) ao (by exact ai mixed ao (by decide +kernel)) (p::r) (fun i (b:zZ)=>⟨[(4,.ptr 4 0),(41,.d (Fu (p::r))),(42,.d (i64 ((p::r).map Pt.cells).length)),(43,.d (i64 i))],[(4,.box (.dd b.cells))],st⟩) (fun i q b=>i<=289/\(p::r).length<=289/\IM p (p::r)=q.foldl Lu b) ⟨⟨p.x,p.x⟩,⟨p.y,p.y⟩⟩ (Wk.sub ⟨(by first|rfl|(simp only[List.length_map];rfl)|(simp only[ab,Nat.reduceBEq,eq_self];rfl)|simp[PX.get]),(by first|rfl|(simp only[List.length_map];rfl)|(simp only[ab,Nat.reduceBEq,eq_self];rfl)|simp[PX.get]),(by first|rfl|(simp only[List.length_map];rfl)|(simp only[ab,Nat.reduceBEq,eq_self];rfl)|simp[PX.get]),(by first|rfl|(simp only[List.length_map];rfl)|(simp only[ab,Nat.reduceBEq,eq_self];rfl)|simp[PX.get]),trivial⟩ ⟨(by first|rfl|(simp only[List.length_map];rfl)|(simp only[ab,Nat.reduceBEq,eq_self];rfl)|simp[PX.get]),trivial⟩) ⟨by omega,?_,rfl⟩ ?_ ?_
 ·have h1:(gn f l).length<=289:=Nat.le_trans (List.length_filter_le _ _) (oT hg.r)
  rw[hp]at h1;exact h1
 ·rintro i x q b jD hi hr ⟨h1,h2,he⟩
  rw[List.foldl_cons]at he;conv=>whnf
  refine ag (fun _=>?_) (fun h=>absurd (of_decide_eq_false h) (by simp only[List.length_map];omega));conv=>whnf
  refine au jD ?_;conv=>whnf
  refine af ?_;conv=>whnf
  exact⟨Lu b x,⟨by omega,h2,he⟩,(Wk.sub ⟨(by first|rfl|(simp only[List.length_map];rfl)|(simp only[ab,Nat.reduceBEq,eq_self];rfl)|simp[PX.get]),(by first|rfl|(simp only[List.length_map];rfl)|(simp only[ab,Nat.reduceBEq,eq_self];rfl)|simp[PX.get]),(by first|rfl|(simp only[List.length_map];rfl)|(simp only[ab,Nat.reduceBEq,eq_self];rfl)|simp[PX.get]),(by first|rfl|(simp only[List.length_map];rfl)|(simp only[ab,Nat.reduceBEq,eq_self];rfl)|simp[PX.get]),trivial⟩ ⟨(by first|rfl|(simp only[List.length_map];rfl)|(simp only[ab,Nat.reduceBEq,eq_self];rfl)|simp[PX.get]),trivial⟩)⟩
 ·rintro b ⟨h1,h2,he⟩
  rw[he];conv=>whnf
  refine ag (fun h=>absurd (of_decide_eq_true h) (by simp only[List.length_map];omega)) (fun _=>?_);conv=>whnf
  exact ae
def iE(k:Int):Int:=1*2^(min k.toNat IntKind.i64.bits)
def C8(f:Fix)(n:Int)(x:aC):Int:=
 if cQ f x.inst.toNat then er .or .i64 n (iE ((f.aP.marks.length:Int)+x.inst)) else er .or .i64 (er .or .i64 n (iE ((f.aP.marks.length:Int)+x.inst))) (iE x.mark)
def m5(f:Fix)(l:List aC):Int:=l.foldl (C8 f) 0
theorem BM{f:Fix}{x:aC}(h:eI f x=0)(hl:cQ f x.inst.toNat=false):x.mark<f.aP.marks.length:=by
 unfold eI at h;split at h;case isFalse=>cases h
 rw[hl,if_neg (by simp)]at h;split at h;case isFalse=>cases h
 rename_i h2;rw[bq]at h2;omega
theorem uu{k:Int}(h:0<=k/\k<=60):0<=iE k/\iE k<=2^60:=by
 unfold iE;have h1:min k.toNat IntKind.i64.bits<=60:=by omega
 generalize min k.toNat IntKind.i64.bits=m at h1;have h2:(2:Int)^m=((2^m:Nat):Int):=by simp
 have h3:2^m<=2^60:=Nat.pow_le_pow_right (by decide) h1;rw[h2,Int.one_mul];exact⟨Int.natCast_nonneg _,Int.ofNat_le.2 h3⟩
set_option maxHeartbeats 2000000 in
theorem Vh(f:Fix)(l:List aC)(hg:e8 f l):aX Tryz.prog 70 [.ref (eU f l f.insts.length)] (i64 (m5 f l)):=by
 refine aB Tryz.func70 rfl (ft:=UL) 1 fun {σ} Y st=>?_;conv=>whnf
 have KW:=(fj hg.r.aP).marks;have hlen:=hg.len;refine ba (T:=tys) ao (by exact ai mixed ao (by decide +kernel)) l (fun i (n:Int)=>⟨[(0,.d (.ref (eU f l f.insts.length))),(2,.d (i64 n)),(10,.d (bn l)),(11,.d (i64 (l.map aC.cells).length)),(12,.d (i64 i))],[],st⟩) (fun i r n=>m5 f l=r.foldl (C8 f) n) 0 (Wk.sub ⟨(by first|rfl|(simp only[List.length_map];rfl)|(simp only[ab,Nat.reduceBEq,eq_self];rfl)|simp[PX.get]),(by first|rfl|(simp only[List.length_map];rfl)|(simp only[ab,Nat.reduceBEq,eq_self];rfl)|simp[PX.get]),(by first|rfl|(simp only[List.length_map];rfl)|(simp only[ab,Nat.reduceBEq,eq_self];rfl)|simp[PX.get]),(by first|rfl|(simp only[List.length_map];rfl)|(simp only[ab,Nat.reduceBEq,eq_self];rfl)|simp[PX.get]),(by first|rfl|(simp only[List.length_map];rfl)|(simp only[ab,Nat.reduceBEq,eq_self];rfl)|simp[PX.get]),trivial⟩ trivial) rfl ?_ ?_
 ·rintro i x r n jD hi hr he
  have hx:=hg.s x (List.mem_of_getElem? jD);have WM:=hg.Ig x (List.mem_of_getElem? jD);obtain⟨j,hj⟩:∃ j:Nat,x.inst=j:=⟨x.inst.toNat,by have:=hx.La;omega⟩;have FQ:j<f.insts.length:=by have:=hx.Hs;omega
  have EL:j=0\/j=1\/j=2\/j=3:=by have:=hg.r.n9;omega
  have hK:nt f f.insts.length j = .ifc (if cQ f j then 218 else 163) (.agg [.ref []]):=by
   unfold nt Li;rw[uK FQ]
  have hB:eU f l f.insts.length=f.cells ++ [bn l,nt f f.insts.length 0,nt f f.insts.length 1,nt f f.insts.length 2,nt f f.insts.length 3]:=rfl;have Rh:x.inst.toNat=j:=by omega
  rw[List.foldl_cons]at he;unfold C8 at he;rw[Rh,hj]at he;obtain⟨xi,xm,xs,xg⟩:=x;simp only at hj he;subst hj;have hs:=uu (k:=(f.aP.marks.length:Int)+j) (by omega);have Nx:(2:Int)^60=1152921504606846976:=by decide
  rw[Nx]at hs
  cases hl:cQ f j with
  | true=>
   rw[hl,if_pos rfl]at hK he;rcases EL with rfl|rfl|rfl|rfl;all_goals
    rw[hK]at hB;rw[hB];conv=>whnf
    refine ag (fun _=>?_) (fun h=>absurd (of_decide_eq_false h) (by simp only[List.length_map];omega));conv=>whnf
    refine au jD ?_;conv=>whnf
    refine aA ((f.aP.marks.length:Int)+_) (by rw[List.length_map]) (wrap_i64 (by show _<=(f.aP.marks.length:Int)+((_:Nat):Int)/\(f.aP.marks.length:Int)+((_:Nat):Int)<=_;omega)) ?_;conv=>whnf
    refine aA (iE ((f.aP.marks.length:Int)+_)) rfl (wrap_i64 (by show _<=iE ((f.aP.marks.length:Int)+((_:Nat):Int))/\iE ((f.aP.marks.length:Int)+((_:Nat):Int))<=_;omega)) ?_;conv=>whnf
    refine af ?_;conv=>whnf
    exact⟨_,he,aI⟩
  | false=>
   have JB:=BM WM (by rw[Rh];exact hl);have RN:=hx.mark;simp only at JB RN;have te:=uu (k:=xm) (by omega);rw[Nx]at te;rw[hl,if_neg (by simp)]at hK he;rcases EL with rfl|rfl|rfl|rfl;all_goals
    rw[hK]at hB;rw[hB];conv=>whnf
    refine ag (fun _=>?_) (fun h=>absurd (of_decide_eq_false h) (by simp only[List.length_map];omega));conv=>whnf
    refine au jD ?_;conv=>whnf
    refine aA ((f.aP.marks.length:Int)+_) (by rw[List.length_map]) (wrap_i64 (by show _<=(f.aP.marks.length:Int)+((_:Nat):Int)/\(f.aP.marks.length:Int)+((_:Nat):Int)<=_;omega)) ?_;conv=>whnf
    refine aA (iE ((f.aP.marks.length:Int)+_)) rfl (wrap_i64 (by show _<=iE ((f.aP.marks.length:Int)+((_:Nat):Int))/\iE ((f.aP.marks.length:Int)+((_:Nat):Int))<=_;omega)) ?_;conv=>whnf
    refine bc (decide_eq_true RN) ?_;conv=>whnf
    refine aA (iE xm) rfl (wrap_i64 (by omega)) ?_;conv=>whnf
    refine af ?_;conv=>whnf
    exact⟨_,he,aI⟩
 ·rintro n he
  rw[he];conv=>whnf
  refine ag (fun h=>absurd h (by simp)) (fun _=>?_);conv=>whnf
  exact ae
def B3(f:Fix)(l:List aC)(m k:Int):List Pt->bM->Bool×bM
 | [],M=>(false,M)
 | p::r,M=>if (uI f l p m k).2=true then (true,FN f l m k p M) else B3 f l m k r (FN f l m k p M)
theorem Du{f:Fix}{l:List aC}{m k:Int}:∀ {ps:List Pt} {M:bM},bN f M->bN f (B3 f l m k ps M).2
 | [],_,h=>h
 | p::r,M,h=>by
  rw[B3];split
  ·exact qb h
  ·exact Du (qb h)
def marksOf(f:Fix)(c8:Int):Int:=er .and .i64 c8 (iE f.aP.marks.length-1)
def oU(f:Fix)(c8:Int):Int:=c8.fdiv (2^(min ((f.aP.marks.length:Int)).toNat IntKind.i64.bits))
def yu(f:Fix)(l:List aC)(c8:Int)(M:bM):Bool×bM:=B3 f l (marksOf f c8) (oU f c8) (nW f) M
set_option maxHeartbeats 4000000 in
theorem Vj{n:Nat}(f:Fix)(l:List aC)(c8:Int){M:bM}(hg:e8 f l)(hn:f.insts.length=n)(hM:bN f M):sU Tryz.prog 72 [.ptr 1000000 0,.d (i64 c8)] (kP f l n M)
  fun v h'=>v = .d (.bool (yu f l c8 M).1)/\h'=kP f l n (yu f l c8 M).2:=by
 intro σ Y st;refine cX mixed ao Tryz.func72 rfl (ft:=Qf) (args:=[.ptr 1000000 0,.d (i64 c8)]) (show qC Qf Tryz.f72 2=true from by decide +kernel) ?_;have hf:=hg.r;have KW:=(fj hf.aP).marks;have hs:=uu (k:=(f.aP.marks.length:Int)) (by omega);have Nx:(2:Int)^60=1152921504606846976:=by decide
 rw[Nx]at hs;conv=>whnf
 refine aA (iE f.aP.marks.length) (by rw[List.length_map];rfl) (wrap_i64 (by omega)) ?_;conv=>whnf
 refine af ?_;conv=>whnf
 refine w9 1000000 (tU f l) rfl rfl ?_;refine ah (ds:=[.ref (tU f l)]) (QJ f l) rfl rfl ?_;conv=>whnf
 refine jw.wk (Wk.sub (e':=[(2,.ptr 2 0),(3,.ptr 3 0),(4,.ptr 4 0),(5,.ptr 5 0),(19,.d (.clo 137 [.ref [.ref (tU f l)]]))]) (h':=[(2,.box (.vv [.ptr 1000000 0])),(3,.box (.dd [i64 c8])),(4,.box (.dd [.bool false])),(5,.box (.dd [i64 (iE f.aP.marks.length-1)])),(1000000,.fz (bh f l n 1000000 1000001)),(1000001,cn M)]) ⟨rfl,rfl,rfl,rfl,rfl,trivial⟩ ⟨rfl,rfl,rfl,rfl,(by first|rfl|(simp only[ab,Nat.reduceBEq,eq_self];rfl)),rfl,trivial⟩) ?_;refine xc (f:=f) (l:=l) (n:=n) (M0:=M) (own:=[(2,.box (.vv [.ptr 1000000 0])),(3,.box (.dd [i64 c8])),(4,.box (.dd [.bool false])),(5,.box (.dd [i64 (iE f.aP.marks.length-1)]))]) ao (by exact ai mixed ao (by decide +kernel)) (by exact ai mixed ao (by decide +kernel)) rfl 1500000 1600000 [2,3,4,5] (yx f l hf)
  (fun(M:bM)=>([(1500000,.box (.vv [.ptr 1000000 0])),(1500001,.box (.dd [i64 c8])),(1500002,.box (.dd [.bool false])),(1500003,.box (.dd [i64 (iE f.aP.marks.length-1)]))],M))
  (fun rest M1=>bN f M1/\yu f l c8 M=B3 f l (marksOf f c8) (oU f c8) rest M1) M rfl rfl rfl rfl ⟨hM,rfl⟩ ?_ ?_
 ·rintro p rest M1 ⟨wB,he⟩ Q FO Nz
  refine⟨⟨rfl,rfl⟩,?_⟩;rw[B3]at he;have tc:=qb (l:=l) (marks:=marksOf f c8) (insts:=oU f c8) (p:=p) wB;conv=>whnf
  refine sS 1000000 1000001 (AE (n:=n) f l p (marksOf f c8) (oU f c8) hg hn wB) (by first|rfl|(simp only[ab,Nat.reduceBEq,eq_self];rfl)) rfl rfl (by rw[List.length_map];rfl) rfl ?_;generalize uI f l p (marksOf f c8) (oU f c8)=O at he ⊢;generalize FN f l (marksOf f c8) (oU f c8) p M1=M2 at tc he ⊢;obtain⟨s,b⟩:=O
  cases b with
  | true=>
   simp only[if_true]at he;conv=>whnf
   refine⟨[(1500000,.box (.vv [.ptr 1000000 0])),(1500001,.box (.dd [i64 c8])),(1500002,.box (.dd [.bool true])),(1500003,.box (.dd [i64 (iE f.aP.marks.length-1)]))]++kP f l n M2,st,Wk.sub (e':=[]) (h':=[(1500000,.box (.vv [.ptr 1000000 0])),(1500001,.box (.dd [i64 c8])),(1500002,.box (.dd [.bool true])),(1500003,.box (.dd [i64 (iE f.aP.marks.length-1)])),(1000000,.fz (bh f l n 1000000 1000001)),(1000001,cn M2)]) trivial ⟨rfl,rfl,rfl,rfl,(by first|rfl|(simp only[ab,Nat.reduceBEq,eq_self];rfl)),rfl,trivial⟩,qu rfl rfl rfl,Nz _ _ _ _ ?_⟩;rw[he];conv=>whnf
   exact eT [.bool true] rfl (by first|rfl|(simp only[ab,Nat.reduceBEq,eq_self];rfl)) rfl ⟨⟨rfl,rfl⟩,rfl⟩
  | false=>
   simp only[Bool.false_eq_true,if_false]at he;conv=>whnf
   exact⟨M2,Wk.sub trivial ⟨rfl,rfl,rfl,rfl,(by first|rfl|(simp only[ab,Nat.reduceBEq,eq_self];rfl)),rfl,trivial⟩,qu rfl rfl rfl,FO _ ⟨tc,he⟩⟩
 ·rintro M1 ⟨wB,he⟩
  rw[B3]at he;rw[he];conv=>whnf
  exact eT [.bool false] rfl (by first|rfl|(simp only[ab,Nat.reduceBEq,eq_self];rfl)) rfl ⟨⟨rfl,rfl⟩,rfl⟩
def Z6(b x1 x2 x3:Nat)(all:Int):aq:=[(x1,.box (.vv [.ptr b 0])),(x2,.box (.dd [i64 all])),(x3,.box (.vv [.clo 71 [.ptr x1 0,.ptr x2 0,.ptr x3 0]]))]
def Fq(f:Fix)(l:List aC)(n:Nat)(all:Int)(M:bM):aq:=kP f l n M++Z6 1000000 1000002 1000003 1000004 all
theorem E8{f:Fix}{l:List aC}{n:Nat}{all:Int}{M:bM}{i:Nat}(h:i∈bk (Fq f l n all M)):1000000<=i/\i<1000000+5:=by
 unfold Fq at h;rw[jb]at h;rcases List.mem_append.1 h with h|h
 ·rcases zt h with rfl|rfl<;>omega
 ·have h:i ∈ [1000002,1000000,1000003,1000004,1000002,1000003,1000004]:=h
  simp only[List.mem_cons,List.not_mem_nil,or_false]at h;omega
section
variable {P : Program} {σ : Type} {Y : Hd σ} {e : Env} {h : aq} {s : σ} {d : Option Nat} {g : FuncId} {f : Fix} {l : List aC} {n : Nat} {all : Int} {M M' : bM} {r : D} {b m x1 x2 x3 : Nat} {a1 a2 a3 : D}
theorem qj{α:Type}{t:sW α}{k j:Nat}{v:α}(h:Nat.beq k j=false):get (put t k v) j=get t j:=by
 rw[db];rw[if_neg];rintro rfl;rw[Nat.beq_refl]at h;cases h
theorem vK(hf:sU P g [.d a1,.d a2,.d a3,.ptr 1000002 0,.ptr 1000003 0,.ptr 1000004 0] (Fq f l n all M) fun v h'=>v = .d r/\h'=Fq f l n all M')
  (hb:get h b=some (.fz (bh f l n b m))) (hm:get h m=some (cn M)) (h1:get h x1=some (.box (.vv [.ptr b 0]))) (h2:get h x2=some (.box (.dd [i64 all]))) (h3:get h x3=some (.box (.vv [.clo 71 [.ptr x1 0,.ptr x2 0,.ptr x3 0]])))
  (hn:fS [b,m,x1,x2,x3]=true) (sq:Nat.beq m x1=false) (ER:Nat.beq m x2=false) (Jp:Nat.beq m x3=false) (hd:Nat.ble (d.getD 0) 10000=true):fx P e h d g [.d a1,.d a2,.d a3,.ptr x1 0,.ptr x2 0,.ptr x3 0] (.obj m (cn M')::aO d (.d r)):=by
 have Mg:ck [b,m,x1,x2,x3] (d.getD 0) 1000000=b:=rfl;have Mh:ck [b,m,x1,x2,x3] (d.getD 0) 1000001=m:=rfl;have EZ:cO [b,m,x1,x2,x3] d (.d r) (Fq f l n all M') = .obj b (.fz (bh f l n b m)) :: .obj m (cn M') :: .obj x1 (.box (.vv [.ptr b 0])) :: .obj x2 (.box (.dd [i64 all])) :: .obj x3 (.box (.vv [.clo 71 [.ptr x1 0,.ptr x2 0,.ptr x3 0]]))::aO d (.d r):=by
  show [Wr.obj b (iD (ck [b,m,x1,x2,x3] (d.getD 0)) (.fz (bh f l n 1000000 1000001))),.obj m (cn M'),.obj x1 (.box (.vv [.ptr b 0])),.obj x2 (.box (.dd [i64 all])),.obj x3 (.box (.vv [.clo 71 [.ptr x1 0,.ptr x2 0,.ptr x3 0]]))]++aO d (.d r)=_;rw[fm,Mg,Mh];rfl
 have hB:fA [b,m,x1,x2,x3] d (.d r) (Fq f l n all M')=true:=by
  unfold fA;rw[EZ];have h2:hP 5 [] (bk (Fq f l n all M'))=true:=r5 fun i hi=>E8 hi;have h3:dD (.obj b (.fz (bh f l n b m)) :: .obj m (cn M') :: .obj x1 (.box (.vv [.ptr b 0])) :: .obj x2 (.box (.dd [i64 all])) :: .obj x3 (.box (.vv [.clo 71 [.ptr x1 0,.ptr x2 0,.ptr x3 0]]))::aO d (.d r))=true:=by cases d<;>rfl
  rw[h3];show(fS [b,m,x1,x2,x3]&&true&&true&&true&&hP 5 [] (bk (Fq f l n all M'))&&true&&true&&Nat.ble (d.getD 0) 10000&&true&&true)=true;rw[hn,h2,hd];rfl
 have ho:=iW (e:=e) (h:=h) (args:=[.d a1,.d a2,.d a3,.ptr x1 0,.ptr x2 0,.ptr x3 0]) hf [b,m,x1,x2,x3] rfl ⟨_,_,rfl,by rw[fm,Mg,Mh];exact hb,_,_,rfl,hm,_,_,rfl,h1,_,_,rfl,h2,_,_,rfl,h3,rfl⟩ hB;rw[EZ]at ho;refine⟨ho.1,fun cx tN rr mm L F st a w a9 he hh hg ue hr=>?_⟩;have:=ho.2 cx tN rr mm L F st a w a9 he hh hg ue hr;have pz:aF st (.obj b (.fz (bh f l n b m)) :: .obj m (cn M') :: .obj x1 (.box (.vv [.ptr b 0])) :: .obj x2 (.box (.dd [i64 all])) :: .obj x3 (.box (.vv [.clo 71 [.ptr x1 0,.ptr x2 0,.ptr x3 0]]))::aO d (.d r))=aF st (.obj m (cn M')::aO d (.d r)):=by
  show aF ⟨st.env,put (put (put (put (put st.heap b (.fz (bh f l n b m))) m (cn M')) x1 (.box (.vv [.ptr b 0]))) x2 (.box (.dd [i64 all]))) x3 (.box (.vv [.clo 71 [.ptr x1 0,.ptr x2 0,.ptr x3 0]])),st.s⟩ (aO d (.d r))=aF ⟨st.env,put st.heap m (cn M'),st.s⟩ (aO d (.d r));rw[l6 (hh _ _ hb)];have g1:get (put st.heap m (cn M')) x1=some (.box (.vv [.ptr b 0])):=by rw[qj sq];exact hh _ _ h1
  have g2:get (put st.heap m (cn M')) x2=some (.box (.dd [i64 all])):=by rw[qj ER];exact hh _ _ h2
  have g3:get (put st.heap m (cn M')) x3=some (.box (.vv [.clo 71 [.ptr x1 0,.ptr x2 0,.ptr x3 0]])):=by rw[qj Jp];exact hh _ _ h3
  rw[l6 g1,l6 g2,l6 g3]
 rw[pz]at this;exact this
theorem yG{Q:V->aq->σ->Prop}{lv:List V}(ds:List D)(hl:lv=inj ds)(hb:get h 1000000=some (.fz (bh f l n 1000000 1000001)))(hm:get h 1000001=some (cn M))(h1:get h 1000002=some (.box (.vv [.ptr 1000000 0])))(h2:get h 1000003=some (.box (.dd [i64 all])))(h3:get h 1000004=some (.box (.vv [.clo 71 [.ptr 1000002 0,.ptr 1000003 0,.ptr 1000004 0]])))
  (hq:Q (vQ (inj ds)) (Fq f l n all M) s):pj lv h s Q:=by
 refine cd [] (inj ds) (Fq f l n all M) (by rw[hl];exact sG _ _) ⟨?_,?_,?_,?_,?_,trivial⟩ rfl hq
 ·rw[fm];exact hb
 ·exact hm
 ·exact h1
 ·exact h2
 ·exact h3
end
def rK(n k:Int):Int:=n.fdiv (2^(min k.toNat IntKind.i64.bits))
def pP(g:Int->Int->bM->(Int×Bool)×bM)(all set:Int):Nat->Int->bM->(Int×Bool)×bM
 | 0,_,M=>((0,false),M)
 | k+1,t,M=>if rK all t=0 then ((0,false),M) else if er .and .i64 (rK all t) 1=0 then pP g all set k (t+1) M else
  if (g (er .or .i64 set (iE t)) (t+1) M).1.2=true then (((g (er .or .i64 set (iE t)) (t+1) M).1.1,true),(g (er .or .i64 set (iE t)) (t+1) M).2) else pP g all set k (t+1) (g (er .or .i64 set (iE t)) (t+1) M).2
def kF(f:Fix)(l:List aC)(all:Int):Nat->Int->Int->bM->(Int×Bool)×bM
 | 0,set,_,M=>((set,(yu f l set M).1),(yu f l set M).2)
 | k+1,set,from',M=>pP (kF f l all k) all set (21-from'.toNat) from' M
theorem vy{f:Fix}{g:Int->Int->bM->(Int×Bool)×bM}{all set:Int}(hg:∀ s t M,bN f M->bN f (g s t M).2):∀ {k:Nat} {t:Int} {M:bM},bN f M->bN f (pP g all set k t M).2
 | 0,_,_,h=>h
 | k+1,t,M,h=>by
  rw[pP];split
  ·exact h
  ·split
   ·exact vy hg h
   ·split
    ·exact hg _ _ _ h
    ·exact vy hg (hg _ _ _ h)
theorem vR{f:Fix}{l:List aC}{all:Int}:∀ {k:Nat} {set from':Int} {M:bM},bN f M->bN f (kF f l all k set from' M).2
 | 0,_,_,_,h=>Du h
 | k+1,set,from',M,h=>by rw[kF];exact vy (fun s t M h=>vR h) h
theorem Ie{all t:Int}(h:0<=all/\all<1048576)(ht:20<=t/\t<=64):rK all t=0:=by
 unfold rK;have h2:min t.toNat IntKind.i64.bits=t.toNat:=by show min t.toNat 64=_;omega
 rw[h2];have h3:2^20<=2^t.toNat:=Nat.pow_le_pow_right (by decide) (by omega);have h4:((2:Int)^t.toNat)=((2^t.toNat:Nat):Int):=by simp
 rw[h4,Int.fdiv_eq_ediv_of_nonneg _ (Int.natCast_nonneg _)];generalize 2^t.toNat=m at h3;exact Int.ediv_eq_zero_of_lt h.1 (by omega)
set_option maxHeartbeats 4000000 in
theorem Vi{n:Nat}(f:Fix)(l:List aC)(all:Int)(hg:e8 f l)(hn:f.insts.length=n)(ri:0<=all/\all<1048576):∀ (k:Nat) (set from':Int) (M:bM),k<=1000->(0<=from'/\from'<=20)->bN f M ->
  sU Tryz.prog 71 [.d (i64 set),.d (i64 from'),.d (i64 k),.ptr 1000002 0,.ptr 1000003 0,.ptr 1000004 0] (Fq f l n all M)
   fun v h'=>v = .d (.tup [i64 (kF f l all k set from' M).1.1,.bool (kF f l all k set from' M).1.2])/\h'=Fq f l n all (kF f l all k set from' M).2:=by
 intro k
 induction k with
 | zero=>
  intro set from' M _ BV hM σ Y st
  refine cX mixed ao Tryz.func71 rfl (ft:=I3) (args:=[.d (i64 set),.d (i64 from'),.d (i64 (0:Nat)),.ptr 1000002 0,.ptr 1000003 0,.ptr 1000004 0]) (show qC I3 Tryz.f71 6=true from by decide +kernel) ?_;rw[kF];conv=>whnf
  refine fL 1000000 1000001 (Vj (n:=n) f l set hg hn hM) (by first|rfl|(simp only[ab,Nat.reduceBEq,eq_self];rfl)) rfl rfl rfl rfl ?_;generalize yu f l set M=O;obtain⟨b,M2⟩:=O;conv=>whnf
  exact yG [_,_] rfl (by first|rfl|(simp only[ab,Nat.reduceBEq,eq_self];rfl)) rfl rfl rfl rfl ⟨⟨rfl,rfl⟩,rfl⟩
 | succ k ih=>
  intro set from' M hk BV hM σ Y st
  refine cX mixed ao Tryz.func71 rfl (ft:=I3) (args:=[.d (i64 set),.d (i64 from'),.d (i64 (k+1:Nat)),.ptr 1000002 0,.ptr 1000003 0,.ptr 1000004 0]) (show qC I3 Tryz.f71 6=true from by decide +kernel) ?_;rw[kF];have QP:∀ s t M,bN f M->bN f (kF f l all k s t M).2:=fun s t M h=>vR h;generalize hG:kF f l all k=G at ih QP ⊢;conv=>whnf
  refine bP (T:=tys) ao (by exact ai mixed ao (by decide +kernel)) (α:=Nat×Int×bM)
   (fun z=>⟨[(0,.d (i64 set)),(2,.d (i64 (k+1:Nat))),(3,.ptr 1000002 0),(4,.ptr 1000003 0),(5,.ptr 1000004 0),(11,.d (i64 z.2.1))],Fq f l n all z.2.2,st⟩)
   (fun z=>(0<=z.2.1/\z.2.1+z.1=21)/\bN f z.2.2/\pP G all set (21-from'.toNat) from' M=pP G all set z.1 z.2.1 z.2.2) (fun z=>z.1) (21-from'.toNat,from',M) ?wk ⟨by simp only;omega,hM,rfl⟩ ?_
  case wk=>exact Wk.sub ⟨rfl,rfl,rfl,rfl,rfl,rfl,trivial⟩ ⟨(by first|rfl|(simp only[ab,Nat.reduceBEq,eq_self];rfl)),rfl,rfl,rfl,rfl,trivial⟩
  rintro ⟨fu,t,M1⟩ ⟨ht,wB,he⟩;simp only at ht wB he;conv=>whnf
  refine bc (decide_eq_true ht.1) ?_;conv=>whnf
  by_cases h0:rK all t=0
  ·refine ag (fun h=>absurd (show(!decide (rK all t=0))=true from h) (by simp[h0])) (fun _=>?_)
   have hr:pP G all set fu t M1=((0,false),M1):=by
    cases fu with
    | zero=>rfl
    | succ m=>rw[pP,if_pos h0]
   rw[he,hr];conv=>whnf
   exact yG [_,_] rfl (by first|rfl|(simp only[ab,Nat.reduceBEq,eq_self];rfl)) rfl rfl rfl rfl ⟨⟨rfl,rfl⟩,rfl⟩
  refine ag (fun _=>?_) (fun h=>absurd (show(!decide (rK all t=0))=false from h) (by simp[h0]));have ZE:t<=19:=by
   rcases Int.lt_or_le 19 t with h|h
   ·exact absurd (Ie ri ⟨by omega,by omega⟩) h0
   ·exact h
  obtain⟨m,rfl⟩:∃ m,fu=m+1:=⟨fu-1,by omega⟩;rw[pP,if_neg h0]at he;conv=>whnf
  refine bc (decide_eq_true ht.1) ?_;conv=>whnf
  by_cases h1:er .and .i64 (rK all t) 1=0
  ·refine ag (fun _=>?_) (fun h=>absurd (show decide (er .and .i64 (rK all t) 1=0)=false from h) (by simp[h1]))
   rw[if_pos h1]at he;conv=>whnf
   refine af ?_;conv=>whnf
   exact⟨(m,t+1,M1),by simp only;omega,⟨by simp only;omega,wB,he⟩,Wk.sub ⟨rfl,rfl,rfl,rfl,rfl,rfl,trivial⟩ ⟨(by first|rfl|(simp only[ab,Nat.reduceBEq,eq_self];rfl)),rfl,rfl,rfl,rfl,trivial⟩⟩
  refine ag (fun h=>absurd (show decide (er .and .i64 (rK all t) 1=0)=true from h) (by simp[h1])) (fun _=>?_);rw[if_neg h1]at he;conv=>whnf
  refine bc (decide_eq_true ht.1) ?_;conv=>whnf
  have hs:=uu (k:=t) (by omega);have Nx:(2:Int)^60=1152921504606846976:=by decide
  rw[Nx]at hs;refine aA (iE t) rfl (wrap_i64 (by omega)) ?_;conv=>whnf
  refine aA (t+1) rfl (wrap_i64 (by omega)) ?_;conv=>whnf
  refine aA ((k:Nat):Int) (by show((k+1:Nat):Int)-1=_;omega) (wrap_i64 (by omega)) ?_;conv=>whnf
  refine⟨_,?_,vK (n:=n) (l:=l) (f:=f) (b:=1000000) (m:=1000001) (x1:=1000002) (x2:=1000003) (x3:=1000004) (ih (er .or .i64 set (iE t)) (t+1) M1 (by omega) (by omega) wB) rfl rfl rfl rfl rfl rfl rfl rfl rfl rfl⟩;have tc:=QP (er .or .i64 set (iE t)) (t+1) M1 wB;generalize G (er .or .i64 set (iE t)) (t+1) M1=O at he tc ⊢;obtain⟨⟨v,b⟩,M2⟩:=O;conv=>whnf
  cases b with
  | true=>
   simp only[if_true]at he;rw[he];conv=>whnf
   exact yG [_,_] rfl (by first|rfl|(simp only[ab,Nat.reduceBEq,eq_self];rfl)) rfl rfl rfl rfl ⟨⟨rfl,rfl⟩,rfl⟩
  | false=>
   simp only[Bool.false_eq_true,if_false]at he;conv=>whnf
   refine af ?_;conv=>whnf
   exact⟨(m,t+1,M2),by simp only;omega,⟨by simp only;omega,tc,he⟩,Wk.sub ⟨rfl,rfl,rfl,rfl,rfl,rfl,trivial⟩ ⟨(by first|rfl|(simp only[ab,Nat.reduceBEq,eq_self];rfl)),rfl,rfl,rfl,rfl,trivial⟩⟩
def oJ(f:Fix)(l:List aC)(all:Int):Nat->Nat->bM->Option (Int×bM)
 | 0,_,_=>none
 | k+1,more,M=>if (kF f l all more 0 0 M).1.2=true then some ((kF f l all more 0 0 M).1.1,(kF f l all more 0 0 M).2) else oJ f l all k (more+1) (kF f l all more 0 0 M).2
def Ij(set:Int)(many:Nat)(z:List Int×List Int)(t:Nat):List Int×List Int:=
 if er .and .i64 (rK set t) 1=0 then z else if (t:Int)<many then (z.1 ++ [(t:Int)],z.2) else (z.1,z.2 ++ [(t:Int)-many])
def wy(f:Fix)(set:Int):List Int×List Int:=(List.range (f.aP.marks.length+f.insts.length)).foldl (Ij set f.aP.marks.length) ([],[])
theorem BP{f:Fix}{l:List aC}{n b m:Nat}{h:aq}(hb:get h b=some (.fz (bh f l n b m))):bZ (dJ h 1) [V.ptr b 0]=some [.ref (eU f l n)]:=by
 have:=mQ 0 hb;simp only[bZ,cA,this];rfl
set_option maxHeartbeats 4000000 in
theorem Vb(f:Fix)(l:List aC)(hg:e8 f l)(K:Nat)(set:Int)(M':bM)(hK:K<=1000)(ri:0<=m5 f l/\m5 f l<1048576)(hw:oJ f l (m5 f l) K 0 []=some (set,M')) :
  aX Tryz.prog 31 [f.d,bn l] (.tup [bS (wy f set).1,bS (wy f set).2,i64 0]):=by
 refine aB Tryz.func31 rfl (ft:=Ud) 2 fun {σ} Y st=>?_;conv=>whnf
 have KW:=(fj hg.r.aP).marks;have XF:=hg.r.n9;refine dH (gX (rs:=[i64 0]) (GO f l hg) 18 101152 101153 rfl rfl rfl rfl) ?_;conv=>whnf
 refine aw (ds:=[.ref (eU f l f.insts.length)]) (Vh f l hg) rfl 1 ?_ ?_
 ·exact BP (n:=f.insts.length) (m:=101153) (by first|rfl|(simp only[ab,Nat.reduceBEq,eq_self];rfl))
 generalize m5 f l=all at ri hw ⊢;conv=>whnf
 refine bP (T:=tys) ao (by exact ai mixed ao (by decide +kernel)) (α:=Bool×Int×Nat×bM×Nat)
  (fun z=>⟨[(2,.ptr 2 0),(4,.d .nils),(5,.d .nils),(9,.d (i64 (f.aP.marks.map Mark.cells).length)),(10,.ptr 10 0),(11,.d (i64 z.2.1)),(12,.d (.bool z.1)),(13,.d (i64 z.2.2.1))],[(101152,.fz (bh f l f.insts.length 101152 101153)),(101153,cn z.2.2.2.1),(7,.box (.vv [.ptr 101152 0])),(8,.box (.dd [i64 all])),(10,.box (.vv [.clo 71 [.ptr 7 0,.ptr 8 0,.ptr 10 0]])),(2,.box (.dd f.cells))],st⟩)
  (fun z=>bN f z.2.2.2.1/\z.2.2.1+z.2.2.2.2=K/\(match z.1 with|true=>z.2.1=set|false=>oJ f l all z.2.2.2.2 z.2.2.1 z.2.2.2.1=some (set,M'))) (fun z=>match z.1 with|true=>0|false=>z.2.2.2.2+1) (false,0,0,[],K) ?wk ⟨lZ f,by simp,hw⟩ ?_
 case wk=>exact Wk.sub ⟨rfl,rfl,rfl,rfl,rfl,rfl,rfl,rfl,trivial⟩ ⟨(by first|rfl|(simp only[ab,Nat.reduceBEq,eq_self];rfl)),rfl,rfl,rfl,rfl,rfl,trivial⟩
 rintro ⟨is,v,more,M1,fu⟩ ⟨wB,Zp,he⟩;simp only at wB Zp he
 cases is with
 | false=>
  simp only at he;obtain⟨m,rfl⟩:∃ m,fu=m+1:=by
   cases fu with
   | zero=>cases he
   | succ m=>exact⟨m,rfl⟩
  rw[oJ]at he;conv=>whnf
  refine dH (vK (n:=f.insts.length) (l:=l) (f:=f) (b:=101152) (m:=101153) (x1:=7) (x2:=8) (x3:=10) (Vi f l all hg rfl ri more 0 0 M1 (by omega) ⟨by omega,by omega⟩ wB) rfl rfl rfl rfl rfl rfl rfl rfl rfl rfl) ?_;have tc:=vR (l:=l) (all:=all) (k:=more) (set:=0) (from':=0) wB;generalize kF f l all more 0 0 M1=O at he tc ⊢;obtain⟨⟨v2,b⟩,M2⟩:=O;conv=>whnf
  refine af ?_;conv=>whnf
  cases b with
  | true=>
   simp only[if_true]at he;have hv:v2=set:=congrArg Prod.fst (Option.some.inj he);exact⟨(true,v2,more+1,M2,m),by simp only;omega,⟨tc,by simp only;omega,hv⟩,Wk.sub ⟨rfl,rfl,rfl,rfl,rfl,rfl,rfl,rfl,trivial⟩ ⟨(by first|rfl|(simp only[ab,Nat.reduceBEq,eq_self];rfl)),rfl,rfl,rfl,rfl,rfl,trivial⟩⟩
  | false=>
   simp only[Bool.false_eq_true,if_false]at he;exact⟨(false,v2,more+1,M2,m),by simp only;omega,⟨tc,by simp only;omega,he⟩,Wk.sub ⟨rfl,rfl,rfl,rfl,rfl,rfl,rfl,rfl,trivial⟩ ⟨(by first|rfl|(simp only[ab,Nat.reduceBEq,eq_self];rfl)),rfl,rfl,rfl,rfl,rfl,trivial⟩⟩
 | true=>
  have he:v=set:=he;subst he;conv=>whnf
  refine aA ((f.aP.marks.length+f.insts.length:Nat):Int) (by rw[List.length_map,List.length_map];omega) (wrap_i64 (by omega)) ?_;conv=>whnf
  generalize hT:f.aP.marks.length+f.insts.length=T;refine ba (T:=tys) ao (by exact ai mixed ao (by decide +kernel)) (List.range T) (fun i (z:List Int×List Int)=>⟨[(4,.sl 68 1 0 z.1.length),(5,.sl 54 1 0 z.2.length),(9,.d (i64 (f.aP.marks.map Mark.cells).length)),(11,.d (i64 v)),(45,.d (i64 T)),(46,.d (i64 i))],[(68,.arr 1 (.dd (z.1.map fun n=>[i64 n]))),(54,.arr 1 (.dd (z.2.map fun n=>[i64 n])))],st⟩) (fun i r z=>wy f v=r.foldl (Ij v f.aP.marks.length) z/\z.1.length+z.2.length<=i) ([],[]) ?wk2 ⟨by unfold wy;rw[hT],by simp⟩ ?_ ?_;case wk2=>exact(Wk.born 4 68 1 rfl rfl rfl).trans ((Wk.born 5 54 1 rfl rfl rfl).trans aI)
  ·rintro i x r ⟨ms,is⟩ jD hi hr ⟨he,hlen⟩
   simp only at hlen;have hx:x=i:=by
    rw[List.getElem?_range (by simpa using hi)]at jD;exact(Option.some.inj jD).symm
   subst hx;have hi:x<T:=by simpa using hi
   rw[List.foldl_cons]at he;conv=>whnf
   refine ag (fun _=>?_) (fun h=>absurd (of_decide_eq_false h) (by omega));unfold Ij at he;by_cases h0:er .and .i64 (rK v (x:Nat)) 1=0
   ·refine ag (fun _=>?_) (fun h=>absurd (show decide (er .and .i64 (rK v (x:Nat)) 1=0)=false from h) (by simp[h0]))
    rw[if_pos h0]at he;conv=>whnf
    refine af ?_;conv=>whnf
    exact⟨(ms,is),⟨he,by simp only;omega⟩,aI⟩
   refine ag (fun h=>absurd (show decide (er .and .i64 (rK v (x:Nat)) 1=0)=true from h) (by simp[h0])) (fun _=>?_);rw[if_neg h0]at he;conv=>whnf
   by_cases h1:(x:Int)<f.aP.marks.length
   ·refine ag (fun _=>?_) (fun h=>absurd (of_decide_eq_false h) (by rw[List.length_map];omega))
    rw[if_pos h1]at he;conv=>whnf
    refine aK rfl ?_;conv=>whnf
    refine aK (by simp[a7.len]) ?_;conv=>whnf
    refine bc (decide_eq_true (by
     show((ms.map fun n=>[i64 n]).length+1)*8<=140737488355328;rw[List.length_map];omega)) ?_
    conv=>whnf
    refine af ?_;conv=>whnf
    exact⟨(ms ++ [(x:Int)],is),⟨he,by simp only[List.length_append,List.length_cons,List.length_nil];omega⟩,Wk.sub ⟨congrArg (fun z:Nat=>some (V.sl 68 1 0 z)) (by simp[a7.len]),rfl,rfl,rfl,rfl,rfl,trivial⟩ ⟨congrArg (fun z=>some (Obj.arr 1 (.dd z))) (by simp),rfl,trivial⟩⟩
   ·refine ag (fun h=>absurd (of_decide_eq_true h) (by rw[List.length_map];omega)) (fun _=>?_)
    rw[if_neg h1]at he;conv=>whnf
    refine aA ((x:Int)-f.aP.marks.length) (by rw[List.length_map]) (wrap_i64 (by omega)) ?_;conv=>whnf
    refine aK rfl ?_;conv=>whnf
    refine aK (by simp[a7.len]) ?_;conv=>whnf
    refine bc (decide_eq_true (by
     show((is.map fun n=>[i64 n]).length+1)*8<=140737488355328;rw[List.length_map];omega)) ?_
    conv=>whnf
    refine af ?_;conv=>whnf
    exact⟨(ms,is ++ [(x:Int)-f.aP.marks.length]),⟨he,by simp only[List.length_append,List.length_cons,List.length_nil];omega⟩,Wk.sub ⟨rfl,congrArg (fun z:Nat=>some (V.sl 54 1 0 z)) (by simp[a7.len]),rfl,rfl,rfl,rfl,trivial⟩ ⟨rfl,congrArg (fun z=>some (Obj.arr 1 (.dd z))) (by simp),trivial⟩⟩
  ·rintro ⟨ms,is⟩ ⟨he,hlen⟩
   rw[List.foldl_nil]at he;rw[he];rw[List.length_range];conv=>whnf
   refine ag (fun h=>absurd (of_decide_eq_true h) (by omega)) (fun _=>?_);conv=>whnf
   refine an 1 (ds:=[bS ms,bS is,i64 0]) ?_ ⟨⟨rfl,rfl⟩,rfl⟩;exact aG (cB rfl (by simp)) (aG (cB rfl (by simp)) rfl)
def CC:Int->List Int->Int
 | a,[]=>a
 | a,b::r=>CC (max a b) r
theorem Qn(a:Int)(r:List Int)(hl:r.length<1000000):aX Tryz.prog 112 [bS (a::r)] (i64 (CC a r)):=by
 refine aB Tryz.func112 rfl (ft:=Pb) 1 fun {σ} Y st=>?_;conv=>whnf
 refine bP (T:=tys) ao (by exact ai mixed ao (by decide +kernel)) (α:=Nat×Int) (fun z=>⟨[(0,.d (bS (a::r))),(3,.d (i64 z.2)),(4,.d (i64 (1+z.1:Nat)))],[],st⟩) (fun z=>z.1<=r.length/\CC a r=CC z.2 (r.drop z.1)) (fun z=>r.length-z.1) (0,a) (Wk.sub ⟨(by first|rfl|(simp only[List.length_map];rfl)|(simp only[ab,Nat.reduceBEq,eq_self];rfl)|simp[PX.get]),(by first|rfl|(simp only[List.length_map];rfl)|(simp only[ab,Nat.reduceBEq,eq_self];rfl)|simp[PX.get]),(by first|rfl|(simp only[List.length_map];rfl)|(simp only[ab,Nat.reduceBEq,eq_self];rfl)|simp[PX.get]),trivial⟩ trivial) ⟨Nat.zero_le _,rfl⟩ ?_;rintro ⟨i,m⟩ ⟨hi,he⟩;simp only at hi he;conv=>whnf
 by_cases h1:i<r.length
 ·refine ag (fun _=>?_) (fun h=>absurd (of_decide_eq_false h) (by simp only[List.length_map,List.length_cons];omega))
  obtain⟨x,hx⟩:∃ x,r[i]?=some x:=⟨r[i],by simp⟩;have hd:r.drop i=x::r.drop (i+1):=by
   rw[List.drop_eq_getElem_cons h1];rw[List.getElem?_eq_getElem h1]at hx;rw[Option.some.inj hx]
  rw[hd,CC]at he;conv=>whnf
  refine bY [i64 x] ⟨by simp only;omega,by show((a::r).map fun n=>[i64 n])[(((1+i:Nat)):Int).toNat]?=_;rw[Int.toNat_natCast,Nat.add_comm 1 i,List.getElem?_map,List.getElem?_cons_succ,hx];rfl⟩ ?_;conv=>whnf
  refine af ?_;conv=>whnf
  exact⟨(i+1,max m x),by simp only;omega,⟨by simp only;omega,he⟩,Wk.sub ⟨rfl,rfl,congrArg (fun z=>some (V.d (i64 z))) (by simp only;omega),trivial⟩ trivial⟩
 ·refine ag (fun h=>absurd (of_decide_eq_true h) (by simp only[List.length_map,List.length_cons];omega)) (fun _=>?_)
  rw[List.drop_of_length_le (by omega),CC]at he;rw[he];conv=>whnf
  exact ae
def Dq(s:pg):Prop:=∀ k,-20<=(s k).lo/\(s k).lo<=(s k).hi/\(s k).hi<=20
theorem JL{f:Fix}(hf:jh f):Dq (CK f):=by
 intro k;unfold CK CL;split
 ·rename_i h
  cases hx:f.insts[k]? with
  | none=>exact⟨by decide,by decide,by decide⟩
  | some x=>
   have:=hf.inst x (List.mem_of_getElem? hx);obtain⟨h1,h2,h3⟩:=this;have:=od x;simp only;omega
 ·exact⟨by decide,by decide,by decide⟩
theorem B5{f:Fix}{p:Pt}{marks insts:Int}:∀ {l:List aC} {s:pg} {M:bM},Dq s->Dq (Ah f p marks insts l s M).1.1
 | [],_,_,h=>h
 | x::r,s,M,h=>by
  rw[Ah];split
  ·exact B5 h
  ·split
   ·rename_i h2
    refine B5 fun k=>?_;unfold FD;split
    ·have h3:=h x.inst.toNat
     have h4:=h2.2;unfold yS at h4 ⊢;simp only at h4 ⊢;omega
    ·exact h k
   ·exact h
theorem Lr{f:Fix}{l:List aC}{p:Pt}{marks insts:Int}(hf:jh f):Dq (uI f l p marks insts).1:=B5 (JL hf)
def Aj(t:Int)(c:Nat->Int)(m:Nat):Nat->Int:=fun q=>if q=((t+m+32).tmod 32).toNat then c q+1 else c q
def Ih(f:Fix)(l:List aC)(mark:Int)(c:Nat->Int)(p:Pt):Nat->Int:=
 if kN f mark p<0 then c else (List.range (((uI f l p 0 0).1 0).hi-((uI f l p 0 0).1 0).lo+1).toNat).foldl (Aj (kN f mark p+((uI f l p 0 0).1 0).lo)) c
def Hw(f:Fix)(l:List aC)(mark:Int)(ps:List Pt):Nat->Int:=ps.foldl (Ih f l mark) fun _=>0
def A6(f:Fix)(l:List aC)(mark:Int)(ps:List Pt):Int:=CC (Hw f l mark ps 0) ((List.range' 1 31).map (Hw f l mark ps))
def n7(f:Fix)(l:List aC)(mark:Int):List Pt->bM->bM
 | [],M=>M
 | p::r,M=>n7 f l mark r (w5 f mark p (FN f l 0 0 p M))
theorem vt{f:Fix}{l:List aC}{mark:Int}:∀ {ps:List Pt} {M:bM},bN f M->bN f (n7 f l mark ps M)
 | [],_,h=>h
 | p::r,M,h=>by rw[n7];exact vt (ux (qb h) mark p)
set_option maxHeartbeats 8000000 in
theorem Vk{n:Nat}(f:Fix)(l:List aC)(ps:List Pt)(mark:Int){M:bM}(hg:e8 f l)(hn:f.insts.length=n)(hp:ps.length<=289)(hM:bN f M):sU Tryz.prog 74 [.ptr 1000000 0,.d (g9 ps),.d (i64 mark),.d (i64 0)] (kP f l n M)
  fun v h'=>v = .d (i64 (A6 f l mark ps))/\h'=kP f l n (n7 f l mark ps M):=by
 intro σ Y st;refine cX mixed ao Tryz.func74 rfl (ft:=Qg) (args:=[.ptr 1000000 0,.d (g9 ps),.d (i64 mark),.d (i64 0)]) (show qC Qg Tryz.f74 4=true from by decide +kernel) ?_;unfold A6;conv=>whnf
 generalize hC:Hw f l mark ps=C;generalize hL:n7 f l mark ps M=L;refine ba (T:=tys) ao (by exact ai mixed ao (by decide +kernel)) ps (fun i (z:(Nat->Int)×bM)=>⟨[(0,.ptr 1000000 0),(2,.d (i64 mark)),(3,.d (i64 0)),(9,.ptr 9 0),(16,.d (g9 ps)),(17,.d (i64 (ps.map Pt.cells).length)),(18,.d (i64 i))],[(9,.box (.dd (Xf z.1))),(1000000,.fz (bh f l n 1000000 1000001)),(1000001,cn z.2)],st⟩)
  (fun i r z=>bN f z.2/\C=r.foldl (Ih f l mark) z.1/\L=n7 f l mark r z.2 /\ ∀ q,q<32->0<=z.1 q/\z.1 q<=41*i) (fun _=>0,M) (Wk.sub ⟨(by first|rfl|(simp only[List.length_map];rfl)|(simp only[ab,Nat.reduceBEq,eq_self];rfl)|simp[PX.get]),(by first|rfl|(simp only[List.length_map];rfl)|(simp only[ab,Nat.reduceBEq,eq_self];rfl)|simp[PX.get]),(by first|rfl|(simp only[List.length_map];rfl)|(simp only[ab,Nat.reduceBEq,eq_self];rfl)|simp[PX.get]),(by first|rfl|(simp only[List.length_map];rfl)|(simp only[ab,Nat.reduceBEq,eq_self];rfl)|simp[PX.get]),(by first|rfl|(simp only[List.length_map];rfl)|(simp only[ab,Nat.reduceBEq,eq_self];rfl)|simp[PX.get]),(by first|rfl|(simp only[List.length_map];rfl)|(simp only[ab,Nat.reduceBEq,eq_self];rfl)|simp[PX.get]),(by first|rfl|(simp only[List.length_map];rfl)|(simp only[ab,Nat.reduceBEq,eq_self];rfl)|simp[PX.get]),trivial⟩ ⟨(by first|rfl|(simp only[List.length_map];rfl)|(simp only[ab,Nat.reduceBEq,eq_self];rfl)|simp[PX.get]),(by first|rfl|(simp only[List.length_map];rfl)|(simp only[ab,Nat.reduceBEq,eq_self];rfl)|simp[PX.get]),(by first|rfl|(simp only[List.length_map];rfl)|(simp only[ab,Nat.reduceBEq,eq_self];rfl)|simp[PX.get]),trivial⟩) ⟨hM,hC.symm,hL.symm,fun q _=>⟨Int.le_refl _,Int.le_refl _⟩⟩ ?_ ?_
 ·rintro i p r ⟨c,M1⟩ jD hi hr ⟨wB,he,hm,GW⟩
  simp only at wB he hm GW;rw[List.foldl_cons]at he;rw[n7]at hm;have tc:=qb (l:=l) (marks:=0) (insts:=0) (p:=p) wB;have hO:=Lr (l:=l) (p:=p) (marks:=0) (insts:=0) hg.r;have ht:=zP f mark p;rw[show Ih f l mark c p=if kN f mark p<0 then c else (List.range (((uI f l p 0 0).1 0).hi-((uI f l p 0 0).1 0).lo+1).toNat).foldl (Aj (kN f mark p+((uI f l p 0 0).1 0).lo)) c from rfl]at he;conv=>whnf
  refine ag (fun _=>?_) (fun h=>absurd (of_decide_eq_false h) (by simp only[List.length_map];omega));conv=>whnf
  refine au jD ?_;conv=>whnf
  refine fL 1000000 1000001 (AE (n:=n) f l p 0 0 hg hn wB) (by first|rfl|(simp only[ab,Nat.reduceBEq,eq_self];rfl)) rfl rfl rfl rfl ?_;generalize uI f l p 0 0=O at he hO ⊢;generalize FN f l 0 0 p M1=M2 at tc hm ⊢;obtain⟨s,b⟩:=O;simp only at he hO;conv=>whnf
  refine fL 1000000 1000001 (GN (n:=n) f l mark p tc) (by first|rfl|(simp only[ab,Nat.reduceBEq,eq_self];rfl)) rfl rfl rfl rfl ?_;have Vz:=ux tc mark p;generalize w5 f mark p M2=M3 at Vz hm ⊢;generalize kN f mark p=t at he ht ⊢;conv=>whnf
  by_cases h0:t<0
  ·refine ag (fun _=>?_) (fun h=>absurd (of_decide_eq_false h) (by omega))
   rw[if_pos h0]at he;conv=>whnf
   refine af ?_;conv=>whnf
   exact⟨(c,M3),⟨Vz,he,hm,fun q hq=>by have:=GW q hq;simp only;omega⟩,(Wk.sub ⟨(by first|rfl|(simp only[List.length_map];rfl)|(simp only[ab,Nat.reduceBEq,eq_self];rfl)|simp[PX.get]),(by first|rfl|(simp only[List.length_map];rfl)|(simp only[ab,Nat.reduceBEq,eq_self];rfl)|simp[PX.get]),(by first|rfl|(simp only[List.length_map];rfl)|(simp only[ab,Nat.reduceBEq,eq_self];rfl)|simp[PX.get]),(by first|rfl|(simp only[List.length_map];rfl)|(simp only[ab,Nat.reduceBEq,eq_self];rfl)|simp[PX.get]),(by first|rfl|(simp only[List.length_map];rfl)|(simp only[ab,Nat.reduceBEq,eq_self];rfl)|simp[PX.get]),(by first|rfl|(simp only[List.length_map];rfl)|(simp only[ab,Nat.reduceBEq,eq_self];rfl)|simp[PX.get]),(by first|rfl|(simp only[List.length_map];rfl)|(simp only[ab,Nat.reduceBEq,eq_self];rfl)|simp[PX.get]),trivial⟩ ⟨(by first|rfl|(simp only[List.length_map];rfl)|(simp only[ab,Nat.reduceBEq,eq_self];rfl)|simp[PX.get]),(by first|rfl|(simp only[List.length_map];rfl)|(simp only[ab,Nat.reduceBEq,eq_self];rfl)|simp[PX.get]),(by first|rfl|(simp only[List.length_map];rfl)|(simp only[ab,Nat.reduceBEq,eq_self];rfl)|simp[PX.get]),trivial⟩)⟩
  refine ag (fun h=>absurd (of_decide_eq_true h) (by omega)) (fun _=>?_);rw[if_neg h0]at he;obtain⟨k1,k2,k3⟩:=hO 0;generalize hD:(List.range ((s 0).hi-(s 0).lo+1).toNat).foldl (Aj (t+(s 0).lo)) c=D at he;conv=>whnf
  refine aA ((s 0).hi-(s 0).lo) rfl (wrap_i64 (by omega)) ?_;conv=>whnf
  refine aA ((((s 0).hi-(s 0).lo+1).toNat:Nat):Int) (by omega) (wrap_i64 (by omega)) ?_;conv=>whnf
  generalize hT:((s 0).hi-(s 0).lo+1).toNat=T at hD ⊢;have hT2:T<=41:=by omega
  refine ba (T:=tys) ao (by exact ai mixed ao (by decide +kernel)) (List.range T) (fun j (c:Nat->Int)=>⟨[(0,.ptr 1000000 0),(2,.d (i64 mark)),(3,.d (i64 0)),(9,.ptr 9 0),(12,.ptr 12 0),(14,.d (i64 t)),(16,.d (g9 ps)),(17,.d (i64 (ps.map Pt.cells).length)),(18,.d (i64 i)),(43,.d (i64 T)),(44,.d (i64 j))],[(9,.box (.dd (Xf c))),(12,.box (.dd (HC s))),(1000000,.fz (bh f l n 1000000 1000001)),(1000001,cn M3)],st⟩)
   (fun j r c=>D=r.foldl (Aj (t+(s 0).lo)) c /\ ∀ q,q<32->0<=c q/\c q<=41*i+j) c (Wk.sub ⟨(by first|rfl|(simp only[List.length_map];rfl)|(simp only[ab,Nat.reduceBEq,eq_self];rfl)|simp[PX.get]),(by first|rfl|(simp only[List.length_map];rfl)|(simp only[ab,Nat.reduceBEq,eq_self];rfl)|simp[PX.get]),(by first|rfl|(simp only[List.length_map];rfl)|(simp only[ab,Nat.reduceBEq,eq_self];rfl)|simp[PX.get]),(by first|rfl|(simp only[List.length_map];rfl)|(simp only[ab,Nat.reduceBEq,eq_self];rfl)|simp[PX.get]),(by first|rfl|(simp only[List.length_map];rfl)|(simp only[ab,Nat.reduceBEq,eq_self];rfl)|simp[PX.get]),(by first|rfl|(simp only[List.length_map];rfl)|(simp only[ab,Nat.reduceBEq,eq_self];rfl)|simp[PX.get]),(by first|rfl|(simp only[List.length_map];rfl)|(simp only[ab,Nat.reduceBEq,eq_self];rfl)|simp[PX.get]),(by first|rfl|(simp only[List.length_map];rfl)|(simp only[ab,Nat.reduceBEq,eq_self];rfl)|simp[PX.get]),(by first|rfl|(simp only[List.length_map];rfl)|(simp only[ab,Nat.reduceBEq,eq_self];rfl)|simp[PX.get]),(by first|rfl|(simp only[List.length_map];rfl)|(simp only[ab,Nat.reduceBEq,eq_self];rfl)|simp[PX.get]),(by first|rfl|(simp only[List.length_map];rfl)|(simp only[ab,Nat.reduceBEq,eq_self];rfl)|simp[PX.get]),trivial⟩ ⟨(by first|rfl|(simp only[List.length_map];rfl)|(simp only[ab,Nat.reduceBEq,eq_self];rfl)|simp[PX.get]),(by first|rfl|(simp only[List.length_map];rfl)|(simp only[ab,Nat.reduceBEq,eq_self];rfl)|simp[PX.get]),(by first|rfl|(simp only[List.length_map];rfl)|(simp only[ab,Nat.reduceBEq,eq_self];rfl)|simp[PX.get]),(by first|rfl|(simp only[List.length_map];rfl)|(simp only[ab,Nat.reduceBEq,eq_self];rfl)|simp[PX.get]),trivial⟩) ⟨hD.symm,fun q hq=>by have:=GW q hq;omega⟩ ?_ ?_
  ·rintro j y r2 c WN hj MP ⟨hd,GW⟩
   have hy:y=j:=by
    rw[List.getElem?_range (by simpa using hj)]at WN;exact(Option.some.inj WN).symm
   subst hy;have hj:y<T:=by simpa using hj
   rw[List.foldl_cons]at hd;conv=>whnf
   refine ag (fun _=>?_) (fun h=>absurd (of_decide_eq_false h) (by omega));conv=>whnf
   refine aA (t+(s 0).lo) rfl (wrap_i64 (by omega)) ?_;conv=>whnf
   refine aA (t+(s 0).lo+(y:Int)) rfl (wrap_i64 (by omega)) ?_;conv=>whnf
   refine aA (t+(s 0).lo+(y:Int)+32) rfl (wrap_i64 (by omega)) ?_;conv=>whnf
   have hb:Aj (t+(s 0).lo) c y=fun q=>if q=((t+(s 0).lo+(y:Int)+32).tmod 32).toNat then c q+1 else c q:=rfl
   rw[hb]at hd;have Ro:0<=(t+(s 0).lo+(y:Int)+32).tmod 32/\(t+(s 0).lo+(y:Int)+32).tmod 32<32:=by
    rw[Int.tmod_eq_emod_of_nonneg (by omega)];omega
   generalize (t+(s 0).lo+(y:Int)+32).tmod 32=I at hd Ro ⊢;obtain⟨x,rfl⟩:∃ x:Nat,I=x:=⟨I.toNat,by omega⟩;rw[Int.toNat_natCast]at hd;have RL:x<32:=by omega
   have Mj:=GW x RL;have Rp:∀ q,q<32->0<=(if q=x then c q+1 else c q)/\(if q=x then c q+1 else c q)<=41*i+(y+1:Nat):=by
    intro q hq;have:=GW q hq;split<;>omega
   clear Ro hb GW k1 k2 k3 hO ht;have WA:x=0\/x=1\/x=2\/x=3\/x=4\/x=5\/x=6\/x=7\/x=8\/x=9\/x=10\/x=11\/x=12\/x=13\/x=14\/x=15\/x=16\/x=17\/x=18\/x=19\/x=20\/x=21\/x=22\/x=23\/x=24\/x=25\/x=26\/x=27\/x=28\/x=29\/x=30\/x=31:=by omega
   clear RL;rcases WA with rfl|rfl|rfl|rfl|rfl|rfl|rfl|rfl|rfl|rfl|rfl|rfl|rfl|rfl|rfl|rfl|rfl|rfl|rfl|rfl|rfl|rfl|rfl|rfl|rfl|rfl|rfl|rfl|rfl|rfl|rfl|rfl;all_goals
    conv=>whnf
    refine af ?_;conv=>whnf
    refine af ?_;conv=>whnf
    exact⟨_,⟨hd,Rp⟩,(Wk.sub ⟨(by first|rfl|(simp only[List.length_map];rfl)|(simp only[ab,Nat.reduceBEq,eq_self];rfl)|simp[PX.get]),(by first|rfl|(simp only[List.length_map];rfl)|(simp only[ab,Nat.reduceBEq,eq_self];rfl)|simp[PX.get]),(by first|rfl|(simp only[List.length_map];rfl)|(simp only[ab,Nat.reduceBEq,eq_self];rfl)|simp[PX.get]),(by first|rfl|(simp only[List.length_map];rfl)|(simp only[ab,Nat.reduceBEq,eq_self];rfl)|simp[PX.get]),(by first|rfl|(simp only[List.length_map];rfl)|(simp only[ab,Nat.reduceBEq,eq_self];rfl)|simp[PX.get]),(by first|rfl|(simp only[List.length_map];rfl)|(simp only[ab,Nat.reduceBEq,eq_self];rfl)|simp[PX.get]),(by first|rfl|(simp only[List.length_map];rfl)|(simp only[ab,Nat.reduceBEq,eq_self];rfl)|simp[PX.get]),(by first|rfl|(simp only[List.length_map];rfl)|(simp only[ab,Nat.reduceBEq,eq_self];rfl)|simp[PX.get]),(by first|rfl|(simp only[List.length_map];rfl)|(simp only[ab,Nat.reduceBEq,eq_self];rfl)|simp[PX.get]),(by first|rfl|(simp only[List.length_map];rfl)|(simp only[ab,Nat.reduceBEq,eq_self];rfl)|simp[PX.get]),(by first|rfl|(simp only[List.length_map];rfl)|(simp only[ab,Nat.reduceBEq,eq_self];rfl)|simp[PX.get]),trivial⟩ ⟨(by first|rfl|(simp only[List.length_map];rfl)|(simp only[ab,Nat.reduceBEq,eq_self];rfl)|simp[PX.get]),(by first|rfl|(simp only[List.length_map];rfl)|(simp only[ab,Nat.reduceBEq,eq_self];rfl)|simp[PX.get]),(by first|rfl|(simp only[List.length_map];rfl)|(simp only[ab,Nat.reduceBEq,eq_self];rfl)|simp[PX.get]),(by first|rfl|(simp only[List.length_map];rfl)|(simp only[ab,Nat.reduceBEq,eq_self];rfl)|simp[PX.get]),trivial⟩)⟩
  ·rintro c ⟨hd,GW⟩
   rw[List.foldl_nil]at hd;rw[List.length_range];conv=>whnf
   refine ag (fun h=>absurd (of_decide_eq_true h) (by omega)) (fun _=>?_);conv=>whnf
   refine af ?_;conv=>whnf
   exact⟨(c,M3),⟨Vz,by rw[he,hd],hm,fun q hq=>by have:=GW q hq;simp only at this ⊢;rw[List.length_range]at this;omega⟩,(Wk.sub ⟨(by first|rfl|(simp only[List.length_map];rfl)|(simp only[ab,Nat.reduceBEq,eq_self];rfl)|simp[PX.get]),(by first|rfl|(simp only[List.length_map];rfl)|(simp only[ab,Nat.reduceBEq,eq_self];rfl)|simp[PX.get]),(by first|rfl|(simp only[List.length_map];rfl)|(simp only[ab,Nat.reduceBEq,eq_self];rfl)|simp[PX.get]),(by first|rfl|(simp only[List.length_map];rfl)|(simp only[ab,Nat.reduceBEq,eq_self];rfl)|simp[PX.get]),(by first|rfl|(simp only[List.length_map];rfl)|(simp only[ab,Nat.reduceBEq,eq_self];rfl)|simp[PX.get]),(by first|rfl|(simp only[List.length_map];rfl)|(simp only[ab,Nat.reduceBEq,eq_self];rfl)|simp[PX.get]),(by first|rfl|(simp only[List.length_map];rfl)|(simp only[ab,Nat.reduceBEq,eq_self];rfl)|simp[PX.get]),trivial⟩ ⟨(by first|rfl|(simp only[List.length_map];rfl)|(simp only[ab,Nat.reduceBEq,eq_self];rfl)|simp[PX.get]),(by first|rfl|(simp only[List.length_map];rfl)|(simp only[ab,Nat.reduceBEq,eq_self];rfl)|simp[PX.get]),(by first|rfl|(simp only[List.length_map];rfl)|(simp only[ab,Nat.reduceBEq,eq_self];rfl)|simp[PX.get]),trivial⟩)⟩
 ·rintro ⟨c,M1⟩ ⟨wB,he,hm,GW⟩
  simp only at wB he hm GW;rw[List.foldl_nil]at he;rw[n7]at hm;rw[hm];conv=>whnf
  refine ag (fun h=>absurd h (by simp)) (fun _=>?_);conv=>whnf
  refine ak (ds:=[bS (c 0::(List.range' 1 31).map c)]) (Qn (c 0) ((List.range' 1 31).map c) (by simp)) rfl 1 ?_ ?_
  ·exact aG (cB (es:=(c 0::(List.range' 1 31).map c).map fun n=>[i64 n]) rfl rfl) rfl
  rw[he];conv=>whnf
  exact eT [_] rfl (by first|rfl|(simp only[ab,Nat.reduceBEq,eq_self];rfl)) rfl ⟨⟨rfl,rfl⟩,rfl⟩
end Go.PX
