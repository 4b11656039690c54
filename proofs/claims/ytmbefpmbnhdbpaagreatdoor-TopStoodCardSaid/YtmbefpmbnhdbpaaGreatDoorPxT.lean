import Derived.Test.YtmbefpmbnhdbpaaGreatDoorPxS
set_option linter.all false
set_option maxRecDepth 10000
namespace Go.PX
open Go.Proofs
theorem lO(x:List Int×av):R6 (vx x).1 (vx x).2=true:=by
 have h:oT (.arr 1 (.dd (ba x.1)))=true:=by
  simp only[oT,aK.bm];rw[dt];exact sq _
 show(sI (br 1000000 64) [1000000]&&sI (br 1000000 64) [1000000]&&(jw [.sl 1000000 1 0 x.1.length,.d x.2.d]&&(oT (.arr 1 (.dd (ba x.1)))&&true)))=true;rw[h];rfl
theorem zm(l:List Int)(hl:l.length<=1000):o9 Tryz.prog 65 [.sl 1000000 1 0 l.length] [(1000000,.arr 1 (.dd (ba l)))] fun v h'=>v = .sl 2000000 1 0 l.length/\h' = [(1000000,.arr 1 (.dd (ba l))),(2000000,.arr 1 (.dd (ba l)))]:=by
 intro σ Y s;refine dQ mixed ak Tryz.func65 rfl (ft:=Uj) (args:=[.sl 1000000 1 0 l.length]) (show nS Uj Tryz.f65 1=true from by decide +kernel) ?_;conv=>whnf
 refine aQ (by simp;rfl) ?_;conv=>whnf
 refine aQ (decide_eq_true (by dsimp only;omega)) ?_;conv=>whnf
 refine ag (by simp[aK.len,ba]) ?_;conv=>whnf
 refine aQ ?_ ?_
 ·simp only[List.length_replicate,Bool.and_eq_true]
  refine⟨by rw[Nat.ble_eq];omega,?_⟩;clear hl
  induction l with
  | nil=>rfl
  | cons x r ih=>exact ih
 conv=>whnf
 have hn:((l.length:Int)).toNat=l.length:=by omega
 have rR:(ba l).length=l.length:=by simp[ba]
 have e1:(List.take 0 (List.replicate (↑l.length:Int).toNat [D.int IntKind.i64 0])++List.take (min (ba l).length (↑l.length:Int).toNat) (ba l)++List.drop (0+min (ba l).length (↑l.length:Int).toNat) (List.replicate (↑l.length:Int).toNat [D.int IntKind.i64 0]))=ba l:=by
  rw[hn,rR];simp[List.take_of_length_le,rR]
 rw[e1,hn];refine aC [6] [.sl 2000000 1 0 l.length] [(1000000,.arr 1 (.dd (ba l))),(2000000,.arr 1 (.dd (ba l)))] rfl ⟨rfl,rfl,trivial⟩ rfl ?_;exact⟨⟨rfl,rfl⟩,rfl⟩
def y7(l:List (List Int)):D:=match l with
 | []=>.nils
 | x::r=>bt (x::r)
theorem Ic{c:aA}(hR:WR c){set:Int}:∀ {rota:List (List Int)} {t:av} {i:Int} {k:Int},3<=k->(0<=t.slot/\t.slot<c.bp.length)->TB t k->(0<=(bO c set t rota i).2.slot/\(bO c set t rota i).2.slot<c.bp.length)/\TB (bO c set t rota i).2 (k+rota.length)
 | [],t,i,k,_,hs,hb=>⟨hs,by simpa[bO]using hb⟩
 | r::rest,t,i,k,hk,hs,hb=>by
  rw[bO];split
  ·have:=Ic hR (set:=set) (rota:=rest) (t:=eb c t r) (i:=i+1) (k:=k+1) (by omega) (pA hR hs.1) (Ab hR hk hb)
   rw[show k+((r::rest).length:Int)=k+1+rest.length by simp;omega];exact this
  ·refine⟨hs,?_⟩
   constructor<;>have:=hb.m0<;>have:=hb.m1<;>have:=hb.m2<;>have:=hb.m3<;>have:=hb.m4<;>simp only[List.length_cons]<;>omega
theorem TB.tok{c:aA}(hR:WR c){t:av}{k:Int}(hk:k<=1000)(hs:0<=t.slot/\t.slot<c.bp.length)(h:TB t k):Pk t:=by
 have:=hR.bp;constructor<;>have:=h.m0<;>have:=h.m1<;>have:=h.m2<;>have:=h.m3<;>have:=h.m4<;>omega
theorem ya{c:aA}{rota:List (List Int)}(h0:gr c rota=0):WR c/\rota.length<=40/\Pk (pN c rota)/\(pN c rota).slot<c.bp.length:=by
 have hE:cB c rota=0:=by
  unfold gr at h0;split at h0
  ·assumption
  ·exact h0
 obtain⟨hR,hl,cn⟩:=kz hE;have hz:=TG.zero hR;obtain⟨h1,h2⟩:=Ic hR (set:=aN c) (rota:=rota) (t:=.zero) (i:=0) (k:=100) (by omega) hz.slot hz.bd;exact⟨hR,hl,TB.tok hR (by omega) h1 h2,h1.2⟩
theorem vo{c:aA}{set:Int}{t:av}{s:Slot}:∀ {left:Nat} {p:List Int} {start:Nat} {x:List Int×av},x∈et c set t s left p start->x.1.length=p.length+left
 | 0,p,start,x,h=>by
  rw[et]at h;split at h
  ·rw[List.mem_singleton]at h;subst h;rfl
  ·cases h
 | left+1,p,start,x,h=>by
  rw[et,List.mem_flatMap]at h;obtain⟨i,_,h⟩:=h;have:=vo h;simp at this;omega
theorem lH{c:aA}(hR:WR c){set:Int}{t:av}{x:List Int×av}(h:x∈cW c set t):x.1.length<=2:=by
 have h1:=vo h;have h2:(mT c t).bQ.toNat<=2:=by
  unfold mT
  cases hs:c.bp[t.slot.toNat]? with
  | none=>simp
  | some s=>
   have:=(hR.slot s (List.mem_of_getElem? hs)).1;simp;omega
 simp at h1;omega
theorem vk{α β:Type}{f:α->List β}{k:Nat}:∀ {l:List α},(∀ x∈l,(f x).length<=k)->(l.flatMap f).length<=l.length*k
 | [],_=>by simp
 | x::r,h=>by
  have h1:=h x (by simp);have h2:=vk (f:=f) (k:=k) (l:=r) fun y hy=>h y (by simp[hy]);rw[List.flatMap_cons,List.length_append,List.length_cons,Nat.add_mul];omega
theorem s9{c:aA}(hR:WR c){set:Int}{t:av}{s:Slot}:∀ {left:Nat} {p:List Int} {start:Nat},(et c set t s left p start).length<=5^left
 | 0,p,start=>by
  rw[et];split<;>simp
 | left+1,p,start=>by
  rw[et];refine Nat.le_trans (vk (k:=5^left) fun i _=>s9 hR) ?_;rw[List.length_range',Nat.pow_succ,Nat.mul_comm];exact Nat.mul_le_mul_left _ (by have:=hR.bQ;omega)
theorem vp{c:aA}(hR:WR c){set:Int}{t:av}:(cW c set t).length<=25:=by
 have h2:(mT c t).bQ.toNat<=2:=by
  unfold mT
  cases hs:c.bp[t.slot.toNat]? with
  | none=>simp
  | some s=>
   have:=(hR.slot s (List.mem_of_getElem? hs)).1;simp;omega
 refine Nat.le_trans (s9 hR) ?_;exact Nat.le_trans (Nat.pow_le_pow_right (by omega) h2) (by decide)
def Ir(c:aA)(rota:List (List Int)):List (List Int):=(cW c (aN c) (pN c rota)).map (·.1)
theorem WB(c:aA)(rota:List (List Int)):bq Tryz.prog 31 [c.d,bt rota] (.tup [if gr c rota=0 then y7 (Ir c rota) else .nils,i64 (gr c rota)]):=by
 refine aI mixed ak Tryz.func31 rfl (ft:=(X7.more 6 [101664])) 2 (by decide +kernel) (by rfl) fun {σ} Y st=>?_;conv=>whnf
 refine ai (Sr c rota) rfl rfl ?_;conv=>whnf
 by_cases h0:gr c rota=0
 ·obtain⟨hR,hl,pV,CM⟩:=ya h0
  rw[h0];simp only[if_true];conv=>whnf
  refine ai (GO c (aN c) (pN c rota)) rfl rfl ?_;conv=>whnf
  refine fV ak (by exact an mixed ak (by decide +kernel)) (by exact an mixed ak (by decide +kernel)) rfl 1500000 1600000 [2,4,7] (by exact mb c hR (aN c) (pN c rota) pV CM)
   (fun(x:List (List Int))=>match x with
    | []=>([(1500000,.box (.dd c.cells)),(1500001,.box (.dd [.nils])),(1500002,.box (.dd (pN c rota).cells))],st)
    | g::r=>([(1500000,.box (.dd c.cells)),(1500001,.box (.vv [.sl 28 1 0 (g::r).length])),(1500002,.box (.dd (pN c rota).cells)),(28,.arr 1 (.dd ((g::r).map fun r=>[ax r])))],st))
   (fun rest x=>Ir c rota=x++rest.map (fun(p:List Int×av)=>p.1) /\ ∀ p∈rest,p.1.length<=2) [] rfl rfl rfl ⟨rfl,fun p hp=>lH hR hp⟩ ?_ ?_
  ·rintro ⟨g,u⟩ rest acc ⟨he,Hu⟩ Q yd -
   have wG:g.length<=1000:=by have:=Hu (g,u) (by simp);simp only at this;omega
   refine⟨⟨rfl,lO _⟩,?_⟩
   cases acc with
   | nil=>
    conv=>whnf
    refine cE (zm g wG) [1600000] rfl ⟨_,_,rfl,rfl,rfl⟩ rfl ?_;conv=>whnf
    refine ag rfl ?_;conv=>whnf
    refine⟨[g],(Wk.iB 1 [101664] 28 (vs:=[[.sl 101664 1 0 g.length]]) (ds:=[[ax g]]) rfl (dL (az (bH rfl (by simp[ba])) rfl))).trans (Wk.sub trivial (by repeat' first|constructor|simp[PX.get])),rfl,yd _ ⟨by simpa using he,fun p hp=>Hu p (by simp[hp])⟩⟩
   | cons a r=>
    conv=>whnf
    refine cE (zm g wG) [1600000] rfl ⟨_,_,rfl,rfl,rfl⟩ rfl ?_;conv=>whnf
    refine ag rfl ?_;conv=>whnf
    refine ag (by simp[aK.len]) ?_;conv=>whnf
    have dn:(a::r).length<=25:=by
     have h1:(Ir c rota).length<=25:=by unfold Ir;rw[List.length_map];exact vp hR
     rw[he]at h1;simp at h1 ⊢;omega
    have eV:(true && !dF 28 ((aG ((a::r).map fun r=>[ax r]) ++ [[V.sl 101664 1 0 g.length]]).flatten))=true:=by
     rw[eh];rfl
    refine aQ eV ?_;conv=>whnf
    refine aQ (decide_eq_true (by
     show(((a::r).map fun r=>[ax r]).length+1)*24<=140737488355328;rw[List.length_map];omega)) ?_
    conv=>whnf
    refine fN [101664,28] (by
     show bJ ((aG ((a::r).map fun r=>[ax r]) ++ [[V.sl 101664 1 0 g.length]]).flatten)++([28] ++ [])=_;rw[dq];rfl) ?_
    conv=>whnf
    refine⟨a::r ++ [g],(Wk.iB 1 [101664] 28 (sz:=1) (vs:=aG ((a::r).map fun r=>[ax r]) ++ [[.sl 101664 1 0 g.length]]) (ds:=((a::r).map fun r=>[ax r]) ++ [[ax g]]) ?_ (dK (dL (az (bH rfl (by simp[ba])) rfl)) _)).trans ?_,rfl,yd _ ⟨by simpa using he,fun p hp=>Hu p (by simp[hp])⟩⟩
    ·rfl
    ·refine Wk.sub trivial ⟨rfl,?_,rfl,?_,rfl,trivial⟩
     ·show some (Obj.box (Cells.vv [V.sl 28 1 0 (((a::r).map fun r=>[ax r]).length+1)]))=some (Obj.box (Cells.vv [V.sl 28 1 0 (a::(r ++ [g])).length]))
      simp
     ·show some (Obj.arr 1 (aK.dd (((a::r).map fun r=>[ax r]) ++ [[ax g]])))=some (Obj.arr 1 (aK.dd ((a::(r ++ [g])).map fun r=>[ax r])))
      simp
  ·rintro acc ⟨he,_⟩
   have he:Ir c rota=acc:=by simpa using he
   rw[he]
   cases acc with
   | nil=>
    conv=>whnf
    refine ab 0 rfl ⟨⟨?_,rfl⟩,rfl⟩;simp[js,y7]
   | cons a r=>
    conv=>whnf
    refine ab 1 (ds:=[bt (a::r),i64 0]) ?_ ⟨⟨?_,rfl⟩,rfl⟩
    ·exact az (bH (es:=(a::r).map fun r=>[ax r]) rfl (by simp)) rfl
    ·simp[js,y7]
 ·rw[if_neg h0,if_neg h0]
  conv=>whnf
  refine af (fun _=>?_) (fun h1=>absurd h1 (by simp[h0]));conv=>whnf
  rw[if_neg h0];exact ab 0 rfl ⟨⟨rfl,rfl⟩,rfl⟩
abbrev Kn:=List (av×Int)
def mS(kn:Kn):List (D×D):=kn.map fun p=>(p.1.d,i64 p.2)
def cP:Kn->av->Option Int
 | [],_=>none
 | (u,x)::r,t=>if t=u then some x else cP r t
def dS:Kn->av->Int->Kn
 | [],t,v=>[(t,v)]
 | (u,x)::r,t,v=>if t=u then (t,v)::r else (u,x)::dS r t v
theorem oM(t u:av):fR t.d u.d=some (decide (t=u)):=by
 have h:cQ t.cells u.cells=some (decide (t.slot=u.slot)&&(decide (t.m0=u.m0)&&(decide (t.m1=u.m1)&&(decide (t.m2=u.m2)&&(decide (t.m3=u.m3)&&(decide (t.m4=u.m4)&&true)))))):=rfl;show cQ t.cells u.cells=_;rw[h]
 congr 1
 cases t;cases u
 simp[Bool.and_assoc]
theorem ed{kn:Kn}{t:av}(h:cP kn t=none):∀ n,findD t.d (mS kn) n=some none:=by
 induction kn with
 | nil=>intro n;rfl
 | cons p r ih=>
  obtain⟨u,x⟩:=p;intro n;rw[cP]at h;split at h
  ·cases h
  ·rename_i hu
   show(match fR t.d u.d with
    | some true=>some (some (n,i64 x))
    | some false=>findD t.d (mS r) (n+1)
    | none=>none)=_
   rw[oM,decide_eq_false hu];exact ih h (n+1)
theorem eL{kn:Kn}{t:av}{v:Int}(h:cP kn t=some v):∀ n,∃ i,findD t.d (mS kn) n=some (some (n+i,i64 v)) /\ ∀ y,(mS kn).set i (t.d,i64 y)=mS (dS kn t y):=by
 induction kn with
 | nil=>cases h
 | cons p r ih=>
  obtain⟨u,x⟩:=p;intro n;rw[cP]at h;split at h
  ·rename_i hu
   cases h;refine⟨0,?_,fun y=>?_⟩
   ·show(match fR t.d u.d with
     | some true=>some (some (n,i64 v))
     | some false=>findD t.d (mS r) (n+1)
     | none=>none)=_
    rw[oM,decide_eq_true hu];rfl
   ·rw[dS,if_pos hu];rfl
  ·rename_i hu
   obtain⟨i,h1,h2⟩:=ih h (n+1);refine⟨i+1,?_,fun y=>?_⟩
   ·show(match fR t.d u.d with
     | some true=>some (some (n,i64 x))
     | some false=>findD t.d (mS r) (n+1)
     | none=>none)=_
    rw[oM,decide_eq_false hu];show findD t.d (mS r) (n+1)=_;rw[h1,show n+1+i=n+(i+1) by omega]
   ·rw[dS,if_neg hu]
    show(u.d,i64 x)::(mS r).set i (t.d,i64 y)=(u.d,i64 x)::mS (dS r t y);rw[h2 y]
theorem hP{kn:Kn}{t:av}(h:cP kn t=none)(y:Int):mS kn ++ [(t.d,i64 y)]=mS (dS kn t y):=by
 induction kn with
 | nil=>rfl
 | cons p r ih=>
  obtain⟨u,x⟩:=p;rw[cP]at h;split at h
  ·cases h
  ·rename_i hu
   rw[dS,if_neg hu];show(u.d,i64 x)::(mS r ++ [(t.d,i64 y)])=_;rw[ih h];rfl
theorem bT(kn:Kn)(t u:av)(y:Int):cP (dS kn t y) u=if u=t then some y else cP kn u:=by
 induction kn with
 | nil=>rfl
 | cons p r ih=>
  obtain⟨w,x⟩:=p;rw[dS];split
  ·rename_i h
   subst h;simp only[cP];split<;>rfl
  ·rename_i h
   simp only[cP];split
   ·rename_i h2
    subst h2;rw[if_neg (fun e=>h e.symm)]
   ·exact ih
def fA(kn:Kn)(t:av):Bool:=!(cP kn t ==some 1||cP kn t ==some 2||cP kn t ==some 3)
def kY(f:Kn->av->Bool×Kn):Kn->List av->Bool×Kn
 | kn,[]=>(false,kn)
 | kn,u::r=>if (f kn u).1 then (true,(f kn u).2) else kY f (f kn u).2 r
def fz(c:aA)(set:Int):Nat->Kn->av->Bool×Kn
 | 0,kn,t=>(cP kn t ==some 2||cP kn t ==some 1,kn)
 | n+1,kn,t=>
  if cP kn t=some 2\/cP kn t=some 1 then (true,kn)
  else if cP kn t=some 3 then (false,kn)
  else
   let r:=kY (fz c set n) (dS kn t 1) ((cW c set t).map (·.2))
   (r.1,dS r.2 t (if r.1 then 2 else 3))
structure jz(c:aA)(t:av):Prop where
 slot:0<=t.slot/\t.slot<c.bp.length
 m:∀ j,j<5 -> -2<=t.get j/\t.get j<=3
def JM:List Int:=[-2,-1,0,1,2,3]
def univ(c:aA):List av:=(List.range c.bp.length).flatMap fun s=>JM.flatMap fun a=>JM.flatMap fun b=>JM.flatMap fun d=>JM.flatMap fun e=>JM.map fun f=>⟨(s:Nat),a,b,d,e,f⟩
theorem p9{x:Int}(h : -2<=x/\x<=3):x∈JM:=by
 have:x = -2\/x = -1\/x=0\/x=1\/x=2\/x=3:=by omega
 rcases this with rfl|rfl|rfl|rfl|rfl|rfl<;>decide
theorem jz.mem{c:aA}{t:av}(h:jz c t):t∈univ c:=by
 obtain⟨hs,hm⟩:=h;simp only[univ,List.mem_flatMap,List.mem_map,List.mem_range];refine⟨t.slot.toNat,by omega,t.m0,p9 (hm 0 (by decide)),t.m1,p9 (hm 1 (by decide)),t.m2,p9 (hm 2 (by decide)),t.m3,p9 (hm 3 (by decide)),t.m4,p9 (hm 4 (by decide)),?_⟩;have:((t.slot.toNat:Nat):Int)=t.slot:=by omega
 rw[this]
theorem fL{α β:Type}{f:α->List β}{k:Nat}:∀ {l:List α},(∀ x,(f x).length=k)->(l.flatMap f).length=l.length*k
 | [],_=>by simp
 | x::r,h=>by
  rw[List.flatMap_cons,List.length_append,h x,fL (l:=r) h,List.length_cons,Nat.add_mul];omega
theorem M4(c:aA):(univ c).length=c.bp.length*7776:=by
 unfold univ;rw[fL (k:=7776),List.length_range];intro s;rw[fL (k:=1296)];· rfl
 intro a;rw[fL (k:=216)];· rfl
 intro b;rw[fL (k:=36)];· rfl
 intro d;rw[fL (k:=6)];· rfl
 intro e;rfl
def vX(c:aA)(kn:Kn):Nat:=((univ c).filter (fA kn)).length
theorem filter_le{α:Type}{p q:α->Bool}(h:∀ x,q x=true->p x=true):∀ (l:List α),(l.filter q).length<=(l.filter p).length
 | []=>Nat.le_refl _
 | x::r=>by
  have:=filter_le h r;rw[List.filter_cons,List.filter_cons];by_cases hq:q x=true
  ·rw[if_pos hq,if_pos (h x hq)];simp;omega
  ·rw[if_neg hq]
   split
   ·simp;omega
   ·exact this
theorem oq{α:Type}{p q:α->Bool}(h:∀ x,q x=true->p x=true):∀ {l:List α} {y:α},y∈l->p y=true->q y=false->(l.filter q).length<(l.filter p).length
 | [],y,hy,_,_=>by cases hy
 | x::r,y,hy,hp,hq=>by
  rw[List.filter_cons,List.filter_cons];rcases List.mem_cons.1 hy with rfl|hy
  ·rw[if_pos hp,if_neg (by rw[hq];simp)]
   have:=filter_le h r;simp;omega
  ·have:=oq h hy hp hq
   by_cases HA:q x=true
   ·rw[if_pos HA,if_pos (h x HA)];simp;omega
   ·rw[if_neg HA]
    split
    ·simp;omega
    ·exact this
def wZ(a b:Kn):Prop:=∀ t,fA b t=true->fA a t=true
theorem wZ.NF{c:aA}{a b:Kn}(h:wZ a b):vX c b<=vX c a:=filter_le h _
theorem wZ.put(kn:Kn)(t:av){y:Int}(hy:y=1\/y=2\/y=3):wZ kn (dS kn t y):=by
 intro u hu;unfold fA at hu ⊢;rw[bT]at hu;split at hu
 ·rcases hy with rfl|rfl|rfl<;>simp at hu
 ·exact hu
theorem wz{c:aA}{kn:Kn}{t:av}(ht:jz c t)(hf:fA kn t=true):vX c (dS kn t 1)<vX c kn:=by
 refine oq (wZ.put kn t (.inl rfl)) ht.mem hf ?_;unfold fA;rw[bT,if_pos rfl];rfl
theorem H6{f:Kn->av->Bool×Kn}(hf:∀ kn t,wZ kn (f kn t).2):∀ (l:List av) (kn:Kn),wZ kn (kY f kn l).2
 | [],kn=>fun _ h=>h
 | u::r,kn=>by
  rw[kY];split
  ·exact hf kn u
  ·exact fun t h=>hf kn u t (H6 hf r _ t h)
theorem wD{c:aA}{set:Int}:∀ (n:Nat) (kn:Kn) (t:av),wZ kn (fz c set n kn t).2
 | 0,kn,t=>fun _ h=>h
 | n+1,kn,t=>by
  rw[fz];split
  ·exact fun _ h=>h
  split
  ·exact fun _ h=>h
  intro u hu;refine wZ.put kn t (y:=1) (.inl rfl) u (H6 (wD n) _ _ u (wZ.put _ t ?_ u hu));split
  ·exact .inr (.inl rfl)
  ·exact .inr (.inr rfl)
theorem M9{c:aA}{set:Int}{t:av}{s:Slot}{p:List Int}(h:(qs c set t s p).1=0):(p.length:Int)=s.bQ/\(∃ m∈p,(oY c m).kind≥s.least)/\(∀ m∈p,jb set m=true/\t.slot∉(oY c m).no)/\(∀ m∈p,t.get m.toNat<c.run)/\(∀ m∈p,0<=t.get m.toNat):=by
 unfold qs at h;split at h
 ·simp at h
 rename_i h1;split at h
 ·simp at h
 rename_i h2;split at h
 ·simp at h
 rename_i h3;split at h
 ·simp at h
 rename_i h4;split at h
 ·simp at h
 rename_i h5;refine⟨by simpa using h1,?_,?_,?_,?_⟩
 ·simpa using h2
 ·intro m hm
  have:=List.find?_eq_none.1 h3 m hm;simpa using this
 ·intro m hm
  have:=List.find?_eq_none.1 h4 m hm;simpa using this
 ·intro m hm
  have:=List.find?_eq_none.1 h5 m hm;simpa using this
theorem Fa{c:aA}(hR:WR c){t:av}{group:List Int}{j:Nat}(hj:j<5):(eb c t group).get j=if j<c.bQ.length then dJ c.rest (decide ((j:Int)∈group)) (t.get j) else t.get j:=by
 have hm:=hR.bQ;unfold eb;rw[oP (by omega) hj];have h2:(av.mk ((t.slot+1).tmod c.bp.length) t.m0 t.m1 t.m2 t.m3 t.m4).get j=t.get j:=by
  have h2:j=0\/j=1\/j=2\/j=3\/j=4:=by omega
  rcases h2 with rfl|rfl|rfl|rfl|rfl<;>rfl
 show(if j<c.bQ.length then dJ c.rest (decide ((j:Int)∈group)) ((av.mk ((t.slot+1).tmod c.bp.length) t.m0 t.m1 t.m2 t.m3 t.m4).get j) else (av.mk ((t.slot+1).tmod c.bp.length) t.m0 t.m1 t.m2 t.m3 t.m4).get j)=_;rw[h2]
theorem xn{c:aA}(hR:WR c){set:Int}{t:av}{s:Slot}{p:List Int}(ht:jz c t)(h:(qs c set t s p).1=0):jz c (eb c t p):=by
 have hr:=hR.run;have hre:=hR.rest;obtain⟨_,_,_,h4,h5⟩:=M9 h;refine⟨pA hR ht.slot.1,fun j hj=>?_⟩;have:=ht.m j hj;rw[Fa hR hj];split
 ·unfold dJ
  split
  ·rename_i fF
   have fF:(j:Int)∈p:=of_decide_eq_true fF;have h6:=h4 _ fF;have h7:=h5 _ fF;simp only[Int.toNat_natCast]at h6 h7;omega
  ·split
   ·omega
   ·split<;>omega
 ·exact this
theorem rP{c:aA}{set:Int}{t:av}{s:Slot}:∀ {left:Nat} {p:List Int} {start:Nat} {x:List Int×av},x∈et c set t s left p start->(qs c set t s x.1).1=0/\x.2=eb c t x.1
 | 0,p,start,x,h=>by
  rw[et]at h;split at h
  ·rename_i h0
   rw[List.mem_singleton]at h;subst h;exact⟨h0,rfl⟩
  ·cases h
 | left+1,p,start,x,h=>by
  rw[et,List.mem_flatMap]at h;obtain⟨i,_,h⟩:=h;exact rP h
theorem gf{c:aA}(hR:WR c){set:Int}{t:av}(ht:jz c t){x:List Int×av}(h:x∈cW c set t):jz c x.2:=by
 obtain⟨h1,h2⟩:=rP h;rw[h2];exact xn hR ht h1
theorem jz.zero{c:aA}(hR:WR c):jz c av.zero:=by
 have:=hR.bp;refine⟨by simp[av.zero];omega,fun j hj=>?_⟩;have h2:j=0\/j=1\/j=2\/j=3\/j=4:=by omega
 rcases h2 with rfl|rfl|rfl|rfl|rfl<;>simp[av.zero,av.get]
theorem jz.tok{c:aA}(hR:WR c){t:av}(h:jz c t):Pk t/\t.slot<c.bp.length:=by
 have:=hR.bp;have h0:=h.m 0 (by decide);have h1:=h.m 1 (by decide);have h2:=h.m 2 (by decide);have h3:=h.m 3 (by decide);have h4:=h.m 4 (by decide);have hs:=h.slot;simp only[av.get]at h0 h1 h2 h3 h4;exact⟨⟨by omega,by omega,by omega,by omega,by omega,by omega⟩,hs.2⟩
def mg(c:aA)(set:Int)(k f:Kn):Heap:=[(1000000,.box (.vv [.d (bC c set),.mp 1000001,.mp 1000002])),(1000001,.map (mS k)),(1000002,.map (mS f))]
def J5(c:aA)(set:Int)(n:Nat):Prop:=
 ∀ (kn fa:Kn) (t:av),jz c t->vX c kn<=n->o9 Tryz.prog 63 [.ptr 1000000 0,.d t.d] (mg c set kn fa) fun v h'=>v = .d (.bool (fz c set n kn t).1)/\h'=mg c set (fz c set n kn t).2 fa
theorem wC{c:aA}{set:Int}{kn:Kn}{t:av}(h:cP kn t=some 2\/cP kn t=some 1):∀ n,fz c set n kn t=(true,kn)
 | 0=>by rw[fz];rcases h with h|h<;>simp[h]
 | n+1=>by rw[fz,if_pos h]
theorem KJ{c:aA}{set:Int}{kn:Kn}{t:av}(h:cP kn t=some 3):∀ n,fz c set n kn t=(false,kn)
 | 0=>by rw[fz];simp[h]
 | n+1=>by rw[fz,if_neg (by simp[h]),if_pos h]
theorem C6{c:aA}{set:Int}{kn:Kn}{t:av}(h:fA kn t=true)(n:Nat):fz c set (n+1) kn t=((kY (fz c set n) (dS kn t 1) ((cW c set t).map (·.2))).1,dS (kY (fz c set n) (dS kn t 1) ((cW c set t).map (·.2))).2 t (if (kY (fz c set n) (dS kn t 1) ((cW c set t).map (·.2))).1 then 2 else 3)):=by
 rw[fz,if_neg,if_neg]
 ·intro h2;rw[fA,h2]at h;simp at h
 ·intro h2;rcases h2 with h2|h2<;>rw[fA,h2]at h<;>simp at h
theorem Hb{c:aA}(hR:WR c){set:Int}{n:Nat}(ih:∀ m,n=m+1->J5 c set m):J5 c set n:=by
 intro kn fa t ht hc σ Y s;refine dQ mixed ak Tryz.func63 rfl (ft:=Ui) (args:=[.ptr 1000000 0,.d t.d]) (show nS Ui Tryz.f63 2=true from by decide +kernel) ?_;conv=>whnf
 by_cases hf:fA kn t=true
 ·obtain⟨m,rfl⟩:∃ m,n=m+1:=⟨n-1,by have:=wz ht hf;omega⟩
  rw[C6 hf];have ih:=ih m rfl;have pb:vX c (dS kn t 1)<=m:=by have:=wz ht hf;omega
  have SI:∀ v,cP kn t=some v->v≠2/\v≠1/\v≠3:=by
   intro v hv;refine⟨?_,?_,?_⟩<;>rintro rfl<;>rw[fA,hv]at hf<;>simp at hf
  cases hk:cP kn t with
  | none=>
   refine⟨none,ed hk 0,?_⟩;conv=>whnf
   refine⟨none,ed hk 0,?_⟩;conv=>whnf
   refine aH (ds:=[bC c set,t.d]) (GO c set t) rfl rfl ?_;conv=>whnf
   refine iK.wk (st':=⟨[(2,.ptr 2 0),(3,.ptr 3 0),(4,.ptr 4 0),(28,.d (.clo 127 [.ref [bC c set],.ref t.cells]))],[(1000000,.box (.vv [.d (bC c set),.mp 1000001,.mp 1000002])),(1000001,.map (mS (dS kn t 1))),(1000002,.map (mS fa)),(2,.box (.vv [.ptr 1000000 0])),(3,.box (.dd t.cells)),(4,.box (.dd [.bool false]))],s⟩) (Wk.sub ⟨rfl,rfl,rfl,rfl,trivial⟩ ⟨rfl,(by rw[<- hP hk];rfl),rfl,rfl,rfl,rfl,trivial⟩) ?_;obtain⟨pV,CM⟩:=ht.tok hR;refine fV ak (by exact an mixed ak (by decide +kernel)) (by exact an mixed ak (by decide +kernel)) rfl 1500000 1600000 [2,3,4] (by exact mb c hR set t pV CM)
    (fun(x:Kn)=>([(1000000,.box (.vv [.d (bC c set),.mp 1000001,.mp 1000002])),(1000001,.map (mS x)),(1000002,.map (mS fa)),(1500000,.box (.vv [.ptr 1000000 0])),(1500001,.box (.dd t.cells)),(1500002,.box (.dd [.bool false]))],s))
    (fun(rest:List (List Int×av)) x=>kY (fz c set m) (dS kn t 1) ((cW c set t).map (·.2))=kY (fz c set m) x (rest.map (·.2))/\vX c x<=m /\ ∀ p∈rest,jz c p.2) (dS kn t 1) rfl rfl rfl ⟨rfl,pb,fun p hp=>gf hR ht hp⟩ ?_ ?_
   ·rintro ⟨g,u⟩ rest x ⟨he,Q3,fF⟩ Q yd hQ
    refine⟨⟨rfl,lO _⟩,?_⟩;have hu:jz c u:=fF (g,u) (by simp);rw[List.map_cons,kY]at he;conv=>whnf
    refine aY (ih x fa u hu Q3) [1000000,1000001,1000002] rfl ⟨_,_,rfl,rfl,_,_,rfl,rfl,_,_,rfl,rfl,rfl⟩ rfl ?_
    cases hb:(fz c set m x u).1 with
    | false=>
     rw[hb]at he;simp only[Bool.false_eq_true,if_false]at he;conv=>whnf
     exact⟨(fz c set m x u).2,(Wk.sub trivial (by repeat' first|constructor|simp[PX.get])),rfl,yd _ ⟨he,Nat.le_trans (wD m x u).NF Q3,fun p hp=>fF p (by simp[hp])⟩⟩
    | true=>
     rw[hb]at he;simp only[if_true]at he;conv=>whnf
     cases gu:cP (fz c set m x u).2 t with
     | none=>
      refine⟨none,ed gu 0,?_⟩;conv=>whnf
      refine⟨[(1000000,.box (.vv [.d (bC c set),.mp 1000001,.mp 1000002])),(1000001,.map (mS (dS (fz c set m x u).2 t 2))),(1000002,.map (mS fa)),(1500000,.box (.vv [.ptr 1000000 0])),(1500001,.box (.dd t.cells)),(1500002,.box (.dd [.bool true]))],s,Wk.sub trivial ⟨rfl,(by rw[<- hP gu];rfl),rfl,rfl,rfl,rfl,rfl,trivial⟩,rfl,hQ _ _ _ ?_⟩;conv=>whnf
      refine aC [] [.d (.bool true)] (mg c set (dS (fz c set m x u).2 t 2) fa) rfl ⟨rfl,rfl,rfl,trivial⟩ rfl ⟨⟨?_,?_⟩,rfl⟩
      ·rw[he];rfl
      ·rw[he];rfl
     | some v2=>
      obtain⟨Xq,mw,FN⟩:=eL gu 0;refine⟨_,mw,?_⟩;conv=>whnf
      refine⟨[(1000000,.box (.vv [.d (bC c set),.mp 1000001,.mp 1000002])),(1000001,.map (mS (dS (fz c set m x u).2 t 2))),(1000002,.map (mS fa)),(1500000,.box (.vv [.ptr 1000000 0])),(1500001,.box (.dd t.cells)),(1500002,.box (.dd [.bool true]))],s,Wk.sub trivial ⟨rfl,(by rw[<- FN,Nat.zero_add];rfl),rfl,rfl,rfl,rfl,rfl,trivial⟩,rfl,hQ _ _ _ ?_⟩;conv=>whnf
      refine aC [] [.d (.bool true)] (mg c set (dS (fz c set m x u).2 t 2) fa) rfl ⟨rfl,rfl,rfl,trivial⟩ rfl ⟨⟨?_,?_⟩,rfl⟩
      ·rw[he];rfl
      ·rw[he];rfl
   ·rintro x ⟨he,Q3,_⟩
    rw[List.map_nil,kY]at he;conv=>whnf
    cases gu:cP x t with
    | none=>
     refine⟨none,ed gu 0,?_⟩;conv=>whnf
     refine aC [] [.d (.bool false)] (mg c set (dS x t 3) fa) rfl ⟨rfl,(by rw[<- hP gu];rfl),rfl,trivial⟩ rfl ⟨⟨?_,?_⟩,rfl⟩
     ·rw[he];rfl
     ·rw[he];rfl
    | some v2=>
     obtain⟨Xq,mw,FN⟩:=eL gu 0;refine⟨_,mw,?_⟩;conv=>whnf
     refine aC [] [.d (.bool false)] (mg c set (dS x t 3) fa) rfl ⟨rfl,(by rw[<- FN,Nat.zero_add];rfl),rfl,trivial⟩ rfl ⟨⟨?_,?_⟩,rfl⟩
     ·rw[he];rfl
     ·rw[he];rfl
  | some v=>
   obtain⟨ix,mf,ub⟩:=eL hk 0;obtain⟨n1,n2,n3⟩:=SI v hk;refine⟨_,mf,?_⟩;conv=>whnf
   refine af (fun h=>absurd h (by simpa using n1)) (fun _=>?_);conv=>whnf
   refine af (fun h=>absurd h (by simpa using n2)) (fun _=>?_);conv=>whnf
   refine af (fun h=>absurd h (by simpa using n3)) (fun _=>?_);conv=>whnf
   refine⟨_,mf,?_⟩;conv=>whnf
   refine aH (ds:=[bC c set,t.d]) (GO c set t) rfl rfl ?_;conv=>whnf
   refine iK.wk (st':=⟨[(2,.ptr 2 0),(3,.ptr 3 0),(4,.ptr 4 0),(28,.d (.clo 127 [.ref [bC c set],.ref t.cells]))],[(1000000,.box (.vv [.d (bC c set),.mp 1000001,.mp 1000002])),(1000001,.map (mS (dS kn t 1))),(1000002,.map (mS fa)),(2,.box (.vv [.ptr 1000000 0])),(3,.box (.dd t.cells)),(4,.box (.dd [.bool false]))],s⟩) (Wk.sub ⟨rfl,rfl,rfl,rfl,trivial⟩ ⟨rfl,(by rw[<- ub,Nat.zero_add];rfl),rfl,rfl,rfl,rfl,trivial⟩) ?_;obtain⟨pV,CM⟩:=ht.tok hR;refine fV ak (by exact an mixed ak (by decide +kernel)) (by exact an mixed ak (by decide +kernel)) rfl 1500000 1600000 [2,3,4] (by exact mb c hR set t pV CM)
    (fun(x:Kn)=>([(1000000,.box (.vv [.d (bC c set),.mp 1000001,.mp 1000002])),(1000001,.map (mS x)),(1000002,.map (mS fa)),(1500000,.box (.vv [.ptr 1000000 0])),(1500001,.box (.dd t.cells)),(1500002,.box (.dd [.bool false]))],s))
    (fun(rest:List (List Int×av)) x=>kY (fz c set m) (dS kn t 1) ((cW c set t).map (·.2))=kY (fz c set m) x (rest.map (·.2))/\vX c x<=m /\ ∀ p∈rest,jz c p.2) (dS kn t 1) rfl rfl rfl ⟨rfl,pb,fun p hp=>gf hR ht hp⟩ ?_ ?_
   ·rintro ⟨g,u⟩ rest x ⟨he,Q3,fF⟩ Q yd hQ
    refine⟨⟨rfl,lO _⟩,?_⟩;have hu:jz c u:=fF (g,u) (by simp);rw[List.map_cons,kY]at he;conv=>whnf
    refine aY (ih x fa u hu Q3) [1000000,1000001,1000002] rfl ⟨_,_,rfl,rfl,_,_,rfl,rfl,_,_,rfl,rfl,rfl⟩ rfl ?_
    cases hb:(fz c set m x u).1 with
    | false=>
     rw[hb]at he;simp only[Bool.false_eq_true,if_false]at he;conv=>whnf
     exact⟨(fz c set m x u).2,(Wk.sub trivial (by repeat' first|constructor|simp[PX.get])),rfl,yd _ ⟨he,Nat.le_trans (wD m x u).NF Q3,fun p hp=>fF p (by simp[hp])⟩⟩
    | true=>
     rw[hb]at he;simp only[if_true]at he;conv=>whnf
     cases gu:cP (fz c set m x u).2 t with
     | none=>
      refine⟨none,ed gu 0,?_⟩;conv=>whnf
      refine⟨[(1000000,.box (.vv [.d (bC c set),.mp 1000001,.mp 1000002])),(1000001,.map (mS (dS (fz c set m x u).2 t 2))),(1000002,.map (mS fa)),(1500000,.box (.vv [.ptr 1000000 0])),(1500001,.box (.dd t.cells)),(1500002,.box (.dd [.bool true]))],s,Wk.sub trivial ⟨rfl,(by rw[<- hP gu];rfl),rfl,rfl,rfl,rfl,rfl,trivial⟩,rfl,hQ _ _ _ ?_⟩;conv=>whnf
      refine aC [] [.d (.bool true)] (mg c set (dS (fz c set m x u).2 t 2) fa) rfl ⟨rfl,rfl,rfl,trivial⟩ rfl ⟨⟨?_,?_⟩,rfl⟩
      ·rw[he];rfl
      ·rw[he];rfl
     | some v2=>
      obtain⟨Xq,mw,FN⟩:=eL gu 0;refine⟨_,mw,?_⟩;conv=>whnf
      refine⟨[(1000000,.box (.vv [.d (bC c set),.mp 1000001,.mp 1000002])),(1000001,.map (mS (dS (fz c set m x u).2 t 2))),(1000002,.map (mS fa)),(1500000,.box (.vv [.ptr 1000000 0])),(1500001,.box (.dd t.cells)),(1500002,.box (.dd [.bool true]))],s,Wk.sub trivial ⟨rfl,(by rw[<- FN,Nat.zero_add];rfl),rfl,rfl,rfl,rfl,rfl,trivial⟩,rfl,hQ _ _ _ ?_⟩;conv=>whnf
      refine aC [] [.d (.bool true)] (mg c set (dS (fz c set m x u).2 t 2) fa) rfl ⟨rfl,rfl,rfl,trivial⟩ rfl ⟨⟨?_,?_⟩,rfl⟩
      ·rw[he];rfl
      ·rw[he];rfl
   ·rintro x ⟨he,Q3,_⟩
    rw[List.map_nil,kY]at he;conv=>whnf
    cases gu:cP x t with
    | none=>
     refine⟨none,ed gu 0,?_⟩;conv=>whnf
     refine aC [] [.d (.bool false)] (mg c set (dS x t 3) fa) rfl ⟨rfl,(by rw[<- hP gu];rfl),rfl,trivial⟩ rfl ⟨⟨?_,?_⟩,rfl⟩
     ·rw[he];rfl
     ·rw[he];rfl
    | some v2=>
     obtain⟨Xq,mw,FN⟩:=eL gu 0;refine⟨_,mw,?_⟩;conv=>whnf
     refine aC [] [.d (.bool false)] (mg c set (dS x t 3) fa) rfl ⟨rfl,(by rw[<- FN,Nat.zero_add];rfl),rfl,trivial⟩ rfl ⟨⟨?_,?_⟩,rfl⟩
     ·rw[he];rfl
     ·rw[he];rfl
 ·have hf:fA kn t=false:=by simpa using hf
  cases hk:cP kn t with
  | none=>rw[fA,hk]at hf;simp at hf
  | some v=>
   obtain⟨ix,mf,_⟩:=eL hk 0;have hv:v=2\/v=1\/v=3:=by
    rw[fA,hk]at hf;simp at hf;omega
   refine⟨_,mf,?_⟩;rcases hv with rfl|rfl|rfl
   ·rw[wC (.inl hk)]
    conv=>whnf
    refine aC [] [.d (.bool true)] (mg c set kn fa) rfl ⟨rfl,rfl,rfl,trivial⟩ rfl ⟨⟨rfl,rfl⟩,rfl⟩
   ·rw[wC (.inr hk)]
    conv=>whnf
    refine aC [] [.d (.bool true)] (mg c set kn fa) rfl ⟨rfl,rfl,rfl,trivial⟩ rfl ⟨⟨rfl,rfl⟩,rfl⟩
   ·rw[KJ hk]
    conv=>whnf
    refine aC [] [.d (.bool false)] (mg c set kn fa) rfl ⟨rfl,rfl,rfl,trivial⟩ rfl ⟨⟨rfl,rfl⟩,rfl⟩
theorem Pu{c:aA}(hR:WR c){set:Int}:∀ n,J5 c set n
 | 0=>Hb hR fun m h=>by omega
 | n+1=>Hb hR fun m h=>by
  have:m=n:=by omega
  subst this;exact Pu hR m
def jC(c:aA)(set:Int)(t:av):List av:=(cW c set t).map (·.2)
def fE(c:aA)(set:Int):Nat->av->Prop
 | 0,_=>False
 | n+1,t=>∀ u∈jC c set t,fE c set n u
theorem xC{c:aA}{set:Int}:∀ {n:Nat} {t:av},fE c set n t->fE c set (n+1) t
 | 0,t,h=>h.elim
 | n+1,t,h=>fun u hu=>xC (h u hu)
theorem iE{c:aA}{set:Int}{n:Nat}{t:av}(h:fE c set n t):∀ {m:Nat},n<=m->fE c set m t:=by
 intro m hm
 induction hm with
 | refl=>exact h
 | step _ ih=>exact xC ih
def pQ(c:aA)(set:Int):Nat->av->Int
 | 0,_=>0
 | n+1,t=>(jC c set t).foldl (fun x u=>max x (1+pQ c set n u)) 0
theorem foldl_congr{α β:Type}{f g:β->α->β}:∀ {l:List α} {x:β},(∀ u∈l,∀ y,f y u=g y u)->l.foldl f x=l.foldl g x
 | [],x,_=>rfl
 | u::r,x,h=>by
  rw[List.foldl_cons,List.foldl_cons,h u (by simp)];exact foldl_congr fun v hv=>h v (by simp[hv])
theorem Ll{c:aA}{set:Int}:∀ {n:Nat} {t:av},fE c set n t->pQ c set (n+1) t=pQ c set n t
 | 0,t,h=>h.elim
 | n+1,t,h=>by
  rw[pQ,pQ];exact foldl_congr fun u hu y=>by rw[Ll (h u hu)]
theorem Lk{c:aA}{set:Int}{n:Nat}{t:av}(h:fE c set n t){m:Nat}(hm:n<=m):pQ c set m t=pQ c set n t:=by
 induction hm with
 | refl=>rfl
 | step hm ih=>rw[Ll (iE h hm),ih]
theorem Re{c:aA}{set:Int}{n m:Nat}{t:av}(h:fE c set n t)(k:fE c set m t):pQ c set n t=pQ c set m t:=by
 rcases Nat.le_total n m with h1|h1
 ·exact(Lk h h1).symm
 ·exact Lk k h1
theorem s7{f:av->Int}{B:Int}:∀ {l:List av} {x:Int},0<=x->x<=B->(∀ u∈l,1+f u<=B)->0<=l.foldl (fun x u=>max x (1+f u)) x/\l.foldl (fun x u=>max x (1+f u)) x<=B
 | [],x,h0,h1,_=>⟨h0,h1⟩
 | u::r,x,h0,h1,h=>by
  rw[List.foldl_cons];have:=h u (by simp);exact s7 (by omega) (by omega) fun v hv=>h v (by simp[hv])
theorem Lj{c:aA}{set:Int}:∀ (n:Nat) (t:av),0<=pQ c set n t/\pQ c set n t<=n
 | 0,t=>by simp[pQ]
 | n+1,t=>by
  rw[pQ];refine s7 (by omega) (by omega) fun u _=>?_;have:=Lj (c:=c) (set:=set) n u;omega
def CO(c:aA)(set:Int)(fa:Kn):Prop:=∀ t v,cP fa t=some v -> ∃ n,n<=100000/\fE c set n t/\v=pQ c set n t
def tB(f:Kn->av->Int×Kn):Int->Kn->List av->Int×Kn
 | x,fa,[]=>(x,fa)
 | x,fa,u::r=>tB f (max x (1+(f fa u).1)) (f fa u).2 r
def ka(c:aA)(set:Int):Nat->Kn->av->Int×Kn
 | 0,fa,_=>(0,fa)
 | n+1,fa,t=>match cP fa t with
  | some v=>(v,fa)
  | none=>((tB (ka c set n) 0 fa (jC c set t)).1,dS (tB (ka c set n) 0 fa (jC c set t)).2 t (tB (ka c set n) 0 fa (jC c set t)).1)
theorem D7{c:aA}{set:Int}{n:Nat}(ih:∀ {fa:Kn} {t:av},fE c set n t->CO c set fa->(ka c set n fa t).1=pQ c set n t/\CO c set (ka c set n fa t).2) :
  ∀ {l:List av} {x:Int} {fa:Kn},(∀ u∈l,fE c set n u)->CO c set fa->(tB (ka c set n) x fa l).1=l.foldl (fun x u=>max x (1+pQ c set n u)) x/\CO c set (tB (ka c set n) x fa l).2
 | [],x,fa,_,hf=>⟨rfl,hf⟩
 | u::r,x,fa,hd,hf=>by
  obtain⟨h1,h2⟩:=ih (hd u (by simp)) hf;rw[tB,List.foldl_cons,h1];exact D7 ih (fun v hv=>hd v (by simp[hv])) h2
theorem D3{c:aA}{set:Int}:∀ {n:Nat} {fa:Kn} {t:av},n<=100000->fE c set n t->CO c set fa->(ka c set n fa t).1=pQ c set n t/\CO c set (ka c set n fa t).2
 | 0,fa,t,_,hd,_=>hd.elim
 | n+1,fa,t,hn,hd,hf=>by
  rw[ka]
  cases hk:cP fa t with
  | some v=>
   obtain⟨m,zx,FC,hm3⟩:=hf t v hk;exact⟨by rw[hm3];exact Re FC hd,hf⟩
  | none=>
   obtain⟨h1,h2⟩:=D7 (n:=n) (fun NZ W5=>D3 (by omega) NZ W5) (l:=jC c set t) (x:=0) hd hf;refine⟨h1,fun u v hu=>?_⟩;simp only at hu;rw[bT]at hu;split at hu
   ·rename_i e
    subst e;cases hu;exact⟨n+1,hn,hd,h1⟩
   ·exact h2 u v hu
def Kb(c:aA)(set:Int)(n:Nat):Prop:=
 ∀ (kn fa:Kn) (t:av),jz c t->fE c set n t->CO c set fa->o9 Tryz.prog 101 [.ptr 1000000 0,.d t.d] (mg c set kn fa) fun v h'=>v = .d (i64 (ka c set n fa t).1)/\h'=mg c set kn (ka c set n fa t).2
theorem Oz{c:aA}(hR:WR c){set:Int}{n:Nat}(hn:n+1<=100000)(ih:Kb c set n):Kb c set (n+1):=by
 intro kn fa t ht hd Zp σ Y s;refine dQ mixed ak Tryz.func101 rfl (ft:=Pw) (args:=[.ptr 1000000 0,.d t.d]) (show nS Pw Tryz.f101 2=true from by decide +kernel) ?_;conv=>whnf
 cases hk:cP fa t with
 | some v=>
  obtain⟨ix,mf,ub⟩:=eL hk 0;refine⟨_,mf,?_⟩;conv=>whnf
  refine aC [] [.d (i64 v)] (mg c set kn fa) rfl ⟨rfl,rfl,rfl,trivial⟩ rfl ⟨⟨?_,?_⟩,rfl⟩
  ·rw[ka,hk];rfl
  ·rw[ka,hk]
 | none=>
  have hl:ka c set (n+1) fa t=((tB (ka c set n) 0 fa (jC c set t)).1,dS (tB (ka c set n) 0 fa (jC c set t)).2 t (tB (ka c set n) 0 fa (jC c set t)).1):=by rw[ka,hk]
  rw[hl];refine⟨none,ed hk 0,?_⟩;conv=>whnf
  refine aH (ds:=[bC c set,t.d]) (GO c set t) rfl rfl ?_;conv=>whnf
  obtain⟨pV,CM⟩:=ht.tok hR;refine iK.wk (st':=⟨[(2,.ptr 2 0),(3,.ptr 3 0),(5,.ptr 5 0),(25,.d (.clo 127 [.ref [bC c set],.ref t.cells]))],[(1000000,.box (.vv [.d (bC c set),.mp 1000001,.mp 1000002])),(1000001,.map (mS kn)),(1000002,.map (mS fa)),(2,.box (.vv [.ptr 1000000 0])),(3,.box (.dd t.cells)),(5,.box (.dd [i64 0]))],s⟩) (Wk.sub ⟨rfl,rfl,rfl,rfl,trivial⟩ ⟨rfl,rfl,rfl,rfl,rfl,rfl,trivial⟩) ?_;refine fV ak (by exact an mixed ak (by decide +kernel)) (by exact an mixed ak (by decide +kernel)) rfl 1500000 1600000 [2,3,5] (by exact mb c hR set t pV CM)
   (fun(x:Int×Kn)=>([(1000000,.box (.vv [.d (bC c set),.mp 1000001,.mp 1000002])),(1000001,.map (mS kn)),(1000002,.map (mS x.2)),(1500000,.box (.vv [.ptr 1000000 0])),(1500001,.box (.dd t.cells)),(1500002,.box (.dd [i64 x.1]))],s))
   (fun(rest:List (List Int×av)) x=>tB (ka c set n) 0 fa (jC c set t)=tB (ka c set n) x.1 x.2 (rest.map (·.2))/\(0<=x.1/\x.1<=100000)/\CO c set x.2 /\ ∀ p∈rest,jz c p.2/\fE c set n p.2) (0,fa) rfl rfl rfl ⟨rfl,by simp,Zp,fun p hp=>⟨gf hR ht hp,hd p.2 (List.mem_map.2 ⟨p,hp,rfl⟩)⟩⟩ ?_ ?_
  ·rintro ⟨g,u⟩ rest ⟨x,fx⟩ ⟨he,hx,Rb,fF⟩ Q yd -
   refine⟨⟨rfl,lO _⟩,?_⟩;obtain⟨hu,Q6⟩:jz c u/\fE c set n u:=fF (g,u) (by simp);rw[List.map_cons,tB]at he;simp only at hx Rb he;obtain⟨h1,h2⟩:=D3 (c:=c) (set:=set) (n:=n) (by omega) Q6 Rb;have h3:=Lj (c:=c) (set:=set) n u;conv=>whnf
   refine cE (ih kn fx u hu Q6 Rb) [1000000,1000001,1000002] rfl ⟨_,_,rfl,rfl,_,_,rfl,rfl,_,_,rfl,rfl,rfl⟩ rfl ?_;conv=>whnf
   refine ae (wrap_i64 (by(try dsimp only);omega)) ?_;conv=>whnf
   exact⟨(max x (1+(ka c set n fx u).1),(ka c set n fx u).2),(Wk.sub trivial (by repeat' first|constructor|simp[PX.get])),rfl,yd _ ⟨he,by simp only;omega,h2,fun p hp=>fF p (by simp[hp])⟩⟩
  ·rintro ⟨x,fx⟩ ⟨he,hx,Rb,_⟩
   rw[List.map_nil,tB]at he;simp only at he;rw[he];conv=>whnf
   cases gu:cP fx t with
   | none=>
    refine⟨none,ed gu 0,?_⟩;conv=>whnf
    refine aC [] [.d (i64 x)] (mg c set kn (dS fx t x)) rfl ⟨rfl,rfl,(by rw[<- hP gu];rfl),trivial⟩ rfl ⟨⟨rfl,rfl⟩,rfl⟩
   | some v2=>
    obtain⟨Xq,mw,FN⟩:=eL gu 0;refine⟨_,mw,?_⟩;conv=>whnf
    refine aC [] [.d (i64 x)] (mg c set kn (dS fx t x)) rfl ⟨rfl,rfl,(by rw[<- FN,Nat.zero_add];rfl),trivial⟩ rfl ⟨⟨rfl,rfl⟩,rfl⟩
theorem Qc{c:aA}(hR:WR c){set:Int}:∀ n,n<=100000->Kb c set n
 | 0,_=>fun kn fa t ht hd=>hd.elim
 | n+1,h=>Oz hR h (Qc hR n (by omega))
inductive Rp(c:aA)(set:Int):av->av->Prop
 | one {t u:av} (h:u∈jC c set t):Rp c set t u
 | cons {t w u:av} (h:w∈jC c set t) (k:Rp c set w u):Rp c set t u
theorem Rp.snoc{c:aA}{set:Int}{t w u:av}(h:Rp c set t w)(k:u∈jC c set w):Rp c set t u:=by
 induction h with
 | one h=>exact .cons h (.one k)
 | cons h _ ih=>exact .cons h (ih k)
theorem KF{c:aA}{set:Int}{t u:av}(h:Rp c set t u):∀ {n:Nat},fE c set (n+1) t->fE c set n u:=by
 induction h with
 | one h=>exact fun hd=>hd _ h
 | cons h _ ih=>
  intro n hd;have h1:=hd _ h
  cases n with
  | zero=>exact h1.elim
  | succ n=>exact xC (ih h1)
def alive(c:aA)(set:Int)(t:av):Prop:=∀ n,¬ fE c set n t
theorem u7{c:aA}{set:Int}{t:av}(h:Rp c set t t):alive c set t:=by
 intro n
 induction n with
 | zero=>exact fun h=>h
 | succ n ih=>exact fun hd=>ih (KF h hd)
theorem E7{c:aA}{set:Int}{t u:av}(h:u∈jC c set t)(ha:alive c set u):alive c set t:=by
 intro n hd
 cases n with
 | zero=>exact hd
 | succ n=>exact ha n (hd u h)
def vW(c:aA)(kn:Kn):Nat:=((univ c).filter fun u=>cP kn u !=some 3).length
theorem NG(c:aA)(kn:Kn):vW c kn<=(univ c).length:=List.length_filter_le ..
def pj(a b:Kn):Prop:=∀ u,cP a u=some 3->cP b u=some 3
theorem pj.NF{c:aA}{a b:Kn}(h:pj a b):vW c b<=vW c a:=by
 refine filter_le (fun u hu=>?_) _;simp only[bne_iff_ne,ne_eq]at hu ⊢;exact fun h3=>hu (h u h3)
theorem KA{c:aA}{kn:Kn}{t:av}(ht:jz c t)(h:cP kn t≠some 3):vW c (dS kn t 3)<vW c kn:=by
 refine oq (fun u hu=>?_) ht.mem ?_ ?_
 ·simp only[bne_iff_ne,ne_eq,bT]at hu ⊢
  intro h3;apply hu;split
  ·rfl
  ·exact h3
 ·simp[h]
 ·simp[bT]
structure rC(c:aA)(set:Int)(kn:Kn):Prop where
 two:∀ u,cP kn u=some 2->alive c set u
 three:∀ u,cP kn u=some 3->fE c set ((univ c).length-vW c kn) u
structure Bp(c:aA)(set:Int)(kn:Kn)(t:av)(r:Bool×Kn):Prop where
 yes:r.1=true->alive c set t
 no:r.1=false->fE c set ((univ c).length-vW c r.2) t
 Wo:rC c set r.2
 R7:∀ u,cP r.2 u=some 1->cP kn u=some 1
 thr:pj kn r.2
theorem M0{c:aA}{set:Int}{t:av}{f:Kn->av->Bool×Kn}{n:Nat}(hf:∀ kn u,jz c u->vX c kn<=n->rC c set kn->(∀ w,cP kn w=some 1->Rp c set w u)->Bp c set kn u (f kn u))(hle:∀ kn u,wZ kn (f kn u).2) :
  ∀ (l:List av) (kn:Kn),(∀ u∈l,jz c u/\u∈jC c set t)->vX c kn<=n->rC c set kn->(∀ w,cP kn w=some 1->w=t\/Rp c set w t) ->
   ((kY f kn l).1=true -> ∃ u∈l,alive c set u)/\((kY f kn l).1=false -> ∀ u∈l,fE c set ((univ c).length-vW c (kY f kn l).2) u)/\rC c set (kY f kn l).2/\(∀ u,cP (kY f kn l).2 u=some 1->cP kn u=some 1)/\pj kn (kY f kn l).2
 | [],kn,_,_,hk,_=>⟨fun h=>by simp[kY]at h,fun _ u hu=>by simp at hu,hk,fun u hu=>hu,fun u hu=>hu⟩
 | u::r,kn,hl,hc,hk,ho=>by
  obtain⟨hu,hus⟩:=hl u (by simp);have hp:=hf kn u hu hc hk fun w hw=>by
   rcases ho w hw with rfl|h
   ·exact .one hus
   ·exact h.snoc hus
  rw[kY]
  cases hb:(f kn u).1 with
  | true=>
   simp only[if_true];exact⟨fun _=>⟨u,by simp,hp.yes hb⟩,fun h=>by simp at h,hp.Wo,hp.R7,hp.thr⟩
  | false=>
   simp only[Bool.false_eq_true,if_false];obtain⟨h1,h2,h3,h4,h5⟩:=M0 hf hle r (f kn u).2 (fun v hv=>hl v (by simp[hv])) (Nat.le_trans (hle kn u).NF hc) hp.Wo fun w hw=>ho w (hp.R7 w hw);refine⟨fun h=>?_,fun h v hv=>?_,h3,fun v hv=>hp.R7 v (h4 v hv),fun v hv=>h5 v (hp.thr v hv)⟩
   ·obtain⟨v,hv,hva⟩:=h1 h
    exact⟨v,by simp[hv],hva⟩
   ·rcases List.mem_cons.1 hv with rfl|hv
    ·refine iE (hp.no hb) ?_
     have:=h5.NF (c:=c);omega
    ·exact h2 h v hv
theorem NN{c:aA}(hR:WR c){set:Int}:∀ (n:Nat) (kn:Kn) (t:av),jz c t->vX c kn<=n->rC c set kn->(∀ w,cP kn w=some 1->Rp c set w t)->Bp c set kn t (fz c set n kn t):=by
 intro n
 induction n with
 | zero=>
  intro kn t ht hc hk ho;have hf:fA kn t=false:=by
   cases h:fA kn t with
   | false=>rfl
   | true=>exact absurd (wz ht h) (by omega)
  rw[fz];refine⟨fun h=>?_,fun h=>?_,hk,fun u hu=>hu,fun u hu=>hu⟩
  ·simp at h
   rcases h with h|h
   ·exact hk.two t h
   ·exact u7 (ho t h)
  ·simp only[Bool.or_eq_false_iff,beq_eq_false_iff_ne]at h
   refine hk.three t ?_;simp only[fA,Bool.not_eq_false',Bool.or_eq_true,beq_iff_eq]at hf;rcases hf with(hf|hf)|hf
   ·exact absurd hf h.2
   ·exact absurd hf h.1
   ·exact hf
 | succ n ih=>
  intro kn t ht hc hk ho;by_cases hf:fA kn t=true
  ·have h3:cP kn t≠some 3:=fun h=>by rw[fA,h]at hf;simp at hf
   have eI:rC c set (dS kn t 1):=by
    refine⟨fun u hu=>?_,fun u hu=>?_⟩
    ·rw[bT]at hu
     split at hu
     ·cases hu
     ·exact hk.two u hu
    ·rw[bT]at hu
     split at hu
     ·cases hu
     ·refine iE (hk.three u hu) ?_
      have:pj kn (dS kn t 1):=by
       intro v hv;rw[bT];split
       ·rename_i e;subst e;exact absurd hv h3
       ·exact hv
      have:=this.NF (c:=c);omega
   obtain⟨h1,h2,h4,h5,h6⟩:=M0 (t:=t) ih (fun kn u=>wD n kn u) ((cW c set t).map (fun p:List Int×av=>p.2)) (dS kn t 1) (fun u hu=>⟨by
    obtain⟨p,hp,rfl⟩:=List.mem_map.1 hu;exact gf hR ht hp,(show u∈jC c set t from hu)⟩) (by have:=wz ht hf;omega) eI (fun w hw=>by
    rw[bT]at hw;split at hw
    ·rename_i e;exact .inl e
    ·exact .inr (ho w hw))
   rw[C6 hf];generalize hr:kY (fz c set n) (dS kn t 1) ((cW c set t).map (·.2))=r at h1 h2 h4 h5 h6;have ha:r.1=true->alive c set t:=fun h=>by
    obtain⟨u,hu,hua⟩:=h1 h;exact E7 hu hua
   have hk3:pj kn r.2:=fun u hu=>h6 u (by
    rw[bT];split
    ·rename_i e;subst e;exact absurd hu h3
    ·exact hu)
   cases hb:r.1 with
   | true=>
    simp only[if_true];have pf:=ha hb;have Xg:cP r.2 t≠some 3:=fun h=>pf _ (h4.three t h);have PU:pj r.2 (dS r.2 t 2):=by
     intro v hv;rw[bT];split
     ·rename_i e;subst e;exact absurd hv Xg
     ·exact hv
    refine⟨fun _=>pf,fun h=>by simp at h,⟨fun u hu=>?_,fun u hu=>?_⟩,fun u hu=>?_,fun u hu=>PU u (hk3 u hu)⟩
    ·rw[bT]at hu
     split at hu
     ·rename_i e;subst e;exact pf
     ·exact h4.two u hu
    ·rw[bT]at hu
     split at hu
     ·cases hu
     ·refine iE (h4.three u hu) ?_
      have:=PU.NF (c:=c);show _<=(univ c).length-vW c (dS r.2 t 2);omega
    ·rw[bT]at hu
     split at hu
     ·cases hu
     ·rename_i e
      have:=h5 u hu;rw[bT,if_neg e]at this;exact this
   | false=>
    simp only[Bool.false_eq_true,if_false];have hd:=h2 hb;have PU:pj r.2 (dS r.2 t 3):=by
     intro v hv;rw[bT];split
     ·rfl
     ·exact hv
    have hD:=NG c r.2;have N1:fE c set ((univ c).length-vW c r.2+1) t:=fun u hu=>hd u hu;have UG:fE c set ((univ c).length-vW c (dS r.2 t 3)) t:=by
     by_cases Xg:cP r.2 t=some 3
     ·refine iE (h4.three t Xg) ?_
      have:=PU.NF (c:=c);omega
     ·refine iE N1 ?_
      have:=KA ht Xg;omega
    refine⟨fun h=>by simp at h,fun _=>UG,⟨fun u hu=>?_,fun u hu=>?_⟩,fun u hu=>?_,fun u hu=>PU u (hk3 u hu)⟩
    ·rw[bT]at hu
     split at hu
     ·cases hu
     ·exact h4.two u hu
    ·rw[bT]at hu
     split at hu
     ·rename_i e;subst e;exact UG
     ·refine iE (h4.three u hu) ?_
      have:=PU.NF (c:=c);show _<=(univ c).length-vW c (dS r.2 t 3);omega
    ·rw[bT]at hu
     split at hu
     ·cases hu
     ·rename_i e
      have:=h5 u hu;rw[bT,if_neg e]at this;exact this
  ·have hf:fA kn t=false:=by simpa using hf
   simp only[fA,Bool.not_eq_false',Bool.or_eq_true,beq_iff_eq]at hf;rcases hf with(hf|hf)|hf
   ·rw[wC (.inr hf)]
    exact⟨fun _=>u7 (ho t hf),fun h=>by simp at h,hk,fun u hu=>hu,fun u hu=>hu⟩
   ·rw[wC (.inl hf)]
    exact⟨fun _=>hk.two t hf,fun h=>by simp at h,hk,fun u hu=>hu,fun u hu=>hu⟩
   ·rw[KJ hf]
    exact⟨fun h=>by simp at h,fun _=>hk.three t hf,hk,fun u hu=>hu,fun u hu=>hu⟩
structure kp(c:aA)(set:Int)(kn:Kn):Prop where
 Wo:rC c set kn
 R7:∀ w,cP kn w≠some 1
theorem kp.nil{c:aA}{set:Int}:kp c set []:=⟨⟨fun u h=>(by cases h),fun u h=>(by cases h)⟩,fun w h=>by cases h⟩
def gq:Nat:=46656
def fT(c:aA)(set:Int)(t:av):Bool:=(fz c set gq [] t).1
theorem nQ{c:aA}(hR:WR c):(univ c).length<=gq:=by
 rw[M4];have:=hR.bp;unfold gq;omega
theorem Af{c:aA}(hR:WR c)(kn:Kn):vX c kn<=gq:=Nat.le_trans (List.length_filter_le ..) (nQ hR)
theorem sX{c:aA}(hR:WR c){set:Int}{kn:Kn}(hk:kp c set kn){t:av}(ht:jz c t):Bp c set kn t (fz c set gq kn t):=
 NN hR gq kn t ht (Af hR kn) hk.Wo fun w hw=>absurd hw (hk.R7 w)
theorem KK{c:aA}(hR:WR c){set:Int}{kn:Kn}(hk:kp c set kn){t:av}(ht:jz c t):kp c set (fz c set gq kn t).2:=
 ⟨(sX hR hk ht).Wo,fun w hw=>hk.R7 w ((sX hR hk ht).R7 w hw)⟩
theorem Ha{c:aA}(hR:WR c){set:Int}{kn:Kn}(hk:kp c set kn){t:av}(ht:jz c t):(fz c set gq kn t).1=true↔alive c set t:=by
 have hp:=sX hR hk ht;refine⟨hp.yes,fun ha=>?_⟩
 cases hb:(fz c set gq kn t).1 with
 | true=>rfl
 | false=>exact absurd (hp.no hb) (ha _)
theorem xE{c:aA}(hR:WR c){set:Int}{t:av}(ht:jz c t):fT c set t=true↔alive c set t:=Ha hR .nil ht
theorem QI{c:aA}(hR:WR c){set:Int}{kn:Kn}(hk:kp c set kn){t:av}(ht:jz c t):(fz c set gq kn t).1=fT c set t:=by
 rw[Bool.eq_iff_iff,Ha hR hk ht,xE hR ht]
theorem Iv{c:aA}(hR:WR c){set:Int}{t:av}(ht:jz c t)(h:fT c set t=false):fE c set gq t:=by
 refine iE ((sX hR (set:=set) .nil ht).no h) ?_;have:=nQ hR;omega
theorem Pg(c:aA)(set:Int):o9 Tryz.prog 62 [.d (bC c set)] [] fun v h'=>v = .ptr 2000002 0/\h' = [(2000000,.map []),(2000001,.map []),(2000002,.box (.vv [.d (bC c set),.mp 2000000,.mp 2000001]))]:=by
 intro σ Y s;refine dQ mixed ak Tryz.func62 rfl (ft:=NT) (args:=[.d (bC c set)]) (show nS NT Tryz.f62 1=true from by decide +kernel) ?_;conv=>whnf
 exact aC [4,5,7] [.ptr 2000002 0] [(2000000,.map []),(2000001,.map []),(2000002,.box (.vv [.d (bC c set),.mp 2000000,.mp 2000001]))] rfl ⟨rfl,rfl,rfl,trivial⟩ rfl ⟨⟨rfl,rfl⟩,rfl⟩
theorem jX{c:aA}(hR:WR c){set:Int}{kn:Kn}(hk:kp c set kn)(fa:Kn){t:av}(ht:jz c t):∃ LV,kp c set LV/\o9 Tryz.prog 63 [.ptr 1000000 0,.d t.d] (mg c set kn fa) fun v h'=>v = .d (.bool (fT c set t))/\h'=mg c set LV fa:=
 ⟨_,KK hR hk ht,by
  rw[<- QI hR hk ht];exact Pu hR gq kn fa t ht (Af hR kn)⟩
theorem LY{c:aA}(hR:WR c){set:Int}(kn:Kn){t:av}(ht:jz c t)(hb:fT c set t=false):∃ fa',o9 Tryz.prog 101 [.ptr 1000000 0,.d t.d] (mg c set kn []) fun v h'=>v = .d (i64 (ka c set gq [] t).1)/\h'=mg c set kn fa':=
 ⟨_,Qc hR gq (by decide) kn [] t ht (Iv hR ht hb) (fun t v h=>by cases h)⟩
def RY(c:aA):Int:=if fT c (aN c) .zero then -1 else (ka c (aN c) gq [] .zero).1
theorem aaT(c:aA):bq Tryz.prog 33 [c.d] (.tup [i64 (if cB c []=0 then RY c else 0),i64 (cB c [])]):=by
 refine aI mixed ak Tryz.func33 rfl (ft:=X9) 1 (by decide +kernel) (by rfl) fun {σ} Y st=>?_;conv=>whnf
 refine nV ?_;refine ai (ds:=[c.d,bt []]) (ET c []) rfl rfl ?_;conv=>whnf
 by_cases h0:cB c []=0
 ·obtain⟨hR,hl,_⟩:=kz h0
  rw[h0];simp only[if_true];conv=>whnf
  refine aY (Pg c (aN c)) [] rfl rfl rfl ?_;conv=>whnf
  obtain⟨Vr,eI,hE⟩:=jX hR (set:=aN c) .nil [] (jz.zero hR);refine aY hE [101026,101024,101025] rfl ?lent rfl ?_;case lent=>exact⟨_,_,rfl,bK rfl ⟨rfl,rfl,rfl,trivial⟩,_,_,rfl,rfl,_,_,rfl,rfl,rfl⟩
  unfold RY
  cases hb:fT c (aN c) .zero with
  | true=>
   conv=>whnf
   exact ab 0 rfl ⟨⟨rfl,rfl⟩,rfl⟩
  | false=>
   conv=>whnf
   obtain⟨fa1,hL⟩:=LY hR Vr (jz.zero hR) hb;generalize (ka c (aN c) gq [] .zero).1=lv at hL ⊢;refine aY hL [101026,101024,101025] rfl ?lent rfl ?_;case lent=>exact⟨_,_,rfl,bK rfl ⟨rfl,rfl,rfl,trivial⟩,_,_,rfl,rfl,_,_,rfl,rfl,rfl⟩
   conv=>whnf
   exact ab 0 rfl ⟨⟨rfl,rfl⟩,rfl⟩
 ·rw[if_neg h0,if_neg h0]
  conv=>whnf
  refine af (fun _=>?_) (fun h1=>absurd h1 (by simp[h0]));conv=>whnf
  exact ab 0 rfl ⟨⟨rfl,rfl⟩,rfl⟩
def HU(c:aA)(t:av):List (List Int×av):=(cW c (aN c) t).filter fun p=>fT c (aN c) p.2
def Me(c:aA)(rota:List (List Int)):List (List Int):=(HU c (pN c rota)).map (·.1)
theorem zn{c:aA}(hR:WR c){set:Int}:∀ {rota:List (List Int)} {t:av} {i:Int},0<=i->jz c t->(bO c set t rota i).1.1 = -1->jz c (bO c set t rota i).2
 | [],t,i,_,ht,_=>ht
 | r::rest,t,i,hi,ht,h=>by
  rw[bO]at h ⊢;split
  ·rename_i h1
   rw[if_pos h1]at h;exact zn hR (by omega) (xn hR ht h1) h
  ·rename_i h1
   rw[if_neg h1]at h;simp only at h;omega
theorem Cv{c:aA}{set:Int}:∀ {rota:List (List Int)} {t:av} {i:Int},(bO c set t rota i).1.1 = -1\/i<=(bO c set t rota i).1.1
 | [],t,i=>.inl rfl
 | r::rest,t,i=>by
  rw[bO];split
  ·rcases Cv (c:=c) (set:=set) (rota:=rest) (t:=eb c t r) (i:=i+1) with h|h
   ·exact .inl h
   ·exact .inr (by omega)
  ·exact .inr (by simp)
theorem II{c:aA}{rota:List (List Int)}(h0:gr c rota=0):jz c (pN c rota):=by
 have hR:=(ya h0).1;refine zn hR (Int.le_refl 0) (jz.zero hR) ?_;have hE:cB c rota=0:=by
  unfold gr at h0;split at h0
  ·assumption
  ·exact h0
 rw[gr,if_pos hE]at h0;split at h0
 ·cases h0
 ·rename_i h1
  rcases Cv (c:=c) (set:=aN c) (rota:=rota) (t:=.zero) (i:=0) with h|h
  ·exact h
  ·exact absurd h (by omega)
def Vw(c:aA)(t:av)(acc:List (List Int))(kn:Kn):Heap:=
 match acc with
 | []=>[(1500000,.box (.dd c.cells)),(1500001,.box (.dd [.nils])),(1500002,.box (.dd t.cells)),(1500003,.box (.vv [.ptr 1500006 0])),(1500004,.map (mS kn)),(1500005,.map []),(1500006,.box (.vv [.d (bC c (aN c)),.mp 1500004,.mp 1500005]))]
 | g::r=>[(1500000,.box (.dd c.cells)),(1500001,.box (.vv [.sl 35 1 0 (g::r).length])),(1500002,.box (.dd t.cells)),(1500003,.box (.vv [.ptr 1500006 0])),(1500004,.map (mS kn)),(1500005,.map []),(1500006,.box (.vv [.d (bC c (aN c)),.mp 1500004,.mp 1500005])),(35,.arr 1 (.dd ((g::r).map fun r=>[ax r])))]
theorem aaS(c:aA)(rota:List (List Int)):bq Tryz.prog 32 [c.d,bt rota] (.tup [if gr c rota=0 then y7 (Me c rota) else .nils,i64 (gr c rota)]):=by
 refine aI mixed ak Tryz.func32 rfl (ft:=(X8.more 9 [102112])) 2 (by decide +kernel) (by rfl) fun {σ} Y st=>?_;conv=>whnf
 refine ai (Sr c rota) rfl rfl ?_;conv=>whnf
 by_cases h0:gr c rota=0
 ·obtain⟨hR,hl,pV,CM⟩:=ya h0
  have hU:=II h0;rw[h0];simp only[if_true];unfold Me;generalize pN c rota=t at pV CM hU ⊢;conv=>whnf
  refine aY (Pg c (aN c)) [] rfl rfl rfl ?_;conv=>whnf
  refine ai (GO c (aN c) t) rfl rfl ?_;conv=>whnf
  refine fV ak (by exact an mixed ak (by decide +kernel)) (by exact an mixed ak (by decide +kernel)) rfl 1500000 1600000 [2,4,7,8,101408,101409,101410] (by exact mb c hR (aN c) t pV CM)
   (fun(x:List (List Int)×Kn)=>(Vw c t x.1 x.2,st))
   (fun rest x=>(HU c t).map (·.1)=x.1++(rest.filter fun p=>fT c (aN c) p.2).map (fun(p:List Int×av)=>p.1)/\kp c (aN c) x.2 /\ ∀ p∈rest,p.1.length<=2/\jz c p.2) ([],[]) rfl rfl rfl ⟨rfl,.nil,fun p hp=>⟨lH hR hp,gf hR hU hp⟩⟩ ?_ ?_
  ·rintro ⟨g,u⟩ rest ⟨acc,kn⟩ ⟨he,hk,Hu⟩ Q yd -
   obtain⟨gC,hu⟩:=Hu (g,u) (by simp);have wG:g.length<=1000:=by simp only at gC;omega
   refine⟨⟨rfl,lO _⟩,?_⟩;obtain⟨LV,jj,hE⟩:=jX hR hk [] hu;have ir:∀ p∈rest,p.1.length<=2/\jz c p.2:=fun p hp=>Hu p (by simp[hp])
   cases acc with
   | nil=>
    conv=>whnf
    refine aY hE [1500006,1500004,1500005] rfl ?lent rfl ?_;case lent=>exact⟨_,_,rfl,bK rfl ⟨rfl,rfl,rfl,trivial⟩,_,_,rfl,rfl,_,_,rfl,rfl,rfl⟩
    cases hb:fT c (aN c) u with
    | false=>
     conv=>whnf
     exact⟨([],LV),(Wk.sub trivial (by repeat' first|constructor|simp[PX.get])),rfl,yd _ ⟨by simpa[hb]using he,jj,ir⟩⟩
    | true=>
     conv=>whnf
     refine cE (zm g wG) [1600000] rfl ⟨_,_,rfl,rfl,rfl⟩ rfl ?_;conv=>whnf
     refine ag rfl ?_;conv=>whnf
     exact⟨([g],LV),(Wk.iB 1 [102112] 35 (vs:=[[.sl 102112 1 0 g.length]]) (ds:=[[ax g]]) rfl (dL (az (bH rfl (by simp[ba])) rfl))).trans (Wk.sub trivial (by repeat' first|constructor|simp[PX.get])),rfl,yd _ ⟨by simpa[hb]using he,jj,ir⟩⟩
   | cons a r=>
    conv=>whnf
    refine aY hE [1500006,1500004,1500005] rfl ?lent rfl ?_;case lent=>exact⟨_,_,rfl,bK rfl ⟨rfl,rfl,rfl,trivial⟩,_,_,rfl,rfl,_,_,rfl,rfl,rfl⟩
    cases hb:fT c (aN c) u with
    | false=>
     conv=>whnf
     exact⟨(a::r,LV),(Wk.sub trivial (by repeat' first|constructor|simp[PX.get])),rfl,yd _ ⟨by simpa[hb]using he,jj,ir⟩⟩
    | true=>
     conv=>whnf
     refine cE (zm g wG) [1600000] rfl ⟨_,_,rfl,rfl,rfl⟩ rfl ?_;conv=>whnf
     refine ag rfl ?_;conv=>whnf
     refine ag (by simp[aK.len]) ?_;conv=>whnf
     have dn:(a::r).length<=25:=by
      have h1:((HU c t).map (·.1)).length<=25:=by
       rw[List.length_map];exact Nat.le_trans (List.length_filter_le ..) (vp hR)
      rw[he]at h1;simp at h1 ⊢;omega
     have eV:(true && !dF 35 ((aG ((a::r).map fun r=>[ax r]) ++ [[V.sl 102112 1 0 g.length]]).flatten))=true:=by
      rw[eh];rfl
     refine aQ eV ?_;conv=>whnf
     refine aQ (decide_eq_true (by
      show(((a::r).map fun r=>[ax r]).length+1)*24<=140737488355328;rw[List.length_map];omega)) ?_
     conv=>whnf
     refine fN [102112,35] (by
      show bJ ((aG ((a::r).map fun r=>[ax r]) ++ [[V.sl 102112 1 0 g.length]]).flatten)++([35] ++ [])=_;rw[dq];rfl) ?_
     conv=>whnf
     refine⟨(a::r ++ [g],LV),(Wk.iB 1 [102112] 35 (sz:=1) (vs:=aG ((a::r).map fun r=>[ax r]) ++ [[.sl 102112 1 0 g.length]]) (ds:=((a::r).map fun r=>[ax r]) ++ [[ax g]]) ?_ (dK (dL (az (bH rfl (by simp[ba])) rfl)) _)).trans ?_,rfl,yd _ ⟨by simpa[hb]using he,jj,ir⟩⟩
     ·rfl
     ·refine Wk.sub trivial ⟨rfl,?_,rfl,rfl,rfl,rfl,rfl,?_,rfl,trivial⟩
      ·show some (Obj.box (Cells.vv [V.sl 35 1 0 (((a::r).map fun r=>[ax r]).length+1)]))=some (Obj.box (Cells.vv [V.sl 35 1 0 (a::(r ++ [g])).length]))
       simp
      ·show some (Obj.arr 1 (aK.dd (((a::r).map fun r=>[ax r]) ++ [[ax g]])))=some (Obj.arr 1 (aK.dd ((a::(r ++ [g])).map fun r=>[ax r])))
       simp
  ·rintro ⟨acc,kn⟩ ⟨he,_,_⟩
   have he:(HU c t).map (·.1)=acc:=by simpa using he
   rw[he]
   cases acc with
   | nil=>
    conv=>whnf
    refine ab 0 rfl ⟨⟨?_,rfl⟩,rfl⟩;simp[js,y7]
   | cons a r=>
    conv=>whnf
    refine ab 1 (ds:=[bt (a::r),i64 0]) ?_ ⟨⟨?_,rfl⟩,rfl⟩
    ·exact az (bH (es:=(a::r).map fun r=>[ax r]) rfl (by simp)) rfl
    ·simp[js,y7]
 ·rw[if_neg h0,if_neg h0]
  conv=>whnf
  refine af (fun _=>?_) (fun h1=>absurd h1 (by simp[h0]));conv=>whnf
  rw[if_neg h0];exact ab 0 rfl ⟨⟨rfl,rfl⟩,rfl⟩
theorem E6{c:aA}{set:Int}{t:av}(h:alive c set t):∃ u∈jC c set t,alive c set u:=by
 refine Classical.byContradiction fun hn=>?_;have h1:∀ u∈jC c set t,∃ n,fE c set n u:=fun u hu=>Classical.byContradiction fun h2=>hn ⟨u,hu,fun n hd=>h2 ⟨n,hd⟩⟩;have h2:∀ l:List av,(∀ u∈l,∃ n,fE c set n u) -> ∃ n,∀ u∈l,fE c set n u:=by
  intro l
  induction l with
  | nil=>exact fun _=>⟨0,fun u hu=>by cases hu⟩
  | cons a r ih=>
   intro hl;obtain⟨n,hn⟩:=ih fun u hu=>hl u (by simp[hu]);obtain⟨m,hm⟩:=hl a (by simp);refine⟨max n m,fun u hu=>?_⟩;rcases List.mem_cons.1 hu with rfl|hu
   ·exact iE hm (by omega)
   ·exact iE (hn u hu) (by omega)
 obtain⟨n,CJ⟩:=h2 _ h1;exact h (n+1) CJ
def BL(c:aA)(t:av):Option (List Int×av):=(cW c (aN c) t).find? fun p=>fT c (aN c) p.2
theorem xL{c:aA}(hR:WR c){t:av}(ht:jz c t)(h:fT c (aN c) t=true):∃ p,BL c t=some p:=by
 obtain⟨u,hu,hua⟩:=E6 ((xE hR ht).1 h);obtain⟨p,hp,rfl⟩:=List.mem_map.1 hu
 cases hf:BL c t with
 | some q=>exact⟨q,rfl⟩
 | none=>
  have:=List.find?_eq_none.1 hf p hp;exact absurd ((xE hR (gf hR ht hp)).2 hua) this
def vi(c:aA):Nat->Kn->List (List Int)->av->List (List Int)×Int
 | 0,_,_,_=>([],0)
 | n+1,seen,rota,t=>match cP seen t with
  | some i=>(rota,i)
  | none=>match BL c t with
   | some p=>vi c n (dS seen t rota.length) (rota ++ [p.1]) p.2
   | none=>([],0)
def Ai(c:aA):List (List Int)×Int:=vi c (gq+1) [] [] .zero
def xA(c:aA)(kn:Kn):Nat:=((univ c).filter fun t=>cP kn t ==none).length
theorem CZ{c:aA}{kn:Kn}{t:av}(ht:jz c t)(h:cP kn t=none)(y:Int):xA c (dS kn t y)<xA c kn:=by
 refine oq (fun u hu=>?_) ht.mem (by simp[h]) (by simp[bT]);simp only[bT,beq_iff_eq]at hu ⊢;split at hu
 ·cases hu
 ·exact hu
def Pv(c:aA)(seen kn:Kn)(rota:List (List Int))(t:av):Heap:=
 [(2,.box (.vv [.sl 900000 1 0 rota.length])),(900000,.arr 1 (.dd (rota.map fun r=>[ax r]))),(27,.map (mS seen)),(8,.box (.dd t.cells)),(101408,.map (mS kn)),(101409,.map []),(101410,.box (.vv [.d (bC c (aN c)),.mp 101408,.mp 101409])),(6,.box (.vv [.ptr 101410 0]))]
theorem WC(c:aA):bq Tryz.prog 11 [c.d] (.tup [if cB c []=0/\fT c (aN c) .zero=true then bt (Ai c).1 else .nils,i64 (if cB c []=0/\fT c (aN c) .zero=true then (Ai c).2 else 0),i64 (if cB c []=0 then (if fT c (aN c) .zero=true then 0 else 9) else cB c [])]):=by
 refine aI mixed ak Tryz.func11 rfl (ft:=(XV.more 17 [103328])) 1 (by decide +kernel) (by rfl) fun {σ} Y st=>?_;conv=>whnf
 refine nV ?_;refine ai (ds:=[c.d,bt []]) (ET c []) rfl rfl ?_;conv=>whnf
 by_cases h0:cB c []=0
 ·obtain⟨hR,hl,_⟩:=kz h0
  rw[h0];simp only[if_true,true_and];conv=>whnf
  refine aY (Pg c (aN c)) [] rfl rfl rfl ?_;conv=>whnf
  obtain⟨Vr,eI,hE⟩:=jX hR (set:=aN c) .nil [] (jz.zero hR);refine aY hE [101410,101408,101409] rfl ?lent rfl ?_;case lent=>exact⟨_,_,rfl,bK rfl ⟨rfl,rfl,rfl,trivial⟩,_,_,rfl,rfl,_,_,rfl,rfl,rfl⟩
  cases hb:fT c (aN c) .zero with
  | false=>
   conv=>whnf
   exact ab 0 rfl ⟨⟨rfl,rfl⟩,rfl⟩
  | true=>
   simp only[if_true];conv=>whnf
   unfold Ai;generalize tg:vi c (gq+1) [] [] .zero=res;refine dh (T:=tys) ak (by exact an mixed ak (by decide +kernel)) (α:=Kn×Kn×List (List Int)×av) (fun x=>⟨[(2,.ptr 2 0),(3,.d (i64 0)),(4,.d (i64 0)),(5,.d (bC c (aN c))),(6,.ptr 6 0),(7,.mp 27),(8,.ptr 8 0)],Pv c x.1 x.2.1 x.2.2.1 x.2.2.2,st⟩)
    (fun x=>jz c x.2.2.2/\kp c (aN c) x.2.1/\fT c (aN c) x.2.2.2=true/\x.2.2.1.length+xA c x.1<=gq /\ ∃ n,xA c x.1<n/\vi c n x.1 x.2.2.1 x.2.2.2=res) (fun x=>xA c x.1) ([],Vr,[],.zero)
    ((Wk.G7 2 900000 1 rfl rfl rfl rfl).trans (Wk.sub (by repeat' first|constructor|simp[PX.get]) (by repeat' first|constructor|simp[PX.get]))) ⟨jz.zero hR,eI,hb,?_,gq+1,?_,tg⟩ ?_
   ·have h1:xA c []<=(univ c).length:=List.length_filter_le ..
    have:=nQ hR;simp;omega
   ·have h1:xA c []<=(univ c).length:=List.length_filter_le ..
    have:=nQ hR;show xA c []<gq+1;omega
   rintro ⟨seen,kn,rota,t⟩ ⟨ht,hk,ha,hlen,n,hn,hr⟩;simp only at ht hk ha hlen hn hr;conv=>whnf
   cases hs:cP seen t with
   | some v=>
    obtain⟨ix,mf,ub⟩:=eL hs 0;refine⟨_,mf,?_⟩;conv=>whnf
    obtain⟨m,rfl⟩:∃ m,n=m+1:=⟨n-1,by omega⟩;rw[vi,hs]at hr;rw[<- hr];refine ab 1 (ds:=[bt rota,i64 v,i64 0]) ?_ ⟨⟨rfl,rfl⟩,rfl⟩;exact az (bH (es:=rota.map fun r=>[ax r]) rfl (by simp)) rfl
   | none=>
    refine⟨none,ed hs 0,?_⟩;conv=>whnf
    refine⟨none,ed hs 0,?_⟩;conv=>whnf
    refine ai (GO c (aN c) t) rfl rfl ?_;conv=>whnf
    obtain⟨m,rfl⟩:∃ m,n=m+1:=⟨n-1,by omega⟩;rw[vi,hs]at hr;obtain⟨⟨g0,u0⟩,hf⟩:=xL hR ht ha;rw[hf]at hr;simp only at hr;have Lc:=CZ ht hs rota.length;have wb:(g0,u0)∈cW c (aN c) t:=List.mem_of_find?_eq_some hf;have Ng:fT c (aN c) u0=true:=by have:=List.find?_some hf;exact this
    obtain⟨pV,CM⟩:=ht.tok hR;refine iK.wk (st':=⟨[(2,.ptr 2 0),(3,.d (i64 0)),(4,.d (i64 0)),(5,.d (bC c (aN c))),(6,.ptr 6 0),(7,.mp 27),(8,.ptr 8 0),(44,.d (.clo 127 [.ref [bC c (aN c)],.ref t.cells]))],Pv c (dS seen t rota.length) kn rota t,st⟩) (Wk.sub ⟨rfl,rfl,rfl,rfl,rfl,rfl,rfl,rfl,trivial⟩ ⟨rfl,rfl,by rw[<- hP hs];rfl,rfl,rfl,rfl,rfl,rfl,trivial⟩) ?_;refine fV ak (by exact an mixed ak (by decide +kernel)) (by exact an mixed ak (by decide +kernel)) rfl 1500000 1600000 [2,900000,27,8,101408,101409,101410,6] (by exact mb c hR (aN c) t pV CM)
     (fun(x:Kn)=>([(1500000,.box (.vv [.sl 1500001 1 0 rota.length])),(1500001,.arr 1 (.dd (rota.map fun r=>[ax r]))),(1500002,.map (mS (dS seen t rota.length))),(1500003,.box (.dd t.cells)),(1500004,.map (mS x)),(1500005,.map []),(1500006,.box (.vv [.d (bC c (aN c)),.mp 1500004,.mp 1500005])),(1500007,.box (.vv [.ptr 1500006 0]))],st))
     (fun(rest:List (List Int×av)) x=>(rest.find? fun p=>fT c (aN c) p.2)=some (g0,u0)/\kp c (aN c) x /\ ∀ p∈rest,p.1.length<=2/\jz c p.2) kn rfl rfl rfl ⟨hf,hk,fun p hp=>⟨lH hR hp,gf hR ht hp⟩⟩ ?_ ?_
    ·rintro ⟨g,u⟩ rest x ⟨he,hx,Hu⟩ Q yd hQ
     obtain⟨gC,hu⟩:=Hu (g,u) (by simp);have wG:g.length<=1000:=by simp only at gC;omega
     refine⟨⟨rfl,lO _⟩,?_⟩;obtain⟨LV,jj,hE⟩:=jX hR hx [] hu;conv=>whnf
     refine aY hE [1500006,1500004,1500005] rfl ?lent rfl ?_;case lent=>exact⟨_,_,rfl,bK rfl ⟨rfl,rfl,rfl,trivial⟩,_,_,rfl,rfl,_,_,rfl,rfl,rfl⟩
     cases mn:fT c (aN c) u with
     | false=>
      rw[List.find?_cons_of_neg (by simp[mn])]at he;conv=>whnf
      exact⟨LV,(Wk.sub trivial (by repeat' first|constructor|simp[PX.get])),rfl,yd _ ⟨he,jj,fun p hp=>Hu p (by simp[hp])⟩⟩
     | true=>
      rw[List.find?_cons_of_pos (by simp[mn])]at he;cases he;conv=>whnf
      refine cE (zm g0 wG) [1600000] rfl ⟨_,_,rfl,rfl,rfl⟩ rfl ?_;conv=>whnf
      refine ag rfl ?_;conv=>whnf
      refine ag (by simp[aK.len]) ?_;conv=>whnf
      have eV:(true && !dF 54 ((aG (rota.map fun r=>[ax r]) ++ [[V.sl 103328 1 0 g0.length]]).flatten))=true:=by
       rw[eh];rfl
      refine aQ eV ?_;conv=>whnf
      refine aQ (decide_eq_true (by
       show((rota.map fun r=>[ax r]).length+1)*24<=140737488355328;unfold gq at hlen;rw[List.length_map];omega)) ?_
      conv=>whnf
      refine fN [103328,54] (by
       show bJ ((aG (rota.map fun r=>[ax r]) ++ [[V.sl 103328 1 0 g0.length]]).flatten)++([54] ++ [])=_;rw[dq];rfl) ?_
      conv=>whnf
      refine⟨[(1500000,.box (.vv [.sl 54 1 0 (rota ++ [g0]).length])),(54,.arr 1 (.dd ((rota ++ [g0]).map fun r=>[ax r]))),(1500002,.map (mS (dS seen t rota.length))),(1500003,.box (.dd u0.cells)),(1500004,.map (mS LV)),(1500005,.map []),(1500006,.box (.vv [.d (bC c (aN c)),.mp 1500004,.mp 1500005])),(1500007,.box (.vv [.ptr 1500006 0]))],st,(Wk.iB 1 [103328] 54 (sz:=1) (vs:=aG (rota.map fun r=>[ax r]) ++ [[.sl 103328 1 0 g0.length]]) (ds:=(rota.map fun r=>[ax r]) ++ [[ax g0]]) ?_ (dK (dL (az (bH rfl (by simp[ba])) rfl)) _)).trans ?_,rfl,hQ _ _ _ ?_⟩
      ·rfl
      ·refine Wk.sub trivial ⟨?_,?_,rfl,rfl,rfl,rfl,rfl,rfl,rfl,trivial⟩
       ·show some (Obj.box (Cells.vv [V.sl 54 1 0 ((rota.map fun r=>[ax r]).length+1)]))=some (Obj.box (Cells.vv [V.sl 54 1 0 (rota ++ [g0]).length]))
        simp
       ·show some (Obj.arr 1 (aK.dd ((rota.map fun r=>[ax r]) ++ [[ax g0]])))=some (Obj.arr 1 (aK.dd ((rota ++ [g0]).map fun r=>[ax r])))
        simp
      ·conv=>whnf
       refine⟨(dS seen t rota.length,LV,rota ++ [g0],u0),by simp only;omega,⟨hu,jj,Ng,by simp only[List.length_append,List.length_singleton];omega,m,by simp only;omega,hr⟩,(Wk.move 54 900000 rfl rfl).trans (Wk.sub (by repeat' first|constructor|simp[PX.get]) (by repeat' first|constructor|simp[PX.get]))⟩
    ·rintro x ⟨he,_,_⟩
     simp at he
 ·simp only[h0,false_and,if_false]
  conv=>whnf
  exact ab 0 rfl ⟨⟨rfl,rfl⟩,rfl⟩
def JF(n k:Int):Int:=n.fdiv (2^min k.toNat IntKind.u64.bits)
def We(n k:Int):Int:=IntKind.u64.wrap (n*2^min k.toNat IntKind.u64.bits)
def E8(a b:Int):Int:=gF .and .u64 a b
def orU(a b:Int):Int:=gF .or .u64 a b
def NA(a b:Int):Int:=IntKind.u64.wrap (a+b)
def aaC(n:Int):Int:=NA (E8 (JF n 1) 6148914691236517205) (E8 n 6148914691236517205)
def aaD(n:Int):Int:=NA (E8 (JF n 2) 3689348814741910323) (E8 n 3689348814741910323)
def aaE(n:Int):Int:=E8 (NA (JF n 4) n) 1085102592571150095
def Se(k n:Int):Int:=NA n (JF n k)
def Mz(n:Int):Int:=gF .and .i64 (IntKind.i64.wrap (Se 32 (Se 16 (Se 8 (aaE (aaD (aaC n))))))) 127
theorem Wx(n:Int):bq Tryz.prog 199 [.int .u64 n] (i64 (Mz n)):=by
 refine aI mixed ak Tryz.func199 rfl (ft:=T8) 1 (by decide +kernel) (by rfl) fun {σ} Y st=>?_;conv=>whnf
 repeat' (first|(refine arith.mk ?_;conv=>whnf)|fail)
 exact ab 0 rfl ⟨⟨rfl,rfl⟩,rfl⟩
def zU(k m n:Int):Int:=orU (E8 (JF n k) m) (We (E8 n m) k)
def V9(n:Int):Int:=orU (JF (zU 16 281470681808895 (zU 8 71777214294589695 n)) 32) (We (zU 16 281470681808895 (zU 8 71777214294589695 n)) 32)
def MK(n:Int):Int:=V9 (zU 4 1085102592571150095 (zU 2 3689348814741910323 (zU 1 6148914691236517205 n)))
theorem Wz(n:Int):bq Tryz.prog 216 [.int .u64 n] (.int .u64 (V9 n)):=by
 refine aI mixed ak Tryz.func216 rfl (ft:=Ud) 1 (by decide +kernel) (by rfl) fun {σ} Y st=>?_;conv=>whnf
 repeat' (first|(refine arith.mk ?_;conv=>whnf)|fail)
 exact ab 0 rfl ⟨⟨rfl,rfl⟩,rfl⟩
theorem Wy(n:Int):bq Tryz.prog 201 [.int .u64 n] (.int .u64 (MK n)):=by
 refine aI mixed ak Tryz.func201 rfl (ft:=T9) 1 (by decide +kernel) (by rfl) fun {σ} Y st=>?_;conv=>whnf
 repeat' (first|(refine arith.mk ?_;conv=>whnf)|fail)
 refine ai (ds:=[.int .u64 (zU 4 1085102592571150095 (zU 2 3689348814741910323 (zU 1 6148914691236517205 n)))]) (Wz _) rfl rfl ?_;conv=>whnf
 exact ab 0 rfl ⟨⟨rfl,rfl⟩,rfl⟩
theorem WI(n:Int):bq Tryz.prog 161 [.int .u64 n] (i64 (Mz n)):=by
 refine aI mixed ak Tryz.func161 rfl (ft:=TN) 1 (by decide +kernel) (by rfl) fun {σ} Y st=>?_;conv=>whnf
 refine ai (ds:=[.int .u64 n]) (Wx n) rfl rfl ?_;conv=>whnf
 exact ab 0 rfl ⟨⟨rfl,rfl⟩,rfl⟩
theorem Qr(n:Int):bq Tryz.prog 162 [.int .u64 n] (.int .u64 (MK n)):=by
 refine aI mixed ak Tryz.func162 rfl (ft:=TO) 1 (by decide +kernel) (by rfl) fun {σ} Y st=>?_;conv=>whnf
 refine ai (ds:=[.int .u64 n]) (Wy n) rfl rfl ?_;conv=>whnf
 exact ab 0 rfl ⟨⟨rfl,rfl⟩,rfl⟩
def wm(n:Int):Int:=Mz (IntKind.u64.wrap n)
def JC(n:Int):Int:=MK (IntKind.u64.wrap n)
def jk(set cV:Int):Bool:=decide (cV<0)||decide (wm set<wm cV)||(decide (wm set=wm cV)&&decide (JC cV<JC set))
end Go.PX
