import Derived.Test.YtmbefpmbnhdbpaaGreatDoorPxK
set_option linter.all false
set_option maxRecDepth 10000
namespace Go.PX
open Go.Proofs
structure aW where
 shown:Int
 kind:Int
 word:ByteArray
 number:Int
def aW.cells(x:aW):List D:=[i64 x.shown,i64 x.kind,.str x.word,i64 x.number]
def aW.d(x:aW):D:=.agg x.cells
structure au where
 name:ByteArray
 off:Span
 set:Span
 ar:List aW
def kJ(l:List aW):D:=.vs (l.map aW.cells)
def au.cells(b:au):List D:=.str b.name::(b.off.cells++b.set.cells ++ [kJ b.ar])
structure aM where
 near:Int
 aj:List au
def bF(l:List au):D:=.vs (l.map au.cells)
def aM.cells(l:aM):List D:=[i64 l.near,bF l.aj]
def aM.d(l:aM):D:=.agg l.cells
structure c8 where
 book:Int
 entry:Int
 deriving DecidableEq
def c8.cells(x:c8):List D:=[i64 x.book,i64 x.entry]
def c8.d(x:c8):D:=.agg x.cells
structure ck where
 book:Int
 n:Int
 deriving DecidableEq
def ck.cells(x:ck):List D:=[i64 x.book,i64 x.n]
def ck.d(x:ck):D:=.agg x.cells
abbrev ck.right:ck:=⟨-1,0⟩
abbrev cc:=PG.Step ck
def Qn(s:cc):List D:=s.a.cells++s.b.cells ++ [i64 s.w]
section
variable {κ ν : Type} [DecidableEq κ]
def bD:List (κ×ν)->κ->Option ν
 | [],_=>none
 | (u,x)::r,t=>if t=u then some x else bD r t
def cH:List (κ×ν)->κ->ν->List (κ×ν)
 | [],t,v=>[(t,v)]
 | (u,x)::r,t,v=>if t=u then (t,v)::r else (u,x)::cH r t v
end
structure CR where
 steps:List cc
 many:Int
 first:List (Int×c8)
 now:ck
 of:List ck
 mine:List (Int×Int)
def dP(wider:Int)(p:ck)(s:Span):List cc:=[⟨.right,p,s.hi+wider⟩,⟨p,.right,wider-s.lo⟩]
def vJ(pers:List (List ck))(x:c8):ck:=(((pers[x.book.toNat]?).getD [])[x.entry.toNat]?).getD .right
def kI(l:aM)(x:c8):aW:=((((l.aj[x.book.toNat]?).map (·.ar)).getD [])[x.entry.toNat]?).getD ⟨0,0,.empty,0⟩
def vZ(l:aM)(wider:Int)(conf:List Int)(i:Nat)(b:au)(pers:List (List ck))(k:Nat)(y:aW)(s:CR):CR:=
 let of:=s.of ++ [s.now]
 let st:=if k=0 then s.steps else s.steps ++ [⟨(of[k-1]?).getD .right,s.now,y.shown-((b.ar[k-1]?).getD ⟨0,0,.empty,0⟩).shown⟩]
 if y.kind=2 then
  let now:ck:=⟨s.now.book,s.now.n+1⟩
  { s with of:=of,now:=now,steps:=st++dP wider now b.set,many:=s.many+1 }
 else if y.kind=3 then
  let n:=(bD s.mine y.number).getD 0+1
  let mine:=cH s.mine y.number n
  if n>1\/y.number∈conf then { s with of:=of,steps:=st,mine:=mine }
  else match bD s.first y.number with
   | none=>{ s with of:=of,steps:=st,mine:=mine,first:=cH s.first y.number ⟨i,k⟩ }
   | some at'=>
    let more:=y.shown-(kI l at').shown
    let p:=vJ pers at'
    { s with of:=of,mine:=mine,steps:=st ++ [⟨p,s.now,more⟩,⟨s.now,p,-more⟩] }
 else { s with of:=of,steps:=st }
def lD(l:aM)(wider:Int)(conf:List Int)(i:Nat)(b:au)(pers:List (List ck)):Nat->List aW->CR->CR
 | _,[],s=>s
 | k,y::r,s=>lD l wider conf i b pers (k+1) r (vZ l wider conf i b pers k y s)
structure qw where
 steps:List cc
 many:Int
 first:List (Int×c8)
 pers:List (List ck)
def pB(l:aM)(wider:Int)(conf:List Int)(i:Nat)(b:au)(s:qw):qw:=
 let e:=lD l wider conf i b s.pers 0 b.ar ⟨s.steps++dP wider ⟨i,0⟩ b.off,s.many+1,s.first,⟨i,0⟩,[],[]⟩
 ⟨e.steps,e.many,e.first,s.pers ++ [e.of]⟩
def lV(l:aM)(wider:Int)(conf:List Int):Nat->List au->qw->qw
 | _,[],s=>s
 | i,b::r,s=>lV l wider conf (i+1) r (pB l wider conf i b s)
def bG(l:aM)(wider:Int)(conf:List Int):qw:=lV l wider conf 0 l.aj ⟨[],0,[],[]⟩
abbrev PM:=List (ck×Int)
def jP(x:PM×Bool)(s:cc):PM×Bool:=match bD x.1 s.a with
 | none=>x
 | some n=>match bD x.1 s.b with
  | none=>(cH x.1 s.b (n+s.w),true)
  | some m=>if n+s.w<m then (cH x.1 s.b (n+s.w),true) else x
def se(steps:List cc)(m:PM):PM×Bool:=steps.foldl jP (m,false)
def jt(steps:List cc):Nat->PM->PM
 | 0,m=>m
 | k+1,m=>if (se steps m).2 then jt steps k (se steps m).1 else (se steps m).1
def fU(x:qw)(p:ck):PM:=jt x.steps (x.many+2).toNat [(p,0)]
def kH(m:PM)(p:ck):Int:=(bD m p).getD 0
def s4(x:qw)(m:PM):Bool:=x.steps.all fun s=>decide (kH m s.b<=kH m s.a+s.w)
section
variable {κ ν : Type} [DecidableEq κ]
theorem dw(m:List (κ×ν))(t u:κ)(y:ν):bD (cH m t y) u=if u=t then some y else bD m u:=by
 induction m with
 | nil=>rfl
 | cons p r ih=>
  obtain⟨w,x⟩:=p;rw[cH];split
  ·rename_i h
   subst h;rw[bD,bD];by_cases hu:u=t
   ·rw[if_pos hu,if_pos hu]
   ·rw[if_neg hu,if_neg hu,if_neg hu]
  ·rename_i h
   rw[bD,bD,ih];by_cases hu:u=w
   ·subst hu
    rw[if_pos rfl,if_pos rfl,if_neg (fun e=>h e.symm)]
   ·rw[if_neg hu,if_neg hu]
end
theorem JL(x:PM×Bool)(s:cc):(fun p=>bD (jP x s).1 p)=PG.cO (fun p=>bD x.1 p) s:=by
 unfold jP PG.cO
 cases h1:bD x.1 s.a with
 | none=>
  simp only[h1]
 | some n=>
  simp only[h1]
  cases h2:bD x.1 s.b with
  | none=>
   simp only[h2]
   funext p
   exact dw ..
  | some m=>
   simp only[h2];split
   ·funext p
    exact dw ..
   ·rfl
theorem M1{x:PM×Bool}{s:cc}(h:(jP x s).2=false):jP x s=x:=by
 unfold jP at h ⊢;split
 ·rfl
 ·rename_i n h1
  rw[h1]at h;simp only at h;split
  ·rename_i h2
   rw[h2]at h;cases h
  ·rename_i m h2
   rw[h2]at h;simp only at h;split
   ·rename_i h3
    rw[if_pos h3]at h;cases h
   ·rfl
theorem MZ{x:PM×Bool}{s:cc}(h:x.2=true):(jP x s).2=true:=by
 unfold jP;split
 ·exact h
 ·split
  ·rfl
  ·split
   ·rfl
   ·exact h
theorem Ay:∀ (l:List cc) {x:PM×Bool},x.2=true->(l.foldl jP x).2=true
 | [],x,h=>h
 | s::r,x,h=>Ay r (MZ h)
theorem Az:∀ (l:List cc) {x:PM×Bool},(l.foldl jP x).2=false->l.foldl jP x=x
 | [],x,_=>rfl
 | s::r,x,h=>by
  have h1:(jP x s).2=false:=by
   cases hb:(jP x s).2 with
   | false=>rfl
   | true=>rw[List.foldl_cons,Ay r hb]at h;cases h
  rw[List.foldl_cons,M1 h1]at h ⊢;exact Az r h
theorem xS:∀ (l:List cc) (x:PM×Bool),(fun p=>bD (l.foldl jP x).1 p)=l.foldl PG.cO (fun p=>bD x.1 p)
 | [],x=>rfl
 | s::r,x=>by
  rw[List.foldl_cons,List.foldl_cons,<- JL];exact xS r _
theorem y9{es:List cc}{l:ck->Option Int}(h:PG.round es l=l):∀ k,PG.rounds es k l=l
 | 0=>rfl
 | k+1=>by rw[PG.rounds,h];exact y9 h k
theorem uR(es:List cc):∀ (k:Nat) (m:PM),(fun p=>bD (jt es k m) p)=PG.rounds es k fun p=>bD m p
 | 0,m=>rfl
 | k+1,m=>by
  rw[jt,PG.rounds];have h1:(fun p=>bD (se es m).1 p)=PG.round es fun p=>bD m p:=xS es (m,false);split
  ·rw[uR es k,h1]
  ·rename_i h
   have h2:se es m=(m,false):=Az es (x:=(m,false)) (by
    cases hb:(es.foldl jP (m,false)).2 with
    | false=>rfl
    | true=>exact absurd hb h)
   rw[h2]at h1 ⊢;have h3:PG.round es (fun p=>bD m p)=fun p=>bD m p:=h1.symm;rw[h3,y9 h3]
structure nZ(x:qw)(N:List ck):Prop where
 ends:∀ e∈x.steps,e.a∈N/\e.b∈N
 right:ck.right∈N
 len:(N.length:Int)<=x.many+1
 to':∀ p∈N,p ≠ .right -> ∃ e∈x.steps,e.a = .right/\e.b=p
 back:∀ p∈N,p ≠ .right -> ∃ e∈x.steps,e.a=p/\e.b = .right
theorem nZ.reach{x:qw}{N:List ck}(h:nZ x N){p q:ck}(hp:p∈N)(hq:q∈N):∃ n w,n<=2/\PG.gA x.steps p q n w:=by
 have h1:∃ n w,n<=1/\PG.gA x.steps p .right n w:=by
  by_cases Nq:p = .right
  ·subst Nq;exact⟨0,0,by omega,.nil _⟩
  ·obtain⟨e,he,rfl,hb⟩:=h.back p hp Nq
   exact⟨1,e.w,by omega,hb▸PG.gA.one he⟩
 have h2:∃ n w,n<=1/\PG.gA x.steps .right q n w:=by
  by_cases hqr:q = .right
  ·subst hqr;exact⟨0,0,by omega,.nil _⟩
  ·obtain⟨e,he,ha,rfl⟩:=h.to' q hq hqr
   exact⟨1,e.w,by omega,ha▸PG.gA.one he⟩
 obtain⟨n,w,hn,hw⟩:=h1;obtain⟨m,v,hm,hv⟩:=h2;exact⟨n+m,w+v,by omega,hw.trans hv⟩
theorem nZ.known{x:qw}{N:List ck}(h:nZ x N){p q:ck}(hp:p∈N)(hq:q∈N):∃ v,bD (fU x p) q=some v:=by
 obtain⟨n,w,hn,hw⟩:=h.reach hp hq;have hm:2<=(x.many+2).toNat:=by have:=h.len;have:=List.length_pos_of_mem h.right;omega
 obtain⟨y,hy,_⟩:=PG.uS (es:=x.steps) (a:=p) (l:=fun q=>bD [(p,(0:Int))] q) ⟨0,by simp[bD],Int.le_refl _⟩ hw (x.many+2).toNat (by omega);have e:=congrFun (uR x.steps (x.many+2).toNat [(p,0)]) q;exact⟨y,by unfold fU;rw[e];exact hy⟩
theorem start_eq(p:ck):(fun q=>bD [(p,(0:Int))] q)=fun v=>if v=p then some 0 else none:=by
 funext q
 rw[bD,bD]
theorem nZ.KH{x:qw}{N:List ck}(h:nZ x N)(mX:PG.zY x.steps){p:ck}(hp:p∈N):PG.zA x.steps p fun q=>bD (fU x p) q:=by
 unfold fU;rw[uR,start_eq];exact PG.Ez h.ends mX hp (by have:=h.len;omega)
theorem nZ.fit{x:qw}{N:List ck}(h:nZ x N){p:ck}(hp:p∈N):s4 x (fU x p)=true↔PG.zY x.steps:=by
 unfold s4;rw[List.all_eq_true];constructor
 ·intro hf
  refine PG.uO (t:=fun q=>kH (fU x p) q) fun e he=>?_;exact of_decide_eq_true (hf e he)
 ·intro mX e he
  have hd:=h.KH mX hp;obtain⟨v,hv⟩:=h.known hp (h.ends e he).1;obtain⟨y,hy,hle⟩:=hd.fix e he v hv;refine decide_eq_true ?_;unfold kH;rw[hv,hy];exact hle
def dm(l:List aW):Nat:=(l.filter fun y=>decide (y.kind=2)).length
theorem sg(y:aW)(r:List aW):dm (y::r)=(if y.kind=2 then 1 else 0)+dm r:=by
 unfold dm;rw[List.filter_cons];by_cases h:y.kind=2
 ·rw[if_pos (by simpa using h),if_pos h,List.length_cons];omega
 ·rw[if_neg (by simpa using h),if_neg h];omega
def vc(i:Nat)(b:au):List ck:=(List.range (dm b.ar+1)).map fun(n:Nat)=>⟨i,n⟩
def iS:Nat->List au->List ck
 | _,[]=>[]
 | i,b::r=>vc i b++iS (i+1) r
def dV(l:aM):List ck:=.right::iS 0 l.aj
def n5(steps:List cc)(p:ck):Prop:=(∃ e∈steps,e.a = .right/\e.b=p) /\ ∃ e∈steps,e.a=p/\e.b = .right
theorem n5.mono{st st':List cc}(h:∀ e∈st,e∈st'){p:ck}:n5 st p->n5 st' p
 | ⟨⟨e,he,ha⟩,f,hf,hb⟩=>⟨⟨e,h e he,ha⟩,f,h f hf,hb⟩
theorem tS(wider:Int)(p:ck)(s:Span):n5 (dP wider p s) p:=
 ⟨⟨_,List.mem_cons_self ..,rfl,rfl⟩,⟨p,.right,wider-s.lo⟩,by simp[dP],rfl,rfl⟩
structure zX(N:List ck)(i:Nat)(c:Nat)(many:Int)(base:List cc)(s:CR):Prop where
 now:s.now=⟨i,c⟩
 many:s.many=many+c
 ends:∀ e∈s.steps,e.a∈N/\e.b∈N
 of:∀ p∈s.of,p∈N
 sub:∀ e∈base,e∈s.steps
 star:∀ n:Nat,n<=c->n5 s.steps ⟨i,n⟩
theorem Dq{α:Type}{N:List α}{d:α}(hd:d∈N){l:List α}(hl:∀ p∈l,p∈N)(k:Nat):(l[k]?).getD d∈N:=by
 cases h:l[k]? with
 | none=>exact hd
 | some p=>exact hl p (List.mem_of_getElem? h)
theorem A0{N:List ck}(hr:ck.right∈N){pers:List (List ck)}(hp:∀ l∈pers,∀ p∈l,p∈N)(x:c8):vJ pers x∈N:=by
 unfold vJ;refine Dq hr (fun p LC=>?_) _
 cases h:pers[x.book.toNat]? with
 | none=>rw[h]at LC;cases LC
 | some l=>rw[h]at LC;exact hp l (List.mem_of_getElem? h) p LC
theorem NP{N:List ck}(hr:ck.right∈N){l:aM}{wider:Int}{conf:List Int}{i:Nat}{b:au}{pers:List (List ck)}(hp:∀ l∈pers,∀ p∈l,p∈N){c:Nat}{many:Int}{base:List cc}{k:Nat}{y:aW}{s:CR}(h:zX N i c many base s)(hc:(⟨i,c⟩:ck)∈N)(vq:y.kind=2->(⟨i,(c+1:Nat)⟩:ck)∈N) :
  zX N i (c+if y.kind=2 then 1 else 0) many base (vZ l wider conf i b pers k y s):=by
 have BZ:s.now∈N:=by rw[h.now];exact hc
 have CK:∀ p∈s.of ++ [s.now],p∈N:=fun p LC=>by
  rcases List.mem_append.1 LC with LC|LC
  ·exact h.of p LC
  ·rw[List.mem_singleton]at LC;rw[LC];exact BZ
 generalize jA:(if k=0 then s.steps else s.steps ++ [(⟨((s.of ++ [s.now])[k-1]?).getD .right,s.now,y.shown-((b.ar[k-1]?).getD ⟨0,0,.empty,0⟩).shown⟩:cc)])=st;have ji:∀ e∈s.steps,e∈st:=fun e he=>by
  rw[<- jA];split
  ·exact he
  ·simp[he]
 have yh:∀ e∈st,e.a∈N/\e.b∈N:=fun e he=>by
  rw[<- jA]at he;split at he
  ·exact h.ends e he
  ·rcases List.mem_append.1 he with he|he
   ·exact h.ends e he
   ·rw[List.mem_singleton]at he
    rw[he];exact⟨Dq hr CK _,BZ⟩
 unfold vZ;simp only[jA];by_cases h2:y.kind=2
 ·rw[if_pos h2,if_pos h2]
  have FD:=vq h2;have Ro:(⟨s.now.book,s.now.n+1⟩:ck)=⟨i,(c+1:Nat)⟩:=by rw[h.now];simp
  refine⟨Ro,by simp only;rw[h.many];omega,fun e he=>?_,CK,fun e he=>List.mem_append_left _ (ji e (h.sub e he)),fun n hn=>?_⟩
  ·rcases List.mem_append.1 he with he|he
   ·exact yh e he
   ·unfold dP at he
    rw[Ro]at he;simp only[List.mem_cons,List.not_mem_nil,or_false]at he;rcases he with rfl|rfl
    ·exact⟨hr,FD⟩
    ·exact⟨FD,hr⟩
  ·by_cases Rm:n<=c
   ·exact(h.star n Rm).mono fun e he=>List.mem_append_left _ (ji e he)
   ·have:n=c+1:=by omega
    subst this;refine n5.mono (fun e he=>List.mem_append_right _ he) ?_;rw[Ro];exact tS ..
 ·rw[if_neg h2,if_neg h2,Nat.add_zero]
  have nA:∀ (st':List cc) (mine:List (Int×Int)) (first:List (Int×c8)),(∀ e∈st,e∈st')->(∀ e∈st',e.a∈N/\e.b∈N)->zX N i c many base { s with of:=s.of ++ [s.now],steps:=st',mine:=mine,first:=first }:=fun st' mine first h1 h3=>
   ⟨h.now,h.many,h3,CK,fun e he=>h1 e (ji e (h.sub e he)),fun n hn=>(h.star n hn).mono fun e he=>h1 e (ji e he)⟩
  by_cases h3:y.kind=3
  ·rw[if_pos h3]
   split
   ·exact nA st _ _ (fun e he=>he) yh
   ·split
    ·exact nA st _ _ (fun e he=>he) yh
    ·refine nA _ _ _ (fun e he=>List.mem_append_left _ he) fun e he=>?_
     rcases List.mem_append.1 he with he|he
     ·exact yh e he
     ·simp only[List.mem_cons,List.not_mem_nil,or_false]at he
      rcases he with rfl|rfl
      ·exact⟨A0 hr hp _,BZ⟩
      ·exact⟨BZ,A0 hr hp _⟩
  ·rw[if_neg h3]
   exact nA st _ _ (fun e he=>he) yh
theorem Da{N:List ck}(hr:ck.right∈N){l:aM}{wider:Int}{conf:List Int}{i:Nat}{b:au}{pers:List (List ck)}(hp:∀ l∈pers,∀ p∈l,p∈N){many:Int}{base:List cc}:∀ (r:List aW) {c k:Nat} {s:CR},zX N i c many base s->(∀ n:Nat,n<=c+dm r->(⟨i,n⟩:ck)∈N) ->
  zX N i (c+dm r) many base (lD l wider conf i b pers k r s)
 | [],c,k,s,h,_=>h
 | y::r,c,k,s,h,hN=>by
  rw[sg]at hN ⊢;rw[lD,<- Nat.add_assoc];refine Da hr hp r (NP hr hp h (hN c (by omega)) fun h2=>hN (c+1) (by rw[if_pos h2];omega)) fun n hn=>hN n (by omega)
structure Bt(N:List ck)(done:List ck)(s:qw):Prop where
 ends:∀ e∈s.steps,e.a∈N/\e.b∈N
 pers:∀ l∈s.pers,∀ p∈l,p∈N
 many:s.many=done.length
 star:∀ p∈done,n5 s.steps p
theorem Ks{N done:List ck}(hr:ck.right∈N){l:aM}{wider:Int}{conf:List Int}{i:Nat}{b:au}{s:qw}(h:Bt N done s)(hN:∀ p∈vc i b,p∈N):Bt N (done++vc i b) (pB l wider conf i b s):=by
 have fF:∀ n:Nat,n<=dm b.ar->(⟨i,n⟩:ck)∈N:=fun n hn=>hN _ (List.mem_map.2 ⟨n,List.mem_range.2 (by omega),rfl⟩);have h0:zX N i 0 (s.many+1) s.steps ⟨s.steps++dP wider ⟨i,0⟩ b.off,s.many+1,s.first,⟨i,0⟩,[],[]⟩:=by
  refine⟨rfl,by simp,fun e he=>?_,fun p hp=>by simp at hp,fun e he=>List.mem_append_left _ he,fun n hn=>?_⟩
  ·rcases List.mem_append.1 he with he|he
   ·exact h.ends e he
   ·unfold dP at he
    simp only[List.mem_cons,List.not_mem_nil,or_false]at he;have:=fF 0 (Nat.zero_le _);rcases he with rfl|rfl
    ·exact⟨hr,this⟩
    ·exact⟨this,hr⟩
  ·have:n=0:=by omega
   subst this;exact(tS wider ⟨i,(0:Nat)⟩ b.off).mono fun e he=>List.mem_append_right _ he
 have h1:=Da (l:=l) (wider:=wider) (conf:=conf) (b:=b) hr h.pers b.ar (k:=0) h0 (fun n hn=>fF n (by omega));rw[Nat.zero_add]at h1;unfold pB;refine⟨h1.ends,fun l' hl=>?_,?_,fun p hp=>?_⟩
 ·rcases List.mem_append.1 hl with hl|hl
  ·exact h.pers l' hl
  ·rw[List.mem_singleton]at hl;rw[hl];exact h1.of
 ·show(lD _ _ _ _ _ _ _ _ _).many=_
  rw[h1.many,h.many,List.length_append];unfold vc;rw[List.length_map,List.length_range];omega
 ·rcases List.mem_append.1 hp with hp|hp
  ·exact(h.star p hp).mono h1.sub
  ·obtain⟨n,hn,rfl⟩:=List.mem_map.1 hp
   exact h1.star n (by have:=List.mem_range.1 hn;omega)
theorem yE{N:List ck}(hr:ck.right∈N){l:aM}{wider:Int}{conf:List Int}:∀ (bs:List au) {i:Nat} {done:List ck} {s:qw},Bt N done s->(∀ p∈iS i bs,p∈N)->Bt N (done++iS i bs) (lV l wider conf i bs s)
 | [],i,done,s,h,_=>by rw[iS,List.append_nil];exact h
 | b::r,i,done,s,h,hN=>by
  rw[iS,lV,<- List.append_assoc];rw[iS]at hN;exact yE hr r (Ks hr h fun p hp=>hN p (List.mem_append_left _ hp)) fun p hp=>hN p (List.mem_append_right _ hp)
theorem qG(l:aM)(wider:Int)(conf:List Int):nZ (bG l wider conf) (dV l):=by
 have h:=yE (N:=dV l) (l:=l) (wider:=wider) (conf:=conf) (by simp[dV]) l.aj (i:=0) (done:=[]) (s:=⟨[],0,[],[]⟩) ⟨fun e he=>(by cases he),fun x hx=>(by cases hx),rfl,fun p hp=>(by cases hp)⟩ (fun p hp=>List.mem_cons_of_mem _ hp);rw[List.nil_append]at h;have hs:∀ p∈dV l,p ≠ .right->p∈iS 0 l.aj:=fun p hp eW=>by
  rcases List.mem_cons.1 hp with rfl|hp
  ·exact absurd rfl eW
  ·exact hp
 refine⟨h.ends,by simp[dV],?_,fun p hp eW=>(h.star p (hs p hp eW)).1,fun p hp eW=>(h.star p (hs p hp eW)).2⟩;show(((dV l).length:Nat):Int)<=(lV l wider conf 0 l.aj ⟨[],0,[],[]⟩).many+1;rw[h.many];simp[dV]
def bE(b:au)(k:Nat):Nat:=dm (b.ar.take k)
def cw:List aW->Int->Nat->Option Nat
 | [],_,_=>none
 | y::r,n,k=>if y.kind=3/\y.number=n then some k else cw r n (k+1)
theorem mj:∀ {r:List aW} {n:Int} {k m:Nat},cw r n k=some m -> ∃ y,k<=m/\r[m-k]?=some y/\y.kind=3/\y.number=n /\ ∀ j z,j<m-k->r[j]?=some z->¬ (z.kind=3/\z.number=n)
 | [],n,k,m,h=>by cases h
 | y::r,n,k,m,h=>by
  rw[cw]at h;split at h
  ·rename_i h1
   cases h;exact⟨y,Nat.le_refl _,by simp,h1.1,h1.2,fun j z hj=>by omega⟩
  ·rename_i h1
   obtain⟨z,hk,hz,h2,h3,h4⟩:=mj h;refine⟨z,by omega,?_,h2,h3,fun j w hj hw=>?_⟩
   ·rw[show m-k=(m-(k+1))+1 by omega,List.getElem?_cons_succ];exact hz
   ·cases j with
    | zero=>
     rw[List.getElem?_cons_zero]at hw;cases hw;exact h1
    | succ j=>
     rw[List.getElem?_cons_succ]at hw;exact h4 j w (by omega) hw
theorem As:∀ {r:List aW} {n:Int} {k j:Nat} {y:aW},r[j]?=some y->y.kind=3->y.number=n->(∀ i z,i<j->r[i]?=some z->¬ (z.kind=3/\z.number=n))->cw r n k=some (k+j)
 | [],n,k,j,y,h,_,_,_=>by simp at h
 | z::r,n,k,0,y,h,h1,h2,_=>by
  rw[List.getElem?_cons_zero]at h;cases h;rw[cw,if_pos ⟨h1,h2⟩];rfl
 | z::r,n,k,j+1,y,h,h1,h2,h3=>by
  rw[List.getElem?_cons_succ]at h;rw[cw,if_neg (h3 0 z (by omega) rfl),As (k:=k+1) h h1 h2 fun i w hi hw=>h3 (i+1) w (by omega) (by rw[List.getElem?_cons_succ];exact hw)]
  congr 1;omega
theorem IC{r:List aW}{n:Int}{j:Nat}{y:aW}(h:r[j]?=some y)(h1:y.kind=3)(h2:y.number=n):∃ m,m<=j/\cw r n 0=some m:=by
 induction j using Nat.strongRecOn generalizing y with
 | _ j ih=>
  by_cases hn:∃ i z,i<j/\r[i]?=some z/\z.kind=3/\z.number=n
  ·obtain⟨i,z,hi,hz,h3,h4⟩:=hn
   obtain⟨m,hm,he⟩:=ih i hi hz h3 h4;exact⟨m,by omega,he⟩
  ·have:=As (k:=0) h h1 h2 fun i z hi hz h3=>hn ⟨i,z,hi,hz,h3.1,h3.2⟩
   exact⟨j,Nat.le_refl _,by rw[this,Nat.zero_add]⟩
structure At(l:aM)(i k:Nat)(b:au)(x:aW):Prop where
 book:l.aj[i]?=some b
 fG:b.ar[k]?=some x
def km(i j:Nat)(b c:au)(m n:Nat)(x y:aW):cc:=⟨⟨i,bE b m⟩,⟨j,bE c n⟩,y.shown-x.shown⟩
structure Rep(l:aM)(conf:List Int)(i j m n:Nat)(b c:au)(x y:aW)(num:Int):Prop where
 ha:At l i m b x
 hb:At l j n c y
 fa:cw b.ar num 0=some m
 fb:cw c.ar num 0=some n
 no:num∉conf
inductive wY(l:aM)(wider:Int)(conf:List Int):cc->Prop
 | off (i:Nat) (b:au) (hb:l.aj[i]?=some b) (e:cc) (he:e∈dP wider ⟨i,0⟩ b.off):wY l wider conf e
 | set (i:Nat) (b:au) (hb:l.aj[i]?=some b) (n:Nat) (h1:1<=n) (h2:n<=dm b.ar) (e:cc) (he:e∈dP wider ⟨i,n⟩ b.set):wY l wider conf e
 | ord (i k:Nat) (b:au) (x y:aW) (hx:At l i k b x) (hy:At l i (k+1) b y):wY l wider conf (km i i b b k (k+1) x y)
 | rep (i j m n:Nat) (b c:au) (x y:aW) (num:Int) (h:Rep l conf i j m n b c x y num):wY l wider conf (km i j b c m n x y)
def eQ(i:Nat)(b:au):List ck:=(List.range b.ar.length).map fun(m:Nat)=>⟨i,bE b m⟩
theorem Gm{b:au}{k:Nat}{y:aW}(h:b.ar[k]?=some y):bE b (k+1)=bE b k+if y.kind=2 then 1 else 0:=by
 unfold bE dm;have hl:=(List.getElem?_eq_some_iff.1 h).1;rw[List.take_succ,h];show(List.filter _ (b.ar.take k ++ [y])).length=_;rw[List.filter_append,List.length_append,List.filter_cons];by_cases h2:y.kind=2
 ·rw[if_pos (by simpa using h2),if_pos h2];simp
 ·rw[if_neg (by simpa using h2),if_neg h2];simp
theorem l5(b:au)(k:Nat):bE b k<=dm b.ar:=by
 unfold bE dm;exact(List.Sublist.filter _ (List.take_sublist k b.ar)).length_le
theorem Jy(b:au):bE b b.ar.length=dm b.ar:=by unfold bE;rw[List.take_length]
def vV(l:aM)(st:List cc)(r:c8)(j n:Nat)(c:au)(y:aW):Prop:=
 ∃ (i m:Nat) (b:au) (x:aW),r=⟨i,m⟩/\At l i m b x/\km i j b c m n x y∈st/\km j i c b n m y x∈st
theorem vV.mono{l:aM}{st st':List cc}(h:∀ e∈st,e∈st'){r:c8}{j n:Nat}{c:au}{y:aW}:vV l st r j n c y->vV l st' r j n c y
 | ⟨i,m,b,x,h1,h2,h3,h4⟩=>⟨i,m,b,x,h1,h2,h _ h3,h _ h4⟩
def mZ(i k j m:Nat):Prop:=j<i\/(j=i/\m<k)
structure Bo(l:aM)(wider:Int)(conf:List Int)(i k:Nat)(b:au)(pers:List (List ck))(s:CR):Prop where
 now:s.now=⟨i,bE b k⟩
 of:s.of=(List.range k).map fun(m:Nat)=>⟨i,bE b m⟩
 mine:∀ num,(0<=(bD s.mine num).getD 0)/\(1<=(bD s.mine num).getD 0 ↔ ∃ m,m<k/\cw b.ar num 0=some m)
 fst:∀ num r,bD s.first num=some r -> ∃ (j m:Nat) (c:au) (x:aW),r=⟨j,m⟩/\At l j m c x/\cw c.ar num 0=some m/\num∉conf/\mZ i k j m
 Nd:∀ (j m:Nat) (c:au) (y:aW) num,At l j m c y->cw c.ar num 0=some m->num∉conf->mZ i k j m -> ∃ r,bD s.first num=some r/\(r=⟨j,m⟩\/vV l s.steps r j m c y)
 sub:∀ e∈s.steps,wY l wider conf e
 off:∀ (j:Nat) c,l.aj[j]?=some c->j<=i -> ∀ e∈dP wider ⟨j,0⟩ c.off,e∈s.steps
 set:∀ (j:Nat) c n,l.aj[j]?=some c->1<=n->(j<i/\n<=dm c.ar\/j=i/\n<=bE b k) -> ∀ e∈dP wider ⟨j,(n:Nat)⟩ c.set,e∈s.steps
 ord:∀ (j m:Nat) c x y,At l j m c x->At l j (m+1) c y->mZ i k j (m+1)->km j j c c m (m+1) x y∈s.steps
structure zB(l:aM)(wider:Int)(conf:List Int)(i:Nat)(s:qw):Prop where
 pers:s.pers.length=i /\ ∀ (j:Nat) c,l.aj[j]?=some c->j<i->s.pers[j]?=some (eQ j c)
 fst:∀ num r,bD s.first num=some r -> ∃ (j m:Nat) (c:au) (x:aW),r=⟨j,m⟩/\At l j m c x/\cw c.ar num 0=some m/\num∉conf/\j<i
 Nd:∀ (j m:Nat) (c:au) (y:aW) num,At l j m c y->cw c.ar num 0=some m->num∉conf->j<i -> ∃ r,bD s.first num=some r/\(r=⟨j,m⟩\/vV l s.steps r j m c y)
 sub:∀ e∈s.steps,wY l wider conf e
 off:∀ (j:Nat) c,l.aj[j]?=some c->j<i -> ∀ e∈dP wider ⟨j,0⟩ c.off,e∈s.steps
 set:∀ (j:Nat) c n,l.aj[j]?=some c->1<=n->j<i->n<=dm c.ar -> ∀ e∈dP wider ⟨j,(n:Nat)⟩ c.set,e∈s.steps
 ord:∀ (j m:Nat) c x y,At l j m c x->At l j (m+1) c y->j<i->km j j c c m (m+1) x y∈s.steps
theorem fD{j:Nat}{c:au}{m:Nat}(h:m<c.ar.length):(eQ j c)[m]?=some ⟨j,bE c m⟩:=by
 unfold eQ;rw[List.getElem?_map,List.getElem?_range h];rfl
theorem eg{l:aM}{j m:Nat}{c:au}{x:aW}(h:At l j m c x):kI l ⟨j,m⟩=x:=by
 unfold kI;simp only[Int.toNat_natCast,h.book,Option.map_some,Option.getD_some,h.fG]
theorem gZ{l:aM}{pers:List (List ck)}{j m:Nat}{c:au}{x:aW}(h:At l j m c x)(hp:pers[j]?=some (eQ j c)):vJ pers ⟨j,m⟩=⟨j,bE c m⟩:=by
 unfold vJ;simp only[Int.toNat_natCast,hp,Option.getD_some,fD (List.getElem?_eq_some_iff.1 h.fG).1]
theorem mZ.succ{i k j m:Nat}(h:mZ i k j m):mZ i (k+1) j m:=h.imp id fun⟨a,b⟩=>⟨a,by omega⟩
theorem jE{i k j m:Nat}(h:mZ i (k+1) j m):mZ i k j m\/(j=i/\m=k):=by
 unfold mZ at *;omega
structure XH(l:aM)(wider:Int)(conf:List Int)(i k:Nat)(b:au)(s:CR)(st:List cc):Prop where
 nA:∀ e∈s.steps,e∈st
 sub:∀ e∈st,wY l wider conf e
 ord:∀ (j m:Nat) c x y,At l j m c x->At l j (m+1) c y->mZ i (k+1) j (m+1)->km j j c c m (m+1) x y∈st
theorem MR{l:aM}{wider:Int}{conf:List Int}{i k:Nat}{b:au}{pers:List (List ck)}{s:CR}{y:aW}(hb:l.aj[i]?=some b)(hy:b.ar[k]?=some y)(h:Bo l wider conf i k b pers s) :
  XH l wider conf i k b s (if k=0 then s.steps else s.steps ++ [⟨((s.of ++ [s.now])[k-1]?).getD .right,s.now,y.shown-((b.ar[k-1]?).getD ⟨0,0,.empty,0⟩).shown⟩]):=by
 cases k with
 | zero=>
  rw[if_pos rfl];refine⟨fun e he=>he,h.sub,fun j m c x z hx hz ha=>h.ord j m c x z hx hz ?_⟩;rcases jE ha with ha|⟨_,ha⟩
  ·exact ha
  ·omega
 | succ k=>
  rw[if_neg (by omega),Nat.add_sub_cancel];have ZG:=(List.getElem?_eq_some_iff.1 hy).1;obtain⟨x,hx⟩:∃ x,b.ar[k]?=some x:=⟨_,List.getElem?_eq_getElem (by omega)⟩;have CK:((s.of ++ [s.now])[k]?).getD .right=⟨i,bE b k⟩:=by
   rw[h.of,List.getElem?_append_left (by simp),List.getElem?_map,List.getElem?_range (by omega)];rfl
  have e:(⟨((s.of ++ [s.now])[k]?).getD .right,s.now,y.shown-((b.ar[k]?).getD ⟨0,0,.empty,0⟩).shown⟩:cc)=km i i b b k (k+1) x y:=by
   rw[CK,h.now,hx];rfl
  rw[e];refine⟨fun e he=>List.mem_append_left _ he,fun e he=>?_,fun j m c x' z jT hz ha=>?_⟩
  ·rcases List.mem_append.1 he with he|he
   ·exact h.sub e he
   ·rw[List.mem_singleton]at he
    rw[he];exact .ord i k b x y ⟨hb,hx⟩ ⟨hb,hy⟩
  ·rcases jE ha with ha|⟨h1,h2⟩
   ·exact List.mem_append_left _ (h.ord j m c x' z jT hz ha)
   ·subst h1
    have hm:m=k:=by omega
    subst hm;have mO:c=b:=Option.some.inj (jT.book.symm.trans hb);subst mO;rw[Option.some.inj (jT.fG.symm.trans hx),Option.some.inj (hz.fG.symm.trans hy)];exact List.mem_append_right _ (List.mem_singleton.2 rfl)
theorem of_succ{i k:Nat}{b:au}{s:CR}(ho:s.of=(List.range k).map fun(m:Nat)=>(⟨i,bE b m⟩:ck))(hn:s.now=⟨i,bE b k⟩):s.of ++ [s.now]=(List.range (k+1)).map fun(m:Nat)=>(⟨i,bE b m⟩:ck):=by
 rw[List.range_succ,List.map_append,ho,hn];rfl
theorem ld{b:au}{k:Nat}{y:aW}(hy:b.ar[k]?=some y){num:Int}(h:cw b.ar num 0=some k):y.kind=3/\y.number=num:=by
 obtain⟨z,_,hz,h1,h2,_⟩:=mj h;rw[Nat.sub_zero,hy]at hz;cases hz;exact⟨h1,h2⟩
theorem BG{l:aM}{wider:Int}{conf:List Int}{i k:Nat}{b:au}{pers:List (List ck)}{s:CR}{y:aW}(hp:∀ (j:Nat) c,l.aj[j]?=some c->j<i->pers[j]?=some (eQ j c))(hb:l.aj[i]?=some b)(hy:b.ar[k]?=some y)(h:Bo l wider conf i k b pers s) :
  Bo l wider conf i (k+1) b pers (vZ l wider conf i b pers k y s):=by
 have hs:=MR hb hy h;have CK:=of_succ h.of h.now;have DH:=Gm hy;generalize jA:(if k=0 then s.steps else s.steps ++ [(⟨((s.of ++ [s.now])[k-1]?).getD .right,s.now,y.shown-((b.ar[k-1]?).getD ⟨0,0,.empty,0⟩).shown⟩:cc)])=st at hs;unfold vZ;simp only[jA];have Mh:y.kind≠3 -> ∀ num,(0<=(bD s.mine num).getD 0)/\(1<=(bD s.mine num).getD 0 ↔ ∃ m,m<k+1/\cw b.ar num 0=some m):=fun h3 num=>by
  obtain⟨h1,h2⟩:=h.mine num;refine⟨h1,h2.trans ⟨fun⟨m,hm,he⟩=>⟨m,by omega,he⟩,fun⟨m,hm,he⟩=>⟨m,?_,he⟩⟩⟩;rcases Nat.lt_or_ge m k with dN|AF
  ·exact dN
  ·have:m=k:=by omega
   subst this;exact absurd (ld hy he).1 h3
 have Qf:y.kind≠3 -> ∀ (st':List cc),(∀ e∈st,e∈st') -> ∀ (j m:Nat) (c:au) (z:aW) num,At l j m c z->cw c.ar num 0=some m->num∉conf->mZ i (k+1) j m -> ∃ r,bD s.first num=some r/\(r=⟨j,m⟩\/vV l st' r j m c z):=fun h3 st' jA j m c z num hz hf hc ha=>by
  rcases jE ha with ha|⟨rfl,rfl⟩
  ·obtain⟨r,h1,h2⟩:=h.Nd j m c z num hz hf hc ha
   exact⟨r,h1,h2.imp id (vV.mono fun e he=>jA e (hs.nA e he))⟩
  ·have mO:c=b:=Option.some.inj (hz.book.symm.trans hb)
   subst mO;exact absurd (ld hy hf).1 h3
 have KY:∀ num r,bD s.first num=some r -> ∃ (j m:Nat) (c:au) (x:aW),r=⟨j,m⟩/\At l j m c x/\cw c.ar num 0=some m/\num∉conf/\mZ i (k+1) j m:=fun num r hr=>by
  obtain⟨j,m,c,x,h1,h2,h3,h4,h5⟩:=h.fst num r hr;exact⟨j,m,c,x,h1,h2,h3,h4,h5.succ⟩
 by_cases h2:y.kind=2
 ·rw[if_pos h2]
  rw[if_pos h2]at DH;have h3:y.kind≠3:=by omega
  have Ro:(⟨s.now.book,s.now.n+1⟩:ck)=⟨i,(bE b (k+1):Nat)⟩:=by rw[h.now,DH];simp
  refine⟨Ro,CK,Mh h3,KY,Qf h3 _ fun e he=>List.mem_append_left _ he,fun e he=>?_,fun j c hc hj e he=>List.mem_append_left _ (hs.nA e (h.off j c hc hj e he)),fun j c n hc hn JW e he=>?_,fun j m c x z hx hz ha=>List.mem_append_left _ (hs.ord j m c x z hx hz ha)⟩
  ·rcases List.mem_append.1 he with he|he
   ·exact hs.sub e he
   ·rw[Ro]at he
    exact .set i b hb (bE b (k+1)) (by omega) (l5 b _) e he
  ·rcases JW with JW|⟨rfl,JW⟩
   ·exact List.mem_append_left _ (hs.nA e (h.set j c n hc hn (.inl JW) e he))
   ·rcases Nat.lt_or_ge (bE b k) n with dN|AF
    ·have:n=bE b (k+1):=by omega
     subst this;have mO:c=b:=Option.some.inj (hc.symm.trans hb);subst mO;rw[Ro];exact List.mem_append_right _ he
    ·exact List.mem_append_left _ (hs.nA e (h.set j c n hc hn (.inr ⟨rfl,AF⟩) e he))
 ·rw[if_neg h2]
  rw[if_neg h2,Nat.add_zero]at DH;have BZ:s.now=⟨i,bE b (k+1)⟩:=by rw[DH];exact h.now
  have O4:∀ (st':List cc),(∀ e∈st,e∈st') -> ∀ (j:Nat) c n,l.aj[j]?=some c->1<=n->(j<i/\n<=dm c.ar\/j=i/\n<=bE b (k+1)) -> ∀ e∈dP wider ⟨j,(n:Nat)⟩ c.set,e∈st':=fun st' jA j c n hc hn JW e he=>by
   rw[DH]at JW;exact jA e (hs.nA e (h.set j c n hc hn JW e he))
  have OF:∀ (st':List cc),(∀ e∈st,e∈st') -> ∀ (j:Nat) c,l.aj[j]?=some c->j<=i -> ∀ e∈dP wider ⟨j,0⟩ c.off,e∈st':=fun st' jA j c hc hj e he=>jA e (hs.nA e (h.off j c hc hj e he));by_cases h3:y.kind=3
  ·rw[if_pos h3]
   obtain⟨Lv,zx⟩:=h.mine y.number;obtain⟨m0,abe,Ri⟩:=IC hy h3 rfl;have Ma:∀ num,(0<=(bD (cH s.mine y.number ((bD s.mine y.number).getD 0+1)) num).getD 0)/\(1<=(bD (cH s.mine y.number ((bD s.mine y.number).getD 0+1)) num).getD 0 ↔ ∃ m,m<k+1/\cw b.ar num 0=some m):=fun num=>by
    rw[dw];by_cases hn:num=y.number
    ·rw[if_pos hn,Option.getD_some]
     subst hn;exact⟨by omega,fun _=>⟨m0,by omega,Ri⟩,fun _=>by omega⟩
    ·rw[if_neg hn]
     obtain⟨h4,h5⟩:=h.mine num;refine⟨h4,h5.trans ⟨fun⟨m,hm,he⟩=>⟨m,by omega,he⟩,fun⟨m,hm,he⟩=>⟨m,?_,he⟩⟩⟩;rcases Nat.lt_or_ge m k with dN|AF
     ·exact dN
     ·have:m=k:=by omega
      subst this;exact absurd (ld hy he).2.symm hn
   by_cases hc:(bD s.mine y.number).getD 0+1>1\/y.number∈conf
   ·rw[if_pos hc]
    refine⟨BZ,CK,Ma,KY,fun j m c z num hz hf Lc ha=>?_,hs.sub,OF _ fun e he=>he,O4 _ fun e he=>he,hs.ord⟩;rcases jE ha with ha|⟨rfl,rfl⟩
    ·obtain⟨r,h5,h6⟩:=h.Nd j m c z num hz hf Lc ha
     exact⟨r,h5,h6.imp id (vV.mono hs.nA)⟩
    ·have mO:c=b:=Option.some.inj (hz.book.symm.trans hb)
     subst mO;have pT:=(ld hy hf).2;subst pT;rcases hc with hc|hc
     ·obtain⟨m',h5,h6⟩:=zx.1 (by omega)
      rw[hf]at h6;have:=Option.some.inj h6;omega
     ·exact absurd hc Lc
   ·rw[if_neg hc]
    have vq:¬ 1<=(bD s.mine y.number).getD 0:=fun h=>hc (.inl (by omega));have nr:y.number∉conf:=fun h=>hc (.inr h);have UK:cw b.ar y.number 0=some k:=by
     rcases Nat.lt_or_ge m0 k with dN|AF
     ·exact absurd (zx.2 ⟨m0,dN,Ri⟩) vq
     ·rw[Ri];congr 1;omega
    cases zH:bD s.first y.number with
    | none=>
     simp only;refine⟨BZ,CK,Ma,fun num r hr=>?_,fun j m c z num hz hf Lc ha=>?_,hs.sub,OF _ fun e he=>he,O4 _ fun e he=>he,hs.ord⟩
     ·simp only at hr
      rw[dw]at hr;split at hr
      ·rename_i hn
       cases hr;subst hn;exact⟨i,k,b,y,rfl,⟨hb,hy⟩,UK,nr,.inr ⟨rfl,Nat.lt_succ_self k⟩⟩
      ·exact KY num r hr
     ·simp only
      rw[dw];rcases jE ha with ha|⟨rfl,rfl⟩
      ·obtain⟨r,h5,h6⟩:=h.Nd j m c z num hz hf Lc ha
       have hn:num≠y.number:=by rintro rfl;rw[zH]at h5;cases h5
       rw[if_neg hn];exact⟨r,h5,h6.imp id (vV.mono hs.nA)⟩
      ·have mO:c=b:=Option.some.inj (hz.book.symm.trans hb)
       subst mO;rw[if_pos (ld hy hf).2.symm];exact⟨_,rfl,.inl rfl⟩
    | some r0=>
     simp only;obtain⟨j0,n0,c0,x0,rfl,eE,zt,_,Ng⟩:=h.fst y.number r0 zH;have CI:j0<i:=by
      rcases Ng with Ng|⟨rfl,Ng⟩
      ·exact Ng
      ·have mO:c0=b:=Option.some.inj (eE.book.symm.trans hb)
       subst mO;rw[UK]at zt;have:=Option.some.inj zt;omega
     have e1:(⟨vJ pers ⟨j0,n0⟩,s.now,y.shown-(kI l ⟨j0,n0⟩).shown⟩:cc)=km j0 i c0 b n0 k x0 y:=by
      rw[gZ eE (hp j0 c0 eE.book CI),eg eE,h.now];rfl
     have e2:(⟨s.now,vJ pers ⟨j0,n0⟩,-(y.shown-(kI l ⟨j0,n0⟩).shown)⟩:cc)=km i j0 b c0 k n0 y x0:=by
      rw[gZ eE (hp j0 c0 eE.book CI),eg eE,h.now,Int.neg_sub];rfl
     rw[e1,e2];refine⟨BZ,CK,Ma,KY,fun j m c z num hz hf Lc ha=>?_,fun e he=>?_,OF _ fun e he=>List.mem_append_left _ he,O4 _ fun e he=>List.mem_append_left _ he,fun j m c x z hx hz ha=>List.mem_append_left _ (hs.ord j m c x z hx hz ha)⟩
     ·rcases jE ha with ha|⟨rfl,rfl⟩
      ·obtain⟨r,h5,h6⟩:=h.Nd j m c z num hz hf Lc ha
       exact⟨r,h5,h6.imp id (vV.mono fun e he=>List.mem_append_left _ (hs.nA e he))⟩
      ·have mO:c=b:=Option.some.inj (hz.book.symm.trans hb)
       subst mO;have pT:=(ld hy hf).2;subst pT;have hzy:z=y:=Option.some.inj (hz.fG.symm.trans hy);subst hzy;exact⟨_,zH,.inr ⟨j0,n0,c0,x0,rfl,eE,by simp,by simp⟩⟩
     ·rcases List.mem_append.1 he with he|he
      ·exact hs.sub e he
      ·simp only[List.mem_cons,List.not_mem_nil,or_false]at he
       rcases he with rfl|rfl
       ·exact .rep j0 i n0 k c0 b x0 y y.number ⟨eE,⟨hb,hy⟩,zt,UK,nr⟩
       ·exact .rep i j0 k n0 b c0 y x0 y.number ⟨⟨hb,hy⟩,eE,UK,zt,nr⟩
  ·rw[if_neg h3]
   exact⟨BZ,CK,Mh h3,KY,Qf h3 _ fun e he=>he,hs.sub,OF _ fun e he=>he,O4 _ fun e he=>he,hs.ord⟩
theorem Db{l:aM}{wider:Int}{conf:List Int}{i:Nat}{b:au}{pers:List (List ck)}(hp:∀ (j:Nat) c,l.aj[j]?=some c->j<i->pers[j]?=some (eQ j c))(hb:l.aj[i]?=some b):∀ (r:List aW) {k:Nat} {s:CR},(∀ j,r[j]?=b.ar[k+j]?)->Bo l wider conf i k b pers s->Bo l wider conf i (k+r.length) b pers (lD l wider conf i b pers k r s)
 | [],k,s,_,h=>h
 | y::r,k,s,he,h=>by
  rw[lD,List.length_cons,show k+(r.length+1)=k+1+r.length by omega];refine Db hp hb r (fun j=>?_) (BG hp hb (by have:=he 0;rw[List.getElem?_cons_zero]at this;exact this.symm) h);have:=he (j+1);rw[List.getElem?_cons_succ]at this;rw[this];congr 1;omega
theorem yV(b:au):bE b 0=0:=rfl
theorem xq{l:aM}{wider:Int}{conf:List Int}{i:Nat}{b:au}{s:qw}(hb:l.aj[i]?=some b)(h:zB l wider conf i s):zB l wider conf (i+1) (pB l wider conf i b s):=by
 have h0:Bo l wider conf i 0 b s.pers ⟨s.steps++dP wider ⟨i,0⟩ b.off,s.many+1,s.first,⟨i,0⟩,[],[]⟩:=by
  refine⟨rfl,rfl,fun num=>⟨Int.le_refl 0,fun h=>absurd h (by show ¬ ((1:Int)<=0);decide),fun⟨m,hm,_⟩=>absurd hm (Nat.not_lt_zero m)⟩,fun num r hr=>?_,fun j m c y num hy hf hc ha=>?_,fun e he=>?_,fun j c hc hj e he=>?_,fun j c n hc hn JW e he=>?_,fun j m c x z hx hz ha=>?_⟩
  ·obtain⟨j,m,c,x,h1,h2,h3,h4,h5⟩:=h.fst num r hr
   exact⟨j,m,c,x,h1,h2,h3,h4,.inl h5⟩
  ·rcases ha with ha|⟨_,ha⟩
   ·obtain⟨r,h1,h2⟩:=h.Nd j m c y num hy hf hc ha
    exact⟨r,h1,h2.imp id (vV.mono fun e he=>List.mem_append_left _ he)⟩
   ·exact absurd ha (Nat.not_lt_zero m)
  ·rcases List.mem_append.1 he with he|he
   ·exact h.sub e he
   ·exact .off i b hb e he
  ·rcases Nat.lt_or_ge j i with dN|AF
   ·exact List.mem_append_left _ (h.off j c hc dN e he)
   ·have:j=i:=by omega
    subst this;have mO:c=b:=Option.some.inj (hc.symm.trans hb);subst mO;exact List.mem_append_right _ he
  ·rcases JW with⟨hj,E1⟩|⟨_,E1⟩
   ·exact List.mem_append_left _ (h.set j c n hc hn hj E1 e he)
   ·rw[yV]at E1;omega
  ·rcases ha with ha|⟨_,ha⟩
   ·exact List.mem_append_left _ (h.ord j m c x z hx hz ha)
   ·omega
 have h1:=Db h.pers.2 hb b.ar (fun j=>by rw[Nat.zero_add]) h0;rw[Nat.zero_add]at h1;unfold pB;have ah:∀ (j m:Nat) (c:au) (y:aW),At l j m c y->j<i+1->mZ i b.ar.length j m:=fun j m c y hy hj=>by
  rcases Nat.lt_or_ge j i with dN|AF
  ·exact .inl dN
  ·have:j=i:=by omega
   subst this;have mO:c=b:=Option.some.inj (hy.book.symm.trans hb);subst mO;exact .inr ⟨rfl,(List.getElem?_eq_some_iff.1 hy.fG).1⟩
 refine⟨⟨by simp only[List.length_append,List.length_singleton];rw[h.pers.1],fun j c hc hj=>?_⟩,fun num r hr=>?_,fun j m c y num hy hf hc hj=>h1.Nd j m c y num hy hf hc (ah j m c y hy hj),h1.sub,fun j c hc hj e he=>h1.off j c hc (by omega) e he,fun j c n hc hn hj E1 e he=>?_,fun j m c x z hx hz hj=>h1.ord j m c x z hx hz (ah j (m+1) c z hz hj)⟩
 ·simp only
  rcases Nat.lt_or_ge j i with dN|AF
  ·rw[List.getElem?_append_left (by rw[h.pers.1];exact dN)]
   exact h.pers.2 j c hc dN
  ·have:j=i:=by omega
   subst this;have mO:c=b:=Option.some.inj (hc.symm.trans hb);subst mO;rw[List.getElem?_append_right (by rw[h.pers.1];exact Nat.le_refl _),h.pers.1,Nat.sub_self,h1.of];rfl
 ·obtain⟨j,m,c,x,h2,h3,h4,h5,h6⟩:=h1.fst num r hr
  refine⟨j,m,c,x,h2,h3,h4,h5,?_⟩;rcases h6 with h6|⟨h6,_⟩<;>omega
 ·refine h1.set j c n hc hn ?_ e he
  rcases Nat.lt_or_ge j i with dN|AF
  ·exact .inl ⟨dN,E1⟩
  ·have:j=i:=by omega
   subst this;have mO:c=b:=Option.some.inj (hc.symm.trans hb);subst mO;exact .inr ⟨rfl,by rw[Jy];exact E1⟩
theorem D4{l:aM}{wider:Int}{conf:List Int}:∀ (bs:List au) {i:Nat} {s:qw},(∀ j,bs[j]?=l.aj[i+j]?)->zB l wider conf i s->zB l wider conf (i+bs.length) (lV l wider conf i bs s)
 | [],i,s,_,h=>h
 | b::r,i,s,he,h=>by
  rw[lV,List.length_cons,show i+(r.length+1)=i+1+r.length by omega];refine D4 r (fun j=>?_) (xq (by have:=he 0;rw[List.getElem?_cons_zero]at this;exact this.symm) h);have:=he (j+1);rw[List.getElem?_cons_succ]at this;rw[this];congr 1;omega
theorem qF(l:aM)(wider:Int)(conf:List Int):zB l wider conf l.aj.length (bG l wider conf):=by
 have:=D4 (l:=l) (wider:=wider) (conf:=conf) l.aj (i:=0) (s:=⟨[],0,[],[]⟩) (fun j=>by rw[Nat.zero_add]) ⟨⟨rfl,fun j c _ hj=>absurd hj (Nat.not_lt_zero j)⟩,fun num r hr=>(by cases hr),fun j m c y num _ _ _ hj=>absurd hj (Nat.not_lt_zero j),fun e he=>(by cases he),fun j c _ hj=>absurd hj (Nat.not_lt_zero j),fun j c n _ _ hj=>absurd hj (Nat.not_lt_zero j),fun j m c x z _ _ hj=>absurd hj (Nat.not_lt_zero j)⟩;rw[Nat.zero_add]at this;exact this
theorem CW{l:aM}{j m:Nat}{c:au}{x:aW}(h:At l j m c x):j<l.aj.length:=(List.getElem?_eq_some_iff.1 h.book).1
theorem D5{l:aM}{wider:Int}{conf:List Int}:∀ e∈(bG l wider conf).steps,wY l wider conf e:=(qF l wider conf).sub
theorem I9{l:aM}{wider:Int}{conf:List Int}{e:cc}(h:wY l wider conf e):∃ n,PG.gA (bG l wider conf).steps e.a e.b n e.w:=by
 have hd:=qF l wider conf
 cases h with
 | off i b hb e he=>exact⟨1,.one (hd.off i b hb (List.getElem?_eq_some_iff.1 hb).1 _ he)⟩
 | set i b hb n h1 h2 e he=>exact⟨1,.one (hd.set i b n hb h1 (List.getElem?_eq_some_iff.1 hb).1 h2 _ he)⟩
 | ord i k b x y hx hy=>exact⟨1,.one (hd.ord i k b x y hx hy (CW hx))⟩
 | rep i j m n b c x y num h=>
  obtain⟨r,h1,h2⟩:=hd.Nd i m b x num h.ha h.fa h.no (CW h.ha);obtain⟨r',CD,h3⟩:=hd.Nd j n c y num h.hb h.fb h.no (CW h.hb);rw[h1]at CD;have:r=r':=Option.some.inj CD;subst this;rcases h2 with h2|⟨i1,m1,b1,x1,e1,mf,s1,s1'⟩
  ·rcases h3 with h3|⟨i2,m2,b2,x2,e2,ub,s2,s2'⟩
   ·
    rw[h2]at h3;have mW:i=j:=by injection h3;omega
    have uF:m=n:=by injection h3;omega
    subst mW;subst uF;have Hq:b=c:=Option.some.inj (h.ha.book.symm.trans h.hb.book);subst Hq;have Nt:x=y:=Option.some.inj (h.ha.fG.symm.trans h.hb.fG);subst Nt;refine⟨0,?_⟩;show PG.gA _ _ _ 0 (x.shown-x.shown);rw[Int.sub_self];exact .nil _
   ·rw[h2]at e2
    have mW:i=i2:=by injection e2;omega
    have uF:m=m2:=by injection e2;omega
    subst mW;subst uF;have Hq:b=b2:=Option.some.inj (h.ha.book.symm.trans ub.book);subst Hq;have Nt:x=x2:=Option.some.inj (h.ha.fG.symm.trans ub.fG);subst Nt;exact⟨1,.one s2⟩
  ·rcases h3 with h3|⟨i2,m2,b2,x2,e2,ub,s2,s2'⟩
   ·rw[h3]at e1
    have mW:j=i1:=by injection e1;omega
    have uF:n=m1:=by injection e1;omega
    subst mW;subst uF;have Hq:c=b1:=Option.some.inj (h.hb.book.symm.trans mf.book);subst Hq;have Nt:y=x1:=Option.some.inj (h.hb.fG.symm.trans mf.fG);subst Nt;exact⟨1,.one s1'⟩
   ·rw[e1]at e2
    have mW:i1=i2:=by injection e2;omega
    have uF:m1=m2:=by injection e2;omega
    subst mW;subst uF;have Hq:b1=b2:=Option.some.inj (mf.book.symm.trans ub.book);subst Hq;have Nt:x1=x2:=Option.some.inj (mf.fG.symm.trans ub.fG);subst Nt;refine⟨1+1,?_⟩;have hw:=(PG.gA.one s1').trans (PG.gA.one s2);have e:(km i i1 b b1 m m1 x x1).w+(km i1 j b1 c m1 n x1 y).w=(km i j b c m n x y).w:=by
     show(x1.shown-x.shown)+(y.shown-x1.shown)=y.shown-x.shown;omega
    rw[e]at hw;exact hw
structure xg(l:aM)(wider:Int)(conf:List Int)(t:ck->Int):Prop where
 right:t .right=0
 ok:∀ e,wY l wider conf e->t e.b<=t e.a+e.w
theorem qM{l:aM}{wider:Int}{conf:List Int}{t:ck->Int}(h0:t .right=0):xg l wider conf t↔PG.Qu (bG l wider conf).steps t:=by
 constructor
 ·exact fun h e he=>h.ok e (D5 e he)
 ·intro h
  refine⟨h0,fun e he=>?_⟩;obtain⟨n,hw⟩:=I9 he;exact hw.SW h
def gK(l:aM)(wider:Int)(conf:List Int):Bool:=s4 (bG l wider conf) (fU (bG l wider conf) .right)
theorem JE{es:List cc}{t:ck->Int}(h:PG.Qu es t)(d:Int):PG.Qu es fun p=>t p-d:=fun e he=>by
 have:=h e he;show t e.b-d<=t e.a-d+e.w;omega
theorem KU(l:aM)(wider:Int)(conf:List Int):gK l wider conf=true ↔ ∃ t,xg l wider conf t:=by
 have hs:=qG l wider conf;unfold gK;rw[hs.fit hs.right];constructor
 ·intro mX
  have hd:=hs.KH mX hs.right;have hp:=hd.SW fun e he=>hs.known hs.right (hs.ends e he).1;exact⟨_,(qM (t:=fun v=>(bD (fU (bG l wider conf) .right) v).getD 0) (by have h0:bD (fU (bG l wider conf) .right) .right=some 0:=hd.Qm;show(bD (fU (bG l wider conf) .right) .right).getD 0=0;rw[h0];rfl)).2 hp⟩
 ·rintro ⟨t,ht⟩
  exact PG.uO ((qM ht.right).1 ht)
def cK(x:qw)(p q:ck):Span:=⟨-(kH (fU x p) q),kH (fU x q) p⟩
theorem Kk{l:aM}{wider:Int}{conf:List Int}(hf:gK l wider conf=true){t:ck->Int}(ht:xg l wider conf t){p q:ck}(hp:p∈dV l)(hq:q∈dV l) :
  (cK (bG l wider conf) p q).lo<=t p-t q/\t p-t q<=(cK (bG l wider conf) p q).hi:=by
 have hs:=qG l wider conf;have LD:=(qM ht.right).1 ht;have mX:=PG.uO LD;obtain⟨v,hv⟩:=hs.known hp hq;obtain⟨u,hu⟩:=hs.known hq hp;have h1:=(hs.KH mX hp).Jc LD hv;have h2:=(hs.KH mX hq).Jc LD hu;unfold cK kH;simp only[hv,hu,Option.getD_some];omega
theorem CU{l:aM}{wider:Int}{conf:List Int}(hf:gK l wider conf=true){p q:ck}(hp:p∈dV l)(hq:q∈dV l) :
  (∃ t,xg l wider conf t/\t p-t q=(cK (bG l wider conf) p q).hi) /\ ∃ t,xg l wider conf t/\t p-t q=(cK (bG l wider conf) p q).lo:=by
 have hs:=qG l wider conf;have mX:PG.zY (bG l wider conf).steps:=(hs.fit hs.right).1 hf;have key:∀ {a b:ck},a∈dV l->b∈dV l -> ∃ t,xg l wider conf t/\t b-t a=kH (fU (bG l wider conf) a) b:=fun {a b} ha hb=>by
  have hd:=hs.KH mX ha;have LD:=hd.SW fun e he=>hs.known ha (hs.ends e he).1;have h0:=hd.Qm;refine⟨fun v=>(bD (fU (bG l wider conf) a) v).getD 0-(bD (fU (bG l wider conf) a) .right).getD 0,(qM (by show(bD (fU (bG l wider conf) a) .right).getD 0-(bD (fU (bG l wider conf) a) .right).getD 0=0;omega)).2 (JE LD _),?_⟩;simp only at h0 ⊢;rw[h0];unfold kH;simp only[Option.getD_some];omega
 obtain⟨t,ht,he⟩:=key hq hp;obtain⟨u,hu,Lf⟩:=key hp hq;exact⟨⟨t,ht,he⟩,u,hu,by show _ = -(kH _ _);rw[<- Lf];omega⟩
def p8(bs:List au):Nat:=(bs.map fun b=>dm b.ar+1).sum
def Qe(l:aM)(i n:Nat):Nat:=1+n+p8 (l.aj.take i)
theorem rZ(b:au)(r:List au):p8 (b::r)=dm b.ar+1+p8 r:=by
 unfold p8;rw[List.map_cons,List.sum_cons]
theorem qx(i:Nat)(b:au):(vc i b).length=dm b.ar+1:=by
 unfold vc;rw[List.length_map,List.length_range]
theorem yK:∀ (bs:List au) (i:Nat),(iS i bs).length=p8 bs
 | [],_=>rfl
 | b::r,i=>by
  rw[iS,List.length_append,qx,yK r,rZ]
theorem AW:∀ {bs:List au} {i0 i:Nat} {b:au} {n:Nat},bs[i]?=some b->n<=dm b.ar->(iS i0 bs)[n+p8 (bs.take i)]?=some ⟨(i0+i:Nat),n⟩
 | [],_,i,b,n,h,_=>by simp at h
 | c::r,i0,0,b,n,h,hn=>by
  rw[List.getElem?_cons_zero]at h;cases h;rw[iS,List.take_zero];show(vc i0 c++iS (i0+1) r)[n+0]?=_;rw[Nat.add_zero,List.getElem?_append_left (by rw[qx];omega)];unfold vc;rw[List.getElem?_map,List.getElem?_range (by omega)];rfl
 | c::r,i0,i+1,b,n,h,hn=>by
  rw[List.getElem?_cons_succ]at h;rw[iS,List.take_succ_cons,rZ,List.getElem?_append_right (by rw[qx];omega),qx,show n+(dm c.ar+1+p8 (r.take i))-(dm c.ar+1)=n+p8 (r.take i) by omega,AW (i0:=i0+1) h hn,show i0+1+i=i0+(i+1) by omega]
theorem Mg{l:aM}{i:Nat}{b:au}{n:Nat}(h:l.aj[i]?=some b)(hn:n<=dm b.ar):(dV l)[Qe l i n]?=some ⟨i,n⟩:=by
 unfold dV Qe;rw[show 1+n+p8 (l.aj.take i)=(n+p8 (l.aj.take i))+1 by omega,List.getElem?_cons_succ,AW (i0:=0) h hn,Nat.zero_add]
structure GU(b:au):Prop where
 off : -720<=b.off.lo/\b.off.lo<=b.off.hi/\b.off.hi<=720
 set : -720<=b.set.lo/\b.set.lo<=b.set.hi/\b.set.hi<=720
 ar:b.ar.length<=8
 fG:∀ x∈b.ar,(0<=x.shown/\x.shown<=20000)/\(1<=x.kind/\x.kind<=3)/\(0<=x.number/\x.number<=99)
structure pn(l:aM):Prop where
 near:0<=l.near/\l.near<=60
 aj:1<=l.aj.length/\l.aj.length<=3
 book:∀ b∈l.aj,GU b
theorem MQ{wider:Int}{p:ck}{s:Span}{e:cc}(he:e∈dP wider p s)(hs : -720<=s.lo/\s.lo<=s.hi/\s.hi<=720)(hw:0<=wider/\wider<=1048576) : -1100000<=e.w/\e.w<=1100000:=by
 unfold dP at he;simp only[List.mem_cons,List.not_mem_nil,or_false]at he;rcases he with rfl|rfl
 ·simp only;omega
 ·simp only;omega
theorem RX{l:aM}{wider:Int}{conf:List Int}(hR:pn l)(hw:0<=wider/\wider<=1048576){e:cc}(h:wY l wider conf e) : -1100000<=e.w/\e.w<=1100000:=by
 have sh:∀ {i k b x},At l i k b x->0<=x.shown/\x.shown<=20000:=fun {i k b x} hx=>((hR.book b (List.mem_of_getElem? hx.book)).fG x (List.mem_of_getElem? hx.fG)).1
 cases h with
 | off i b hb e he=>exact MQ he (hR.book b (List.mem_of_getElem? hb)).off hw
 | set i b hb n h1 h2 e he=>exact MQ he (hR.book b (List.mem_of_getElem? hb)).set hw
 | ord i k b x y hx hy=>
  have h1:=sh hx;have h2:=sh hy;show -1100000<=y.shown-x.shown/\y.shown-x.shown<=1100000;omega
 | rep i j m n b c x y num h=>
  have h1:=sh h.ha;have h2:=sh h.hb;show -1100000<=y.shown-x.shown/\y.shown-x.shown<=1100000;omega
theorem nN(b:au):dm b.ar<=b.ar.length:=by
 unfold dm;exact List.length_filter_le _ _
theorem KM{l:aM}{wider:Int}{conf:List Int}{i:Nat}{b:au}{pers:List (List ck)}{k:Nat}{y:aW}{s:CR}:(vZ l wider conf i b pers k y s).steps.length<=s.steps.length+3:=by
 have h1:∀ (st:List cc) (e:cc),(if k=0 then st else st ++ [e]).length<=st.length+1:=fun st e=>by split<;>simp
 unfold vZ;simp only;have h2:=h1 s.steps ⟨((s.of ++ [s.now])[k-1]?).getD .right,s.now,y.shown-((b.ar[k-1]?).getD ⟨0,0,.empty,0⟩).shown⟩;generalize (if k=0 then s.steps else s.steps ++ [(⟨((s.of ++ [s.now])[k-1]?).getD .right,s.now,y.shown-((b.ar[k-1]?).getD ⟨0,0,.empty,0⟩).shown⟩:cc)])=st at h2 ⊢;split
 ·simp only[List.length_append,dP,List.length_cons,List.length_nil];omega
 ·split
  ·split
   ·simp only;omega
   ·split
    ·simp only;omega
    ·simp only[List.length_append,List.length_cons,List.length_nil];omega
  ·simp only;omega
theorem Ak{l:aM}{wider:Int}{conf:List Int}{i:Nat}{b:au}{pers:List (List ck)}:∀ (r:List aW) {k:Nat} {s:CR},(lD l wider conf i b pers k r s).steps.length<=s.steps.length+3*r.length
 | [],k,s=>Nat.le_refl _
 | y::r,k,s=>by
  rw[lD,List.length_cons];have h1:=Ak (l:=l) (wider:=wider) (conf:=conf) (i:=i) (b:=b) (pers:=pers) r (k:=k+1) (s:=vZ l wider conf i b pers k y s);have h2:=KM (l:=l) (wider:=wider) (conf:=conf) (i:=i) (b:=b) (pers:=pers) (k:=k) (y:=y) (s:=s);omega
theorem AT{l:aM}{wider:Int}{conf:List Int}:∀ (bs:List au) {i:Nat} {s:qw},(∀ b∈bs,b.ar.length<=8)->(lV l wider conf i bs s).steps.length<=s.steps.length+26*bs.length
 | [],i,s,_=>Nat.le_refl _
 | b::r,i,s,h=>by
  rw[lV,List.length_cons];have h1:=AT (l:=l) (wider:=wider) (conf:=conf) r (i:=i+1) (s:=pB l wider conf i b s) fun c hc=>h c (by simp[hc]);have h2:=Ak (l:=l) (wider:=wider) (conf:=conf) (i:=i) (b:=b) (pers:=s.pers) b.ar (k:=0) (s:=⟨s.steps++dP wider ⟨i,0⟩ b.off,s.many+1,s.first,⟨i,0⟩,[],[]⟩);have h3:=h b (by simp);have h4:(pB l wider conf i b s).steps.length<=s.steps.length+2+3*b.ar.length:=by
   refine Nat.le_trans h2 ?_;simp[dP]
  omega
theorem LZ{l:aM}(hR:pn l)(wider:Int)(conf:List Int):(bG l wider conf).steps.length<=78:=by
 have:=AT (l:=l) (wider:=wider) (conf:=conf) l.aj (i:=0) (s:=⟨[],0,[],[]⟩) fun b hb=>(hR.book b hb).ar;have h2:=hR.aj;unfold bG;simp only[List.length_nil]at this;omega
def rB(m:PM)(B:Int):Prop:=∀ p v,bD m p=some v -> -B<=v/\v<=B
theorem H7{m:PM×Bool}{s:cc}{B:Int}(h:rB m.1 B)(hs : -1100000<=s.w/\s.w<=1100000):rB (jP m s).1 (B+1100000):=by
 have up:rB m.1 (B+1100000):=fun p v hv=>by have:=h p v hv;omega
 unfold jP
 cases h1:bD m.1 s.a with
 | none=>exact up
 | some n=>
  have hn:=h s.a n h1;have zL:rB (cH m.1 s.b (n+s.w)) (B+1100000):=fun p v hv=>by
   rw[dw]at hv;split at hv
   ·cases hv;omega
   ·exact up p v hv
  simp only
  cases h2:bD m.1 s.b with
  | none=>exact zL
  | some x=>
   simp only;split
   ·exact zL
   ·exact up
def bL(x:aW):D:=if x.kind=1 then .ifc 214 (.agg [.str x.word]) else if x.kind=2 then .ifc 288 (.agg []) else if x.kind=3 then .ifc 228 (.agg [.str x.word,i64 x.number]) else .nili
theorem zS(x:aW):bq Tryz.prog 111 [x.d] (bL x):=by
 refine aI mixed ak Tryz.func111 rfl (ft:=Ty) 1 (by decide +kernel) (by rfl) fun {σ} Y st=>?_;conv=>whnf
 unfold bL;refine af (fun h1=>?_) (fun h1=>?_)
 ·rw[if_pos (of_decide_eq_true h1)]
  conv=>whnf
  exact ab 0 rfl ⟨⟨rfl,rfl⟩,rfl⟩
 ·rw[if_neg (of_decide_eq_false h1)]
  conv=>whnf
  refine af (fun h2=>?_) (fun h2=>?_)
  ·rw[if_pos (of_decide_eq_true h2)]
   conv=>whnf
   exact ab 0 rfl ⟨⟨rfl,rfl⟩,rfl⟩
  ·rw[if_neg (of_decide_eq_false h2)]
   conv=>whnf
   refine af (fun h3=>?_) (fun h3=>?_)
   ·rw[if_pos (of_decide_eq_true h3)]
    conv=>whnf
    exact ab 0 rfl ⟨⟨rfl,rfl⟩,rfl⟩
   ·rw[if_neg (of_decide_eq_false h3)]
    conv=>whnf
    exact ab 0 rfl ⟨⟨rfl,rfl⟩,rfl⟩
def fP(n lo hi:Int):Bool:=!fX n lo hi
theorem yP(lo hi n:Int):bq Tryz.prog 109 [i64 lo,i64 hi,.vs [[i64 n]]] (.bool (fP n lo hi)):=bq.cast (QL lo hi n) rfl
def qO(x:aW):Int:=
 if fP x.shown 0 20000 then 7
 else if x.kind=1 then (if eH x.word&&decide (x.number=0) then 0 else 6)
 else if x.kind=2 then (if decide (x.word = .empty)&&decide (x.number=0) then 0 else 6)
 else if x.kind=3 then (if eH x.word && !fP x.number 1 99 then 0 else 6)
 else 4
theorem aas(x:aW):bq Tryz.prog 167 [x.d] (i64 (qO x)):=by
 refine aI mixed ak Tryz.func167 rfl (ft:=TU) 1 (by decide +kernel) (by rfl) fun {σ} Y st=>?_;conv=>whnf
 refine aB (yP 0 20000 x.shown) rfl 1 rfl ?_;unfold qO
 cases h0:fP x.shown 0 20000 with
 | true=>
  conv=>whnf
  exact ab 0 rfl ⟨⟨rfl,rfl⟩,rfl⟩
 | false=>
  conv=>whnf
  refine ai (zS x) rfl rfl ?_;conv=>whnf
  have Vl:(x.word=(⟨#[]⟩:ByteArray))↔x.word = .empty:=Iff.rfl;by_cases h1:x.kind=1
  ·have ht:bL x = .ifc 214 (.agg [.str x.word]):=by unfold bL;rw[if_pos h1]
   rw[ht,if_pos h1];conv=>whnf
   refine ai (NS x.word) rfl rfl ?_;conv=>whnf
   cases hn:eH x.word with
   | false=>
    conv=>whnf
    exact ab 0 rfl ⟨⟨rfl,rfl⟩,rfl⟩
   | true=>
    conv=>whnf
    generalize decide (x.number=0)=B
    cases B with
    | false=>
     conv=>whnf
     exact ab 0 rfl ⟨⟨rfl,rfl⟩,rfl⟩
    | true=>
     conv=>whnf
     exact ab 0 rfl ⟨⟨rfl,rfl⟩,rfl⟩
  ·rw[if_neg h1]
   by_cases h2:x.kind=2
   ·have ht:bL x = .ifc 288 (.agg []):=by unfold bL;rw[if_neg h1,if_pos h2]
    rw[ht,if_pos h2];conv=>whnf
    have B2:decide (x.word = .empty)=decide (x.word=(⟨#[]⟩:ByteArray)):=rfl;rw[B2];generalize decide (x.word=(⟨#[]⟩:ByteArray))=A
    cases A with
    | false=>
     conv=>whnf
     exact ab 0 rfl ⟨⟨rfl,rfl⟩,rfl⟩
    | true=>
     conv=>whnf
     generalize decide (x.number=0)=B
     cases B with
     | false=>
      conv=>whnf
      exact ab 0 rfl ⟨⟨rfl,rfl⟩,rfl⟩
     | true=>
      conv=>whnf
      exact ab 0 rfl ⟨⟨rfl,rfl⟩,rfl⟩
   ·rw[if_neg h2]
    by_cases h3:x.kind=3
    ·have ht:bL x = .ifc 228 (.agg [.str x.word,i64 x.number]):=by unfold bL;rw[if_neg h1,if_neg h2,if_pos h3]
     rw[ht,if_pos h3];conv=>whnf
     refine ai (NS x.word) rfl rfl ?_;conv=>whnf
     cases hn:eH x.word with
     | false=>
      conv=>whnf
      exact ab 0 rfl ⟨⟨rfl,rfl⟩,rfl⟩
     | true=>
      conv=>whnf
      refine aB (yP 1 99 x.number) rfl 1 rfl ?_
      cases h4:fP x.number 1 99 with
      | false=>
       conv=>whnf
       exact ab 0 rfl ⟨⟨rfl,rfl⟩,rfl⟩
      | true=>
       conv=>whnf
       exact ab 0 rfl ⟨⟨rfl,rfl⟩,rfl⟩
    ·have ht:bL x = .nili:=by unfold bL;rw[if_neg h1,if_neg h2,if_neg h3]
     rw[ht,if_neg h3];conv=>whnf
     exact ab 0 rfl ⟨⟨rfl,rfl⟩,rfl⟩
theorem aar(y x:au):bq Tryz.prog 166 [.agg y.cells,.ref x.cells] (.bool (decide (y.name=x.name))):=by
 refine aI mixed ak Tryz.func166 rfl (ft:=TS) 2 (by decide +kernel) (by rfl) fun {σ} Y st=>?_;conv=>whnf
 exact ab 0 rfl ⟨⟨rfl,rfl⟩,rfl⟩
theorem VD(l:List au)(g:FuncId)(bS:List D)(p:au->Bool)(hl:l.length<4000000000000000000)(hp:∀ x∈l,bq Tryz.prog g (.agg x.cells::bS) (.bool (p x))) :
  bq Tryz.prog 202 [bF l,.clo g bS] (i64 (indexOf p l 0)):=by
 refine aI mixed ak Tryz.func202 rfl (ft:=Ua) 2 (by decide +kernel) (by rfl) fun {σ} Y st=>?_;conv=>whnf
 refine bx (T:=tys) ak (by exact an mixed ak (by decide +kernel)) l (fun i (_:Unit)=>⟨[(0,.d (bF l)),(1,.d (.clo g bS)),(7,.d (i64 l.length)),(8,.d (i64 i))],[],st⟩) (fun i r _=>indexOf p l 0=indexOf p r i) () (Wk.sub (by repeat' first|constructor|simp[PX.get]) trivial) rfl ?_ ?_
 ·intro i x r _ hx hi hr he
  rw[indexOf]at he;conv=>whnf
  refine af (fun _=>?_) (fun h=>absurd hi (by simpa using h));conv=>whnf
  refine aw hx ?_;conv=>whnf
  refine ai (hp x (List.mem_of_getElem? hx)) rfl rfl ?_;conv=>whnf
  refine af (fun h1=>?_) (fun h1=>?_)
  ·conv=>whnf
   rw[he,if_pos h1];exact ab 0 rfl ⟨⟨rfl,rfl⟩,rfl⟩
  ·rw[if_neg (by simp[h1])]at he
   conv=>whnf
   refine ae (wrap_i64 (by(try dsimp only);omega)) ?_;conv=>whnf
   exact⟨(),he,(Wk.sub (by repeat' first|constructor|simp[PX.get]) trivial)⟩
 ·intro _ he
  conv=>whnf
  refine af (fun h=>absurd h (by simp)) (fun _=>?_);conv=>whnf
  rw[he];exact ab 0 rfl ⟨⟨rfl,rfl⟩,rfl⟩
theorem aaq(l:List au)(g:FuncId)(bS:List D)(p:au->Bool)(hl:l.length<4000000000000000000)(hp:∀ x∈l,bq Tryz.prog g (.agg x.cells::bS) (.bool (p x))) :
  bq Tryz.prog 165 [bF l,.clo g bS] (.bool (l.any p)):=by
 refine aI mixed ak Tryz.func165 rfl (ft:=TR) 2 (by decide +kernel) (by rfl) fun {σ} Y st=>?_;conv=>whnf
 refine ai (VD l g bS p hl hp) rfl rfl ?_;conv=>whnf
 refine ab 0 rfl ⟨⟨?_,rfl⟩,rfl⟩;rw[<- gR p l 0 (by omega)];rfl
def pP(pre:List au)(b:au):Int:=
 if eH b.name then
  if pre.any (fun x=>decide (x.name=b.name)) then 5
  else if fP b.off.lo (-720) 720||fP b.off.hi (-720) 720||fP b.set.lo (-720) 720||fP b.set.hi (-720) 720 then 7
  else if decide (b.off.lo>b.off.hi)||decide (b.set.lo>b.set.hi) then 2
  else if b.ar.length>8 then 3 else 0
 else 6
def kK:List aW->Nat->Int×Int
 | [],_=>(0,0)
 | y::r,k=>if qO y=0 then kK r (k+1) else (k,qO y)
def iv:List au->List au->Nat->Int×Int×Int
 | _,[],_=>(0,0,0)
 | pre,b::r,i=>if pP pre b=0 then (if (kK b.ar 0).2=0 then iv (pre ++ [b]) r (i+1) else ((i+1:Nat),(kK b.ar 0).1,(kK b.ar 0).2)) else ((i+1:Nat),0,pP pre b)
def fK(l:aM):Int×Int×Int:=
 if fP l.near 0 60 then (0,0,7) else if fP l.aj.length 1 3 then (0,0,3) else iv [] l.aj 0
def Wn(x:Int×Int×Int):D:=.tup [i64 x.1,i64 x.2.1,i64 x.2.2]
theorem VB(lo hi a b c d:Int):bq Tryz.prog 109 [i64 lo,i64 hi,.vs [[i64 a],[i64 b],[i64 c],[i64 d]]] (.bool (fP a lo hi||fP b lo hi||fP c lo hi||fP d lo hi)):=bq.cast (Tk lo hi [a,b,c,d] (by simp)) (by simp[fP,fX,Bool.or_assoc,Int.not_le];grind)
theorem aaf(l:aM):bq Tryz.prog 106 [l.d] (Wn (fK l)):=by
 refine aI mixed ak Tryz.func106 rfl (ft:=Tu) 1 (by decide +kernel) (by rfl) fun {σ} Y st=>?_;conv=>whnf
 unfold fK;refine aB (yP 0 60 _) rfl 1 rfl ?_
 cases h0:fP l.near 0 60 with
 | true=>
  conv=>whnf
  exact ab 0 rfl ⟨⟨rfl,rfl⟩,rfl⟩
 | false=>
  conv=>whnf
  refine aB (yP 1 3 l.aj.length) rfl 1 (by
   show some _=some _;simp[bF]) ?_
  conv=>whnf
  cases h1:fP l.aj.length 1 3 with
  | true=>
   conv=>whnf
   exact ab 0 rfl ⟨⟨rfl,rfl⟩,rfl⟩
  | false=>
   have hlen:l.aj.length<=3:=by
    have h1:=h1;unfold fP fX at h1;simp at h1;omega
   simp only[if_false,Bool.false_eq_true];conv=>whnf
   generalize hK:iv [] l.aj 0=K;refine bx (T:=tys) ak (by exact an mixed ak (by decide +kernel)) l.aj (fun i (_:Unit)=>⟨[(1,.ptr 1 0),(21,.d (bF l.aj)),(22,.d (i64 l.aj.length)),(23,.d (i64 i))],[(1,.box (.dd l.cells))],st⟩)
    (fun i r _=>iv (l.aj.take i) r i=K) () (Wk.sub (by repeat' first|constructor|simp[PX.get]) ⟨(by first|rfl|simp[PX.get]),trivial⟩) hK ?_ ?_
   ·rintro i b r _ hx hi hr he
    rw[iv]at he;have wg:l.aj.take (i+1)=l.aj.take i ++ [b]:=by rw[List.take_succ,hx];rfl
    conv=>whnf
    refine af (fun _=>?_) (fun h=>absurd hi (by simpa using h));conv=>whnf
    refine aw hx ?_;conv=>whnf
    refine ai (NS b.name) rfl rfl ?_;unfold pP at he
    cases h2:eH b.name with
    | false=>
     rw[h2]at he;simp only[if_false,Bool.false_eq_true]at he;conv=>whnf
     refine ae (wrap_i64 (by(try dsimp only);omega)) ?_;conv=>whnf
     rw[<- he];exact ab 0 rfl ⟨⟨rfl,rfl⟩,rfl⟩
    | true=>
     rw[h2]at he;simp only[if_true]at he;conv=>whnf
     refine aQ (by simp;omega) ?_;conv=>whnf
     refine aQ (by cases l.aj<;>rfl) ?_;conv=>whnf
     refine aB (ds:=[bF (l.aj.take i),.clo 166 [.ref b.cells]]) (aaq (l.aj.take i) 166 [.ref b.cells] (fun y=>decide (y.name=b.name)) (by simp;omega) fun y _=>aar y b) rfl 1 (by show some _=some _;simp[bF,List.map_take];rfl) ?_;generalize QW:((l.aj.take i).any fun y=>decide (y.name=b.name))=A at he ⊢
     cases A with
     | true=>
      simp only[if_true]at he;conv=>whnf
      refine ae (wrap_i64 (by(try dsimp only);omega)) ?_;conv=>whnf
      rw[<- he];exact ab 0 rfl ⟨⟨rfl,rfl⟩,rfl⟩
     | false=>
      simp only[if_false,Bool.false_eq_true]at he;conv=>whnf
      refine aB (VB (-720) 720 b.off.lo b.off.hi b.set.lo b.set.hi) rfl 1 rfl ?_;generalize (fP b.off.lo (-720) 720||fP b.off.hi (-720) 720||fP b.set.lo (-720) 720||fP b.set.hi (-720) 720)=A at he ⊢
      cases A with
      | true=>
       simp only[if_true]at he;conv=>whnf
       refine ae (wrap_i64 (by(try dsimp only);omega)) ?_;conv=>whnf
       rw[<- he];exact ab 0 rfl ⟨⟨rfl,rfl⟩,rfl⟩
      | false=>
       simp only[if_false,Bool.false_eq_true]at he;conv=>whnf
       have e1:decide (b.off.lo>b.off.hi)=decide (b.off.hi<b.off.lo):=rfl;have e2:decide (b.set.lo>b.set.hi)=decide (b.set.hi<b.set.lo):=rfl;rw[e1,e2]at he;generalize decide (b.off.hi<b.off.lo)=A at he ⊢
       cases A with
       | true=>
        simp only[Bool.true_or,if_true]at he;conv=>whnf
        refine ae (wrap_i64 (by(try dsimp only);omega)) ?_;conv=>whnf
        rw[<- he];exact ab 0 rfl ⟨⟨rfl,rfl⟩,rfl⟩
       | false=>
        simp only[Bool.false_or]at he;conv=>whnf
        generalize decide (b.set.hi<b.set.lo)=B at he ⊢
        cases B with
        | true=>
         simp only[if_true]at he;conv=>whnf
         refine ae (wrap_i64 (by(try dsimp only);omega)) ?_;conv=>whnf
         rw[<- he];exact ab 0 rfl ⟨⟨rfl,rfl⟩,rfl⟩
        | false=>
         simp only[if_false,Bool.false_eq_true]at he;conv=>whnf
         refine af (fun h3=>?_) (fun h3=>?_)
         ·have h3:b.ar.length>8:=by have:=of_decide_eq_true h3;simp at this;omega
          rw[if_pos h3]at he;conv=>whnf
          refine ae (wrap_i64 (by(try dsimp only);omega)) ?_;conv=>whnf
          rw[<- he];exact ab 0 rfl ⟨⟨rfl,rfl⟩,rfl⟩
         ·have h3:¬ b.ar.length>8:=by have:=of_decide_eq_false h3;simp at this;omega
          rw[if_neg h3,if_pos rfl]at he;conv=>whnf
          generalize hE:kK b.ar 0=E at he;refine bx (T:=tys) ak (by exact an mixed ak (by decide +kernel)) b.ar (fun k (_:Unit)=>⟨[(1,.ptr 1 0),(21,.d (bF l.aj)),(22,.d (i64 l.aj.length)),(23,.d (i64 i)),(5,.d (i64 i)),(88,.d (kJ b.ar)),(89,.d (i64 b.ar.length)),(90,.d (i64 k))],[(1,.box (.dd l.cells))],st⟩)
           (fun k r _=>kK r k=E) () (Wk.sub (by repeat' first|constructor|simp[PX.get]) ⟨(by first|rfl|simp[PX.get]),trivial⟩) hE ?_ ?_
          ·rintro k y r2 _ hy hk wK kL
           rw[kK]at kL;conv=>whnf
           refine af (fun _=>?_) (fun h=>absurd hk (by simpa using h));conv=>whnf
           refine aw hy ?_;conv=>whnf
           refine ai (aas y) rfl rfl ?_;conv=>whnf
           refine af (fun h4=>?_) (fun h4=>?_)
           ·have h4:¬ qO y=0:=by simpa using h4
            rw[if_neg h4]at kL;subst kL;rw[if_neg h4]at he;conv=>whnf
            refine ae (wrap_i64 (by(try dsimp only);omega)) ?_;conv=>whnf
            rw[<- he];exact ab 0 rfl ⟨⟨rfl,rfl⟩,rfl⟩
           ·have h4:qO y=0:=by simpa using h4
            rw[if_pos h4]at kL;conv=>whnf
            refine ae (wrap_i64 (by(try dsimp only);omega)) ?_;conv=>whnf
            exact⟨(),kL,(Wk.sub (by repeat' first|constructor|simp[PX.get]) ⟨(by first|rfl|simp[PX.get]),trivial⟩)⟩
          ·rintro _ kL
           have kL:((0,0):Int×Int)=E:=kL;subst kL;rw[if_pos rfl,<- wg]at he;conv=>whnf
           refine af (fun h=>absurd h (by simp)) (fun _=>?_);conv=>whnf
           refine ae (wrap_i64 (by(try dsimp only);omega)) ?_;conv=>whnf
           exact⟨(),he,(Wk.sub (by repeat' first|constructor|simp[PX.get]) ⟨(by first|rfl|simp[PX.get]),trivial⟩)⟩
   ·rintro _ he
    rw[iv]at he;subst he;conv=>whnf
    refine af (fun h=>absurd h (by simp)) (fun _=>?_);conv=>whnf
    exact ab 0 rfl ⟨⟨rfl,rfl⟩,rfl⟩
section
variable {κ ν : Type} [DecidableEq κ] (kd : κ -> D) (vd : ν -> D)
def eJ(m:List (κ×ν)):List (D×D):=m.map fun p=>(kd p.1,vd p.2)
variable {kd vd}
theorem aP(hs:∀ a b,fR (kd a) (kd b)=some (decide (a=b))){t:κ}:∀ {m:List (κ×ν)},bD m t=none -> ∀ n,findD (kd t) (eJ kd vd m) n=some none
 | [],_,n=>rfl
 | (u,x)::r,h,n=>by
  rw[bD]at h;split at h
  ·cases h
  ·rename_i hu
   show(match fR (kd t) (kd u) with
    | some true=>some (some (n,vd x))
    | some false=>findD (kd t) (eJ kd vd r) (n+1)
    | none=>none)=_
   rw[hs,decide_eq_false hu];exact aP hs h (n+1)
theorem a8(hs:∀ a b,fR (kd a) (kd b)=some (decide (a=b))){t:κ}{v:ν}:∀ {m:List (κ×ν)},bD m t=some v -> ∀ n,∃ i,i<m.length/\findD (kd t) (eJ kd vd m) n=some (some (n+i,vd v))/\(∀ y,(eJ kd vd m).set i (kd t,vd y)=eJ kd vd (cH m t y))/\qn (eJ kd vd m) i (kd t)=eJ kd vd m /\ ∀ y,l7 (eJ kd vd m) i (vd y)=eJ kd vd (cH m t y)
 | [],h,n=>by cases h
 | (u,x)::r,h,n=>by
  rw[bD]at h;split at h
  ·rename_i hu
   cases h;subst hu;refine⟨0,by simp,?_,fun y=>?_,rfl,fun y=>?_⟩
   ·show(match fR (kd t) (kd t) with
     | some true=>some (some (n,vd v))
     | some false=>findD (kd t) (eJ kd vd r) (n+1)
     | none=>none)=_
    rw[hs,decide_eq_true rfl];rfl
   ·rw[cH,if_pos rfl];rfl
   ·rw[cH,if_pos rfl];rfl
  ·rename_i hu
   obtain⟨i,h0,h1,h2,h3,h4⟩:=a8 hs h (n+1);refine⟨i+1,by simp;omega,?_,fun y=>?_,?_,fun y=>?_⟩
   ·show(match fR (kd t) (kd u) with
     | some true=>some (some (n,vd x))
     | some false=>findD (kd t) (eJ kd vd r) (n+1)
     | none=>none)=_
    rw[hs,decide_eq_false hu];show findD (kd t) (eJ kd vd r) (n+1)=_;rw[h1,show n+1+i=n+(i+1) by omega]
   ·rw[cH,if_neg hu]
    show(kd u,vd x)::(eJ kd vd r).set i (kd t,vd y)=(kd u,vd x)::eJ kd vd (cH r t y);rw[h2 y]
   ·show(kd u,vd x)::qn (eJ kd vd r) i (kd t)=_
    rw[h3];rfl
   ·rw[cH,if_neg hu]
    show(kd u,vd x)::l7 (eJ kd vd r) i (vd y)=(kd u,vd x)::eJ kd vd (cH r t y);rw[h4 y]
theorem cr{t:κ}(y:ν):∀ {m:List (κ×ν)},bD m t=none->eJ kd vd m ++ [(kd t,vd y)]=eJ kd vd (cH m t y)
 | [],_=>rfl
 | (u,x)::r,h=>by
  rw[bD]at h;split at h
  ·cases h
  ·rename_i hu
   rw[cH,if_neg hu];show(kd u,vd x)::(eJ kd vd r ++ [(kd t,vd y)])=_;rw[cr y h];rfl
end
def aD(n:Int):D:=i64 n
theorem dI(a b:ck):fR a.d b.d=some (decide (a=b)):=by
 show some (decide (a.book=b.book)&&(decide (a.n=b.n)&&true))=_
 congr 1
 cases a;cases b
 simp
theorem aO(a b:Int):fR (aD a) (aD b)=some (decide (a=b)):=rfl
def My(m:PM):List (D×D):=eJ ck.d aD m
def Cp(l:List cc):D:=.vs (l.map Qn)
def V1(l:List (List ck)):D:=.vs (l.map fun r=>[.vs (r.map ck.cells)])
def Vv(l:aM)(x:qw):List D:=[i64 l.near,bF l.aj,Cp x.steps,V1 x.pers,i64 x.many]
def ew(l:aM)(x:qw):D:=.ref (Vv l x)
end Go.PX
