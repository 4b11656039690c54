import Derived.Test.YtmbefpmbnhdbpaaGreatDoorPxK
set_option linter.all false
set_option maxRecDepth 10000
namespace Go.PX
open Go.Proofs
def dF(l:List aZ):Nat:=(l.filter fun y=>decide (y.kind=2)).length
theorem tD(y:aZ)(r:List aZ):dF (y::r)=(if y.kind=2 then 1 else 0)+dF r:=by
 unfold dF;rw[List.filter_cons];by_cases h:y.kind=2
 ·rw[if_pos (by simpa using h),if_pos h,List.length_cons];omega
 ·rw[if_neg (by simpa using h),if_neg h];omega
def wL(i:Nat)(b:au):List cz:=(List.range (dF b.ar+1)).map fun(n:Nat)=>⟨i,n⟩
def jk:Nat->List au->List cz
 | _,[]=>[]
 | i,b::r=>wL i b++jk (i+1) r
def eB(l:aN):List cz:=.right::jk 0 l.an
def oX(steps:List cv)(p:cz):Prop:=(∃ e∈steps,e.a = .right/\e.b=p) /\ ∃ e∈steps,e.a=p/\e.b = .right
theorem oX.mono{st st':List cv}(h:∀ e∈st,e∈st'){p:cz}:oX st p->oX st' p
 | ⟨⟨e,he,ha⟩,f,hf,hb⟩=>⟨⟨e,h e he,ha⟩,f,h f hf,hb⟩
theorem u7(wider:Int)(p:cz)(s:Span):oX (ek wider p s) p:=
 ⟨⟨_,List.mem_cons_self ..,rfl,rfl⟩,⟨p,.right,wider-s.lo⟩,by simp[ek],rfl,rfl⟩
structure Bg(N:List cz)(i:Nat)(c:Nat)(many:Int)(base:List cv)(s:Eb):Prop where
 now:s.now=⟨i,c⟩
 many:s.many=many+c
 ends:∀ e∈s.steps,e.a∈N/\e.b∈N
 of:∀ p∈s.of,p∈N
 sub:∀ e∈base,e∈s.steps
 star:∀ n:Nat,n<=c->oX s.steps ⟨i,n⟩
theorem EK{α:Type}{N:List α}{d:α}(hd:d∈N){l:List α}(hl:∀ p∈l,p∈N)(k:Nat):(l[k]?).getD d∈N:=by
 cases h:l[k]? with
 | none=>exact hd
 | some p=>exact hl p (List.mem_of_getElem? h)
theorem B5{N:List cz}(hr:cz.right∈N){pers:List (List cz)}(hp:∀ l∈pers,∀ p∈l,p∈N)(x:dt):xl pers x∈N:=by
 unfold xl;refine EK hr (fun p MZ=>?_) _
 cases h:pers[x.book.toNat]? with
 | none=>rw[h]at MZ;cases MZ
 | some l=>rw[h]at MZ;exact hp l (List.mem_of_getElem? h) p MZ
theorem OW{N:List cz}(hr:cz.right∈N){l:aN}{wider:Int}{conf:List Int}{i:Nat}{b:au}{pers:List (List cz)}(hp:∀ l∈pers,∀ p∈l,p∈N){c:Nat}{many:Int}{base:List cv}{k:Nat}{y:aZ}{s:Eb}(h:Bg N i c many base s)(hc:(⟨i,c⟩:cz)∈N)(wS:y.kind=2->(⟨i,(c+1:Nat)⟩:cz)∈N) :
  Bg N i (c+if y.kind=2 then 1 else 0) many base (xC l wider conf i b pers k y s):=by
 have C7:s.now∈N:=by rw[h.now];exact hc
 have D6:∀ p∈s.of ++ [s.now],p∈N:=fun p MZ=>by
  rcases List.mem_append.1 MZ with MZ|MZ
  ·exact h.of p MZ
  ·rw[List.mem_singleton]at MZ;rw[MZ];exact C7
 generalize ja:(if k=0 then s.steps else s.steps ++ [(⟨((s.of ++ [s.now])[k-1]?).getD .right,s.now,y.shown-((b.ar[k-1]?).getD ⟨0,0,.empty,0⟩).shown⟩:cv)])=st;have mN:∀ e∈s.steps,e∈st:=fun e he=>by
  rw[<- ja];split
  ·exact he
  ·simp[he]
 have s7:∀ e∈st,e.a∈N/\e.b∈N:=fun e he=>by
  rw[<- ja]at he;split at he
  ·exact h.ends e he
  ·rcases List.mem_append.1 he with he|he
   ·exact h.ends e he
   ·rw[List.mem_singleton]at he
    rw[he];exact⟨EK hr D6 _,C7⟩
 unfold xC;simp only[ja];by_cases h2:y.kind=2
 ·rw[if_pos h2,if_pos h2]
  have G5:=wS h2;have Rh:(⟨s.now.book,s.now.n+1⟩:cz)=⟨i,(c+1:Nat)⟩:=by rw[h.now];simp
  refine⟨Rh,by simp only;rw[h.many];omega,fun e he=>?_,D6,fun e he=>List.mem_append_left _ (mN e (h.sub e he)),fun n hn=>?_⟩
  ·rcases List.mem_append.1 he with he|he
   ·exact s7 e he
   ·unfold ek at he
    rw[Rh]at he;simp only[List.mem_cons,List.not_mem_nil,or_false]at he;rcases he with rfl|rfl
    ·exact⟨hr,G5⟩
    ·exact⟨G5,hr⟩
  ·by_cases S6:n<=c
   ·exact(h.star n S6).mono fun e he=>List.mem_append_left _ (mN e he)
   ·have:n=c+1:=by omega
    subst this;refine oX.mono (fun e he=>List.mem_append_right _ he) ?_;rw[Rh];exact u7 ..
 ·rw[if_neg h2,if_neg h2,Nat.add_zero]
  have n5:∀ (st':List cv) (mine:List (Int×Int)) (first:List (Int×dt)),(∀ e∈st,e∈st')->(∀ e∈st',e.a∈N/\e.b∈N)->Bg N i c many base { s with of:=s.of ++ [s.now],steps:=st',mine:=mine,first:=first }:=fun st' mine first h1 h3=>
   ⟨h.now,h.many,h3,D6,fun e he=>h1 e (mN e (h.sub e he)),fun n hn=>(h.star n hn).mono fun e he=>h1 e (mN e he)⟩
  by_cases h3:y.kind=3
  ·rw[if_pos h3]
   split
   ·exact n5 st _ _ (fun e he=>he) s7
   ·split
    ·exact n5 st _ _ (fun e he=>he) s7
    ·refine n5 _ _ _ (fun e he=>List.mem_append_left _ he) fun e he=>?_
     rcases List.mem_append.1 he with he|he
     ·exact s7 e he
     ·simp only[List.mem_cons,List.not_mem_nil,or_false]at he
      rcases he with rfl|rfl
      ·exact⟨B5 hr hp _,C7⟩
      ·exact⟨C7,B5 hr hp _⟩
  ·rw[if_neg h3]
   exact n5 st _ _ (fun e he=>he) s7
theorem Ez{N:List cz}(hr:cz.right∈N){l:aN}{wider:Int}{conf:List Int}{i:Nat}{b:au}{pers:List (List cz)}(hp:∀ l∈pers,∀ p∈l,p∈N){many:Int}{base:List cv}:∀ (r:List aZ) {c k:Nat} {s:Eb},Bg N i c many base s->(∀ n:Nat,n<=c+dF r->(⟨i,n⟩:cz)∈N) ->
  Bg N i (c+dF r) many base (mD l wider conf i b pers k r s)
 | [],c,k,s,h,_=>h
 | y::r,c,k,s,h,hN=>by
  rw[tD]at hN ⊢;rw[mD,<- Nat.add_assoc];refine Ez hr hp r (OW hr hp h (hN c (by omega)) fun h2=>hN (c+1) (by rw[if_pos h2];omega)) fun n hn=>hN n (by omega)
structure CB(N:List cz)(done:List cz)(s:rL):Prop where
 ends:∀ e∈s.steps,e.a∈N/\e.b∈N
 pers:∀ l∈s.pers,∀ p∈l,p∈N
 many:s.many=done.length
 star:∀ p∈done,oX s.steps p
theorem LP{N done:List cz}(hr:cz.right∈N){l:aN}{wider:Int}{conf:List Int}{i:Nat}{b:au}{s:rL}(h:CB N done s)(hN:∀ p∈wL i b,p∈N):CB N (done++wL i b) (qp l wider conf i b s):=by
 have gN:∀ n:Nat,n<=dF b.ar->(⟨i,n⟩:cz)∈N:=fun n hn=>hN _ (List.mem_map.2 ⟨n,List.mem_range.2 (by omega),rfl⟩);have h0:Bg N i 0 (s.many+1) s.steps ⟨s.steps++ek wider ⟨i,0⟩ b.off,s.many+1,s.first,⟨i,0⟩,[],[]⟩:=by
  refine⟨rfl,by simp,fun e he=>?_,fun p hp=>by simp at hp,fun e he=>List.mem_append_left _ he,fun n hn=>?_⟩
  ·rcases List.mem_append.1 he with he|he
   ·exact h.ends e he
   ·unfold ek at he
    simp only[List.mem_cons,List.not_mem_nil,or_false]at he;have:=gN 0 (Nat.zero_le _);rcases he with rfl|rfl
    ·exact⟨hr,this⟩
    ·exact⟨this,hr⟩
  ·have:n=0:=by omega
   subst this;exact(u7 wider ⟨i,(0:Nat)⟩ b.off).mono fun e he=>List.mem_append_right _ he
 have h1:=Ez (l:=l) (wider:=wider) (conf:=conf) (b:=b) hr h.pers b.ar (k:=0) h0 (fun n hn=>gN n (by omega));rw[Nat.zero_add]at h1;unfold qp;refine⟨h1.ends,fun l' hl=>?_,?_,fun p hp=>?_⟩
 ·rcases List.mem_append.1 hl with hl|hl
  ·exact h.pers l' hl
  ·rw[List.mem_singleton]at hl;rw[hl];exact h1.of
 ·show(mD _ _ _ _ _ _ _ _ _).many=_
  rw[h1.many,h.many,List.length_append];unfold wL;rw[List.length_map,List.length_range];omega
 ·rcases List.mem_append.1 hp with hp|hp
  ·exact(h.star p hp).mono h1.sub
  ·obtain⟨n,hn,rfl⟩:=List.mem_map.1 hp
   exact h1.star n (by have:=List.mem_range.1 hn;omega)
theorem zI{N:List cz}(hr:cz.right∈N){l:aN}{wider:Int}{conf:List Int}:∀ (bs:List au) {i:Nat} {done:List cz} {s:rL},CB N done s->(∀ p∈jk i bs,p∈N)->CB N (done++jk i bs) (mV l wider conf i bs s)
 | [],i,done,s,h,_=>by rw[jk,List.append_nil];exact h
 | b::r,i,done,s,h,hN=>by
  rw[jk,mV,<- List.append_assoc];rw[jk]at hN;exact zI hr r (LP hr h fun p hp=>hN p (List.mem_append_left _ hp)) fun p hp=>hN p (List.mem_append_right _ hp)
theorem rZ(l:aN)(wider:Int)(conf:List Int):oW (bI l wider conf) (eB l):=by
 have h:=zI (N:=eB l) (l:=l) (wider:=wider) (conf:=conf) (by simp[eB]) l.an (i:=0) (done:=[]) (s:=⟨[],0,[],[]⟩) ⟨fun e he=>(by cases he),fun x hx=>(by cases hx),rfl,fun p hp=>(by cases hp)⟩ (fun p hp=>List.mem_cons_of_mem _ hp);rw[List.nil_append]at h;have hs:∀ p∈eB l,p ≠ .right->p∈jk 0 l.an:=fun p hp er=>by
  rcases List.mem_cons.1 hp with rfl|hp
  ·exact absurd rfl er
  ·exact hp
 refine⟨h.ends,by simp[eB],?_,fun p hp er=>(h.star p (hs p hp er)).1,fun p hp er=>(h.star p (hs p hp er)).2⟩;show(((eB l).length:Nat):Int)<=(mV l wider conf 0 l.an ⟨[],0,[],[]⟩).many+1;rw[h.many];simp[eB]
def bE(b:au)(k:Nat):Nat:=dF (b.ar.take k)
def cP:List aZ->Int->Nat->Option Nat
 | [],_,_=>none
 | y::r,n,k=>if y.kind=3/\y.number=n then some k else cP r n (k+1)
theorem nD:∀ {r:List aZ} {n:Int} {k m:Nat},cP r n k=some m -> ∃ y,k<=m/\r[m-k]?=some y/\y.kind=3/\y.number=n /\ ∀ j z,j<m-k->r[j]?=some z->¬ (z.kind=3/\z.number=n)
 | [],n,k,m,h=>by cases h
 | y::r,n,k,m,h=>by
  rw[cP]at h;split at h
  ·rename_i h1
   cases h;exact⟨y,Nat.le_refl _,by simp,h1.1,h1.2,fun j z hj=>by omega⟩
  ·rename_i h1
   obtain⟨z,hk,hz,h2,h3,h4⟩:=nD h;refine⟨z,by omega,?_,h2,h3,fun j w hj hw=>?_⟩
   ·rw[show m-k=(m-(k+1))+1 by omega,List.getElem?_cons_succ];exact hz
   ·cases j with
    | zero=>
     rw[List.getElem?_cons_zero]at hw;cases hw;exact h1
    | succ j=>
     rw[List.getElem?_cons_succ]at hw;exact h4 j w (by omega) hw
theorem Bz:∀ {r:List aZ} {n:Int} {k j:Nat} {y:aZ},r[j]?=some y->y.kind=3->y.number=n->(∀ i z,i<j->r[i]?=some z->¬ (z.kind=3/\z.number=n))->cP r n k=some (k+j)
 | [],n,k,j,y,h,_,_,_=>by simp at h
 | z::r,n,k,0,y,h,h1,h2,_=>by
  rw[List.getElem?_cons_zero]at h;cases h;rw[cP,if_pos ⟨h1,h2⟩];rfl
 | z::r,n,k,j+1,y,h,h1,h2,h3=>by
  rw[List.getElem?_cons_succ]at h;rw[cP,if_neg (h3 0 z (by omega) rfl),Bz (k:=k+1) h h1 h2 fun i w hi hw=>h3 (i+1) w (by omega) (by rw[List.getElem?_cons_succ];exact hw)]
  congr 1;omega
theorem JN{r:List aZ}{n:Int}{j:Nat}{y:aZ}(h:r[j]?=some y)(h1:y.kind=3)(h2:y.number=n):∃ m,m<=j/\cP r n 0=some m:=by
 induction j using Nat.strongRecOn generalizing y with
 | _ j ih=>
  by_cases hn:∃ i z,i<j/\r[i]?=some z/\z.kind=3/\z.number=n
  ·obtain⟨i,z,hi,hz,h3,h4⟩:=hn
   obtain⟨m,hm,he⟩:=ih i hi hz h3 h4;exact⟨m,by omega,he⟩
  ·have:=Bz (k:=0) h h1 h2 fun i z hi hz h3=>hn ⟨i,z,hi,hz,h3.1,h3.2⟩
   exact⟨j,Nat.le_refl _,by rw[this,Nat.zero_add]⟩
structure At(l:aN)(i k:Nat)(b:au)(x:aZ):Prop where
 book:l.an[i]?=some b
 fV:b.ar[k]?=some x
def kX(i j:Nat)(b c:au)(m n:Nat)(x y:aZ):cv:=⟨⟨i,bE b m⟩,⟨j,bE c n⟩,y.shown-x.shown⟩
structure Rep(l:aN)(conf:List Int)(i j m n:Nat)(b c:au)(x y:aZ)(num:Int):Prop where
 ha:At l i m b x
 hb:At l j n c y
 fa:cP b.ar num 0=some m
 fb:cP c.ar num 0=some n
 no:num∉conf
inductive yk(l:aN)(wider:Int)(conf:List Int):cv->Prop
 | off (i:Nat) (b:au) (hb:l.an[i]?=some b) (e:cv) (he:e∈ek wider ⟨i,0⟩ b.off):yk l wider conf e
 | set (i:Nat) (b:au) (hb:l.an[i]?=some b) (n:Nat) (h1:1<=n) (h2:n<=dF b.ar) (e:cv) (he:e∈ek wider ⟨i,n⟩ b.set):yk l wider conf e
 | ord (i k:Nat) (b:au) (x y:aZ) (hx:At l i k b x) (hy:At l i (k+1) b y):yk l wider conf (kX i i b b k (k+1) x y)
 | rep (i j m n:Nat) (b c:au) (x y:aZ) (num:Int) (h:Rep l conf i j m n b c x y num):yk l wider conf (kX i j b c m n x y)
def fe(i:Nat)(b:au):List cz:=(List.range b.ar.length).map fun(m:Nat)=>⟨i,bE b m⟩
theorem HL{b:au}{k:Nat}{y:aZ}(h:b.ar[k]?=some y):bE b (k+1)=bE b k+if y.kind=2 then 1 else 0:=by
 unfold bE dF;have hl:=(List.getElem?_eq_some_iff.1 h).1;rw[List.take_succ,h];show(List.filter _ (b.ar.take k ++ [y])).length=_;rw[List.filter_append,List.length_append,List.filter_cons];by_cases h2:y.kind=2
 ·rw[if_pos (by simpa using h2),if_pos h2];simp
 ·rw[if_neg (by simpa using h2),if_neg h2];simp
theorem nb(b:au)(k:Nat):bE b k<=dF b.ar:=by
 unfold bE dF;exact(List.Sublist.filter _ (List.take_sublist k b.ar)).length_le
theorem KS(b:au):bE b b.ar.length=dF b.ar:=by unfold bE;rw[List.take_length]
def xz(l:aN)(st:List cv)(r:dt)(j n:Nat)(c:au)(y:aZ):Prop:=
 ∃ (i m:Nat) (b:au) (x:aZ),r=⟨i,m⟩/\At l i m b x/\kX i j b c m n x y∈st/\kX j i c b n m y x∈st
theorem xz.mono{l:aN}{st st':List cv}(h:∀ e∈st,e∈st'){r:dt}{j n:Nat}{c:au}{y:aZ}:xz l st r j n c y->xz l st' r j n c y
 | ⟨i,m,b,x,h1,h2,h3,h4⟩=>⟨i,m,b,x,h1,h2,h _ h3,h _ h4⟩
def od(i k j m:Nat):Prop:=j<i\/(j=i/\m<k)
structure Cy(l:aN)(wider:Int)(conf:List Int)(i k:Nat)(b:au)(pers:List (List cz))(s:Eb):Prop where
 now:s.now=⟨i,bE b k⟩
 of:s.of=(List.range k).map fun(m:Nat)=>⟨i,bE b m⟩
 mine:∀ num,(0<=(bD s.mine num).getD 0)/\(1<=(bD s.mine num).getD 0 ↔ ∃ m,m<k/\cP b.ar num 0=some m)
 fst:∀ num r,bD s.first num=some r -> ∃ (j m:Nat) (c:au) (x:aZ),r=⟨j,m⟩/\At l j m c x/\cP c.ar num 0=some m/\num∉conf/\od i k j m
 Ou:∀ (j m:Nat) (c:au) (y:aZ) num,At l j m c y->cP c.ar num 0=some m->num∉conf->od i k j m -> ∃ r,bD s.first num=some r/\(r=⟨j,m⟩\/xz l s.steps r j m c y)
 sub:∀ e∈s.steps,yk l wider conf e
 off:∀ (j:Nat) c,l.an[j]?=some c->j<=i -> ∀ e∈ek wider ⟨j,0⟩ c.off,e∈s.steps
 set:∀ (j:Nat) c n,l.an[j]?=some c->1<=n->(j<i/\n<=dF c.ar\/j=i/\n<=bE b k) -> ∀ e∈ek wider ⟨j,(n:Nat)⟩ c.set,e∈s.steps
 ord:∀ (j m:Nat) c x y,At l j m c x->At l j (m+1) c y->od i k j (m+1)->kX j j c c m (m+1) x y∈s.steps
structure AN(l:aN)(wider:Int)(conf:List Int)(i:Nat)(s:rL):Prop where
 pers:s.pers.length=i /\ ∀ (j:Nat) c,l.an[j]?=some c->j<i->s.pers[j]?=some (fe j c)
 fst:∀ num r,bD s.first num=some r -> ∃ (j m:Nat) (c:au) (x:aZ),r=⟨j,m⟩/\At l j m c x/\cP c.ar num 0=some m/\num∉conf/\j<i
 Ou:∀ (j m:Nat) (c:au) (y:aZ) num,At l j m c y->cP c.ar num 0=some m->num∉conf->j<i -> ∃ r,bD s.first num=some r/\(r=⟨j,m⟩\/xz l s.steps r j m c y)
 sub:∀ e∈s.steps,yk l wider conf e
 off:∀ (j:Nat) c,l.an[j]?=some c->j<i -> ∀ e∈ek wider ⟨j,0⟩ c.off,e∈s.steps
 set:∀ (j:Nat) c n,l.an[j]?=some c->1<=n->j<i->n<=dF c.ar -> ∀ e∈ek wider ⟨j,(n:Nat)⟩ c.set,e∈s.steps
 ord:∀ (j m:Nat) c x y,At l j m c x->At l j (m+1) c y->j<i->kX j j c c m (m+1) x y∈s.steps
theorem fT{j:Nat}{c:au}{m:Nat}(h:m<c.ar.length):(fe j c)[m]?=some ⟨j,bE c m⟩:=by
 unfold fe;rw[List.getElem?_map,List.getElem?_range h];rfl
theorem eJ{l:aN}{j m:Nat}{c:au}{x:aZ}(h:At l j m c x):lE l ⟨j,m⟩=x:=by
 unfold lE;simp only[Int.toNat_natCast,h.book,Option.map_some,Option.getD_some,h.fV]
theorem iv{l:aN}{pers:List (List cz)}{j m:Nat}{c:au}{x:aZ}(h:At l j m c x)(hp:pers[j]?=some (fe j c)):xl pers ⟨j,m⟩=⟨j,bE c m⟩:=by
 unfold xl;simp only[Int.toNat_natCast,hp,Option.getD_some,fT (List.getElem?_eq_some_iff.1 h.fV).1]
theorem od.succ{i k j m:Nat}(h:od i k j m):od i (k+1) j m:=h.imp id fun⟨a,b⟩=>⟨a,by omega⟩
theorem kg{i k j m:Nat}(h:od i (k+1) j m):od i k j m\/(j=i/\m=k):=by
 unfold od at *;omega
structure Zo(l:aN)(wider:Int)(conf:List Int)(i k:Nat)(b:au)(s:Eb)(st:List cv):Prop where
 n5:∀ e∈s.steps,e∈st
 sub:∀ e∈st,yk l wider conf e
 ord:∀ (j m:Nat) c x y,At l j m c x->At l j (m+1) c y->od i (k+1) j (m+1)->kX j j c c m (m+1) x y∈st
theorem Oa{l:aN}{wider:Int}{conf:List Int}{i k:Nat}{b:au}{pers:List (List cz)}{s:Eb}{y:aZ}(hb:l.an[i]?=some b)(hy:b.ar[k]?=some y)(h:Cy l wider conf i k b pers s) :
  Zo l wider conf i k b s (if k=0 then s.steps else s.steps ++ [⟨((s.of ++ [s.now])[k-1]?).getD .right,s.now,y.shown-((b.ar[k-1]?).getD ⟨0,0,.empty,0⟩).shown⟩]):=by
 cases k with
 | zero=>
  rw[if_pos rfl];refine⟨fun e he=>he,h.sub,fun j m c x z hx hz ha=>h.ord j m c x z hx hz ?_⟩;rcases kg ha with ha|⟨_,ha⟩
  ·exact ha
  ·omega
 | succ k=>
  rw[if_neg (by omega),Nat.add_sub_cancel];have hkl:=(List.getElem?_eq_some_iff.1 hy).1;obtain⟨x,hx⟩:∃ x,b.ar[k]?=some x:=⟨_,List.getElem?_eq_getElem (by omega)⟩;have D6:((s.of ++ [s.now])[k]?).getD .right=⟨i,bE b k⟩:=by
   rw[h.of,List.getElem?_append_left (by simp),List.getElem?_map,List.getElem?_range (by omega)];rfl
  have e:(⟨((s.of ++ [s.now])[k]?).getD .right,s.now,y.shown-((b.ar[k]?).getD ⟨0,0,.empty,0⟩).shown⟩:cv)=kX i i b b k (k+1) x y:=by
   rw[D6,h.now,hx];rfl
  rw[e];refine⟨fun e he=>List.mem_append_left _ he,fun e he=>?_,fun j m c x' z kE hz ha=>?_⟩
  ·rcases List.mem_append.1 he with he|he
   ·exact h.sub e he
   ·rw[List.mem_singleton]at he
    rw[he];exact .ord i k b x y ⟨hb,hx⟩ ⟨hb,hy⟩
  ·rcases kg ha with ha|⟨h1,h2⟩
   ·exact List.mem_append_left _ (h.ord j m c x' z kE hz ha)
   ·subst h1
    have hm:m=k:=by omega
    subst hm;have la:c=b:=Option.some.inj (kE.book.symm.trans hb);subst la;rw[Option.some.inj (kE.fV.symm.trans hx),Option.some.inj (hz.fV.symm.trans hy)];exact List.mem_append_right _ (List.mem_singleton.2 rfl)
theorem of_succ{i k:Nat}{b:au}{s:Eb}(ho:s.of=(List.range k).map fun(m:Nat)=>(⟨i,bE b m⟩:cz))(hn:s.now=⟨i,bE b k⟩):s.of ++ [s.now]=(List.range (k+1)).map fun(m:Nat)=>(⟨i,bE b m⟩:cz):=by
 rw[List.range_succ,List.map_append,ho,hn];rfl
theorem ma{b:au}{k:Nat}{y:aZ}(hy:b.ar[k]?=some y){num:Int}(h:cP b.ar num 0=some k):y.kind=3/\y.number=num:=by
 obtain⟨z,_,hz,h1,h2,_⟩:=nD h;rw[Nat.sub_zero,hy]at hz;cases hz;exact⟨h1,h2⟩
theorem CS{l:aN}{wider:Int}{conf:List Int}{i k:Nat}{b:au}{pers:List (List cz)}{s:Eb}{y:aZ}(hp:∀ (j:Nat) c,l.an[j]?=some c->j<i->pers[j]?=some (fe j c))(hb:l.an[i]?=some b)(hy:b.ar[k]?=some y)(h:Cy l wider conf i k b pers s) :
  Cy l wider conf i (k+1) b pers (xC l wider conf i b pers k y s):=by
 have hs:=Oa hb hy h;have D6:=of_succ h.of h.now;have A3:=HL hy;generalize ja:(if k=0 then s.steps else s.steps ++ [(⟨((s.of ++ [s.now])[k-1]?).getD .right,s.now,y.shown-((b.ar[k-1]?).getD ⟨0,0,.empty,0⟩).shown⟩:cv)])=st at hs;unfold xC;simp only[ja];have Nv:y.kind≠3 -> ∀ num,(0<=(bD s.mine num).getD 0)/\(1<=(bD s.mine num).getD 0 ↔ ∃ m,m<k+1/\cP b.ar num 0=some m):=fun h3 num=>by
  obtain⟨h1,h2⟩:=h.mine num;refine⟨h1,h2.trans ⟨fun⟨m,hm,he⟩=>⟨m,by omega,he⟩,fun⟨m,hm,he⟩=>⟨m,?_,he⟩⟩⟩;rcases Nat.lt_or_ge m k with dh|AY
  ·exact dh
  ·have:m=k:=by omega
   subst this;exact absurd (ma hy he).1 h3
 have RD:y.kind≠3 -> ∀ (st':List cv),(∀ e∈st,e∈st') -> ∀ (j m:Nat) (c:au) (z:aZ) num,At l j m c z->cP c.ar num 0=some m->num∉conf->od i (k+1) j m -> ∃ r,bD s.first num=some r/\(r=⟨j,m⟩\/xz l st' r j m c z):=fun h3 st' ja j m c z num hz hf hc ha=>by
  rcases kg ha with ha|⟨rfl,rfl⟩
  ·obtain⟨r,h1,h2⟩:=h.Ou j m c z num hz hf hc ha
   exact⟨r,h1,h2.imp id (xz.mono fun e he=>ja e (hs.n5 e he))⟩
  ·have la:c=b:=Option.some.inj (hz.book.symm.trans hb)
   subst la;exact absurd (ma hy hf).1 h3
 have Mp:∀ num r,bD s.first num=some r -> ∃ (j m:Nat) (c:au) (x:aZ),r=⟨j,m⟩/\At l j m c x/\cP c.ar num 0=some m/\num∉conf/\od i (k+1) j m:=fun num r hr=>by
  obtain⟨j,m,c,x,h1,h2,h3,h4,h5⟩:=h.fst num r hr;exact⟨j,m,c,x,h1,h2,h3,h4,h5.succ⟩
 by_cases h2:y.kind=2
 ·rw[if_pos h2]
  rw[if_pos h2]at A3;have h3:y.kind≠3:=by omega
  have Rh:(⟨s.now.book,s.now.n+1⟩:cz)=⟨i,(bE b (k+1):Nat)⟩:=by rw[h.now,A3];simp
  refine⟨Rh,D6,Nv h3,Mp,RD h3 _ fun e he=>List.mem_append_left _ he,fun e he=>?_,fun j c hc hj e he=>List.mem_append_left _ (hs.n5 e (h.off j c hc hj e he)),fun j c n hc hn Lh e he=>?_,fun j m c x z hx hz ha=>List.mem_append_left _ (hs.ord j m c x z hx hz ha)⟩
  ·rcases List.mem_append.1 he with he|he
   ·exact hs.sub e he
   ·rw[Rh]at he
    exact .set i b hb (bE b (k+1)) (by omega) (nb b _) e he
  ·rcases Lh with Lh|⟨rfl,Lh⟩
   ·exact List.mem_append_left _ (hs.n5 e (h.set j c n hc hn (.inl Lh) e he))
   ·rcases Nat.lt_or_ge (bE b k) n with dh|AY
    ·have:n=bE b (k+1):=by omega
     subst this;have la:c=b:=Option.some.inj (hc.symm.trans hb);subst la;rw[Rh];exact List.mem_append_right _ he
    ·exact List.mem_append_left _ (hs.n5 e (h.set j c n hc hn (.inr ⟨rfl,AY⟩) e he))
 ·rw[if_neg h2]
  rw[if_neg h2,Nat.add_zero]at A3;have C7:s.now=⟨i,bE b (k+1)⟩:=by rw[A3];exact h.now
  have Qt:∀ (st':List cv),(∀ e∈st,e∈st') -> ∀ (j:Nat) c n,l.an[j]?=some c->1<=n->(j<i/\n<=dF c.ar\/j=i/\n<=bE b (k+1)) -> ∀ e∈ek wider ⟨j,(n:Nat)⟩ c.set,e∈st':=fun st' ja j c n hc hn Lh e he=>by
   rw[A3]at Lh;exact ja e (hs.n5 e (h.set j c n hc hn Lh e he))
  have P5:∀ (st':List cv),(∀ e∈st,e∈st') -> ∀ (j:Nat) c,l.an[j]?=some c->j<=i -> ∀ e∈ek wider ⟨j,0⟩ c.off,e∈st':=fun st' ja j c hc hj e he=>ja e (hs.n5 e (h.off j c hc hj e he));by_cases h3:y.kind=3
  ·rw[if_pos h3]
   obtain⟨MR,D5⟩:=h.mine y.number;obtain⟨m0,acm,S3⟩:=JN hy h3 rfl;have Nq:∀ num,(0<=(bD (cW s.mine y.number ((bD s.mine y.number).getD 0+1)) num).getD 0)/\(1<=(bD (cW s.mine y.number ((bD s.mine y.number).getD 0+1)) num).getD 0 ↔ ∃ m,m<k+1/\cP b.ar num 0=some m):=fun num=>by
    rw[dL];by_cases hn:num=y.number
    ·rw[if_pos hn,Option.getD_some]
     subst hn;exact⟨by omega,fun _=>⟨m0,by omega,S3⟩,fun _=>by omega⟩
    ·rw[if_neg hn]
     obtain⟨h4,h5⟩:=h.mine num;refine⟨h4,h5.trans ⟨fun⟨m,hm,he⟩=>⟨m,by omega,he⟩,fun⟨m,hm,he⟩=>⟨m,?_,he⟩⟩⟩;rcases Nat.lt_or_ge m k with dh|AY
     ·exact dh
     ·have:m=k:=by omega
      subst this;exact absurd (ma hy he).2.symm hn
   by_cases hc:(bD s.mine y.number).getD 0+1>1\/y.number∈conf
   ·rw[if_pos hc]
    refine⟨C7,D6,Nq,Mp,fun j m c z num hz hf pW ha=>?_,hs.sub,P5 _ fun e he=>he,Qt _ fun e he=>he,hs.ord⟩;rcases kg ha with ha|⟨rfl,rfl⟩
    ·obtain⟨r,h5,h6⟩:=h.Ou j m c z num hz hf pW ha
     exact⟨r,h5,h6.imp id (xz.mono hs.n5)⟩
    ·have la:c=b:=Option.some.inj (hz.book.symm.trans hb)
     subst la;have qH:=(ma hy hf).2;subst qH;rcases hc with hc|hc
     ·obtain⟨m',h5,h6⟩:=D5.1 (by omega)
      rw[hf]at h6;have:=Option.some.inj h6;omega
     ·exact absurd hc pW
   ·rw[if_neg hc]
    have wS:¬ 1<=(bD s.mine y.number).getD 0:=fun h=>hc (.inl (by omega));have ou:y.number∉conf:=fun h=>hc (.inr h);have Wy:cP b.ar y.number 0=some k:=by
     rcases Nat.lt_or_ge m0 k with dh|AY
     ·exact absurd (D5.2 ⟨m0,dh,S3⟩) wS
     ·rw[S3];congr 1;omega
    cases D0:bD s.first y.number with
    | none=>
     simp only;refine⟨C7,D6,Nq,fun num r hr=>?_,fun j m c z num hz hf pW ha=>?_,hs.sub,P5 _ fun e he=>he,Qt _ fun e he=>he,hs.ord⟩
     ·simp only at hr
      rw[dL]at hr;split at hr
      ·rename_i hn
       cases hr;subst hn;exact⟨i,k,b,y,rfl,⟨hb,hy⟩,Wy,ou,.inr ⟨rfl,Nat.lt_succ_self k⟩⟩
      ·exact Mp num r hr
     ·simp only
      rw[dL];rcases kg ha with ha|⟨rfl,rfl⟩
      ·obtain⟨r,h5,h6⟩:=h.Ou j m c z num hz hf pW ha
       have hn:num≠y.number:=by rintro rfl;rw[D0]at h5;cases h5
       rw[if_neg hn];exact⟨r,h5,h6.imp id (xz.mono hs.n5)⟩
      ·have la:c=b:=Option.some.inj (hz.book.symm.trans hb)
       subst la;rw[if_pos (ma hy hf).2.symm];exact⟨_,rfl,.inl rfl⟩
    | some r0=>
     simp only;obtain⟨j0,n0,c0,x0,rfl,eY,AJ,_,Up⟩:=h.fst y.number r0 D0;have D4:j0<i:=by
      rcases Up with Up|⟨rfl,Up⟩
      ·exact Up
      ·have la:c0=b:=Option.some.inj (eY.book.symm.trans hb)
       subst la;rw[Wy]at AJ;have:=Option.some.inj AJ;omega
     have e1:(⟨xl pers ⟨j0,n0⟩,s.now,y.shown-(lE l ⟨j0,n0⟩).shown⟩:cv)=kX j0 i c0 b n0 k x0 y:=by
      rw[iv eY (hp j0 c0 eY.book D4),eJ eY,h.now];rfl
     have e2:(⟨s.now,xl pers ⟨j0,n0⟩,-(y.shown-(lE l ⟨j0,n0⟩).shown)⟩:cv)=kX i j0 b c0 k n0 y x0:=by
      rw[iv eY (hp j0 c0 eY.book D4),eJ eY,h.now,Int.neg_sub];rfl
     rw[e1,e2];refine⟨C7,D6,Nq,Mp,fun j m c z num hz hf pW ha=>?_,fun e he=>?_,P5 _ fun e he=>List.mem_append_left _ he,Qt _ fun e he=>List.mem_append_left _ he,fun j m c x z hx hz ha=>List.mem_append_left _ (hs.ord j m c x z hx hz ha)⟩
     ·rcases kg ha with ha|⟨rfl,rfl⟩
      ·obtain⟨r,h5,h6⟩:=h.Ou j m c z num hz hf pW ha
       exact⟨r,h5,h6.imp id (xz.mono fun e he=>List.mem_append_left _ (hs.n5 e he))⟩
      ·have la:c=b:=Option.some.inj (hz.book.symm.trans hb)
       subst la;have qH:=(ma hy hf).2;subst qH;have hzy:z=y:=Option.some.inj (hz.fV.symm.trans hy);subst hzy;exact⟨_,D0,.inr ⟨j0,n0,c0,x0,rfl,eY,by simp,by simp⟩⟩
     ·rcases List.mem_append.1 he with he|he
      ·exact hs.sub e he
      ·simp only[List.mem_cons,List.not_mem_nil,or_false]at he
       rcases he with rfl|rfl
       ·exact .rep j0 i n0 k c0 b x0 y y.number ⟨eY,⟨hb,hy⟩,AJ,Wy,ou⟩
       ·exact .rep i j0 k n0 b c0 y x0 y.number ⟨⟨hb,hy⟩,eY,Wy,AJ,ou⟩
  ·rw[if_neg h3]
   exact⟨C7,D6,Nv h3,Mp,RD h3 _ fun e he=>he,hs.sub,P5 _ fun e he=>he,Qt _ fun e he=>he,hs.ord⟩
theorem EA{l:aN}{wider:Int}{conf:List Int}{i:Nat}{b:au}{pers:List (List cz)}(hp:∀ (j:Nat) c,l.an[j]?=some c->j<i->pers[j]?=some (fe j c))(hb:l.an[i]?=some b):∀ (r:List aZ) {k:Nat} {s:Eb},(∀ j,r[j]?=b.ar[k+j]?)->Cy l wider conf i k b pers s->Cy l wider conf i (k+r.length) b pers (mD l wider conf i b pers k r s)
 | [],k,s,_,h=>h
 | y::r,k,s,he,h=>by
  rw[mD,List.length_cons,show k+(r.length+1)=k+1+r.length by omega];refine EA hp hb r (fun j=>?_) (CS hp hb (by have:=he 0;rw[List.getElem?_cons_zero]at this;exact this.symm) h);have:=he (j+1);rw[List.getElem?_cons_succ]at this;rw[this];congr 1;omega
theorem Ab(b:au):bE b 0=0:=rfl
theorem yB{l:aN}{wider:Int}{conf:List Int}{i:Nat}{b:au}{s:rL}(hb:l.an[i]?=some b)(h:AN l wider conf i s):AN l wider conf (i+1) (qp l wider conf i b s):=by
 have h0:Cy l wider conf i 0 b s.pers ⟨s.steps++ek wider ⟨i,0⟩ b.off,s.many+1,s.first,⟨i,0⟩,[],[]⟩:=by
  refine⟨rfl,rfl,fun num=>⟨Int.le_refl 0,fun h=>absurd h (by show ¬ ((1:Int)<=0);decide),fun⟨m,hm,_⟩=>absurd hm (Nat.not_lt_zero m)⟩,fun num r hr=>?_,fun j m c y num hy hf hc ha=>?_,fun e he=>?_,fun j c hc hj e he=>?_,fun j c n hc hn Lh e he=>?_,fun j m c x z hx hz ha=>?_⟩
  ·obtain⟨j,m,c,x,h1,h2,h3,h4,h5⟩:=h.fst num r hr
   exact⟨j,m,c,x,h1,h2,h3,h4,.inl h5⟩
  ·rcases ha with ha|⟨_,ha⟩
   ·obtain⟨r,h1,h2⟩:=h.Ou j m c y num hy hf hc ha
    exact⟨r,h1,h2.imp id (xz.mono fun e he=>List.mem_append_left _ he)⟩
   ·exact absurd ha (Nat.not_lt_zero m)
  ·rcases List.mem_append.1 he with he|he
   ·exact h.sub e he
   ·exact .off i b hb e he
  ·rcases Nat.lt_or_ge j i with dh|AY
   ·exact List.mem_append_left _ (h.off j c hc dh e he)
   ·have:j=i:=by omega
    subst this;have la:c=b:=Option.some.inj (hc.symm.trans hb);subst la;exact List.mem_append_right _ he
  ·rcases Lh with⟨hj,A1⟩|⟨_,A1⟩
   ·exact List.mem_append_left _ (h.set j c n hc hn hj A1 e he)
   ·rw[Ab]at A1;omega
  ·rcases ha with ha|⟨_,ha⟩
   ·exact List.mem_append_left _ (h.ord j m c x z hx hz ha)
   ·omega
 have h1:=EA h.pers.2 hb b.ar (fun j=>by rw[Nat.zero_add]) h0;rw[Nat.zero_add]at h1;unfold qp;have ah:∀ (j m:Nat) (c:au) (y:aZ),At l j m c y->j<i+1->od i b.ar.length j m:=fun j m c y hy hj=>by
  rcases Nat.lt_or_ge j i with dh|AY
  ·exact .inl dh
  ·have:j=i:=by omega
   subst this;have la:c=b:=Option.some.inj (hy.book.symm.trans hb);subst la;exact .inr ⟨rfl,(List.getElem?_eq_some_iff.1 hy.fV).1⟩
 refine⟨⟨by simp only[List.length_append,List.length_singleton];rw[h.pers.1],fun j c hc hj=>?_⟩,fun num r hr=>?_,fun j m c y num hy hf hc hj=>h1.Ou j m c y num hy hf hc (ah j m c y hy hj),h1.sub,fun j c hc hj e he=>h1.off j c hc (by omega) e he,fun j c n hc hn hj A1 e he=>?_,fun j m c x z hx hz hj=>h1.ord j m c x z hx hz (ah j (m+1) c z hz hj)⟩
 ·simp only
  rcases Nat.lt_or_ge j i with dh|AY
  ·rw[List.getElem?_append_left (by rw[h.pers.1];exact dh)]
   exact h.pers.2 j c hc dh
  ·have:j=i:=by omega
   subst this;have la:c=b:=Option.some.inj (hc.symm.trans hb);subst la;rw[List.getElem?_append_right (by rw[h.pers.1];exact Nat.le_refl _),h.pers.1,Nat.sub_self,h1.of];rfl
 ·obtain⟨j,m,c,x,h2,h3,h4,h5,h6⟩:=h1.fst num r hr
  refine⟨j,m,c,x,h2,h3,h4,h5,?_⟩;rcases h6 with h6|⟨h6,_⟩<;>omega
 ·refine h1.set j c n hc hn ?_ e he
  rcases Nat.lt_or_ge j i with dh|AY
  ·exact .inl ⟨dh,A1⟩
  ·have:j=i:=by omega
   subst this;have la:c=b:=Option.some.inj (hc.symm.trans hb);subst la;exact .inr ⟨rfl,by rw[KS];exact A1⟩
theorem Fp{l:aN}{wider:Int}{conf:List Int}:∀ (bs:List au) {i:Nat} {s:rL},(∀ j,bs[j]?=l.an[i+j]?)->AN l wider conf i s->AN l wider conf (i+bs.length) (mV l wider conf i bs s)
 | [],i,s,_,h=>h
 | b::r,i,s,he,h=>by
  rw[mV,List.length_cons,show i+(r.length+1)=i+1+r.length by omega];refine Fp r (fun j=>?_) (yB (by have:=he 0;rw[List.getElem?_cons_zero]at this;exact this.symm) h);have:=he (j+1);rw[List.getElem?_cons_succ]at this;rw[this];congr 1;omega
theorem rY(l:aN)(wider:Int)(conf:List Int):AN l wider conf l.an.length (bI l wider conf):=by
 have:=Fp (l:=l) (wider:=wider) (conf:=conf) l.an (i:=0) (s:=⟨[],0,[],[]⟩) (fun j=>by rw[Nat.zero_add]) ⟨⟨rfl,fun j c _ hj=>absurd hj (Nat.not_lt_zero j)⟩,fun num r hr=>(by cases hr),fun j m c y num _ _ _ hj=>absurd hj (Nat.not_lt_zero j),fun e he=>(by cases he),fun j c _ hj=>absurd hj (Nat.not_lt_zero j),fun j c n _ _ hj=>absurd hj (Nat.not_lt_zero j),fun j m c x z _ _ hj=>absurd hj (Nat.not_lt_zero j)⟩;rw[Nat.zero_add]at this;exact this
theorem El{l:aN}{j m:Nat}{c:au}{x:aZ}(h:At l j m c x):j<l.an.length:=(List.getElem?_eq_some_iff.1 h.book).1
theorem Fq{l:aN}{wider:Int}{conf:List Int}:∀ e∈(bI l wider conf).steps,yk l wider conf e:=(rY l wider conf).sub
theorem Kv{l:aN}{wider:Int}{conf:List Int}{e:cv}(h:yk l wider conf e):∃ n,PG.gM (bI l wider conf).steps e.a e.b n e.w:=by
 have hd:=rY l wider conf
 cases h with
 | off i b hb e he=>exact⟨1,.one (hd.off i b hb (List.getElem?_eq_some_iff.1 hb).1 _ he)⟩
 | set i b hb n h1 h2 e he=>exact⟨1,.one (hd.set i b n hb h1 (List.getElem?_eq_some_iff.1 hb).1 h2 _ he)⟩
 | ord i k b x y hx hy=>exact⟨1,.one (hd.ord i k b x y hx hy (El hx))⟩
 | rep i j m n b c x y num h=>
  obtain⟨r,h1,h2⟩:=hd.Ou i m b x num h.ha h.fa h.no (El h.ha);obtain⟨r',BI,h3⟩:=hd.Ou j n c y num h.hb h.fb h.no (El h.hb);rw[h1]at BI;have:r=r':=Option.some.inj BI;subst this;rcases h2 with h2|⟨i1,m1,b1,x1,e1,qN,s1,s1'⟩
  ·rcases h3 with h3|⟨i2,m2,b2,x2,e2,zm,s2,s2'⟩
   ·
    rw[h2]at h3;have qe:i=j:=by injection h3;omega
    have vH:m=n:=by injection h3;omega
    subst qe;subst vH;have IN:b=c:=Option.some.inj (h.ha.book.symm.trans h.hb.book);subst IN;have Ln:x=y:=Option.some.inj (h.ha.fV.symm.trans h.hb.fV);subst Ln;refine⟨0,?_⟩;show PG.gM _ _ _ 0 (x.shown-x.shown);rw[Int.sub_self];exact .nil _
   ·rw[h2]at e2
    have qe:i=i2:=by injection e2;omega
    have vH:m=m2:=by injection e2;omega
    subst qe;subst vH;have IN:b=b2:=Option.some.inj (h.ha.book.symm.trans zm.book);subst IN;have Ln:x=x2:=Option.some.inj (h.ha.fV.symm.trans zm.fV);subst Ln;exact⟨1,.one s2⟩
  ·rcases h3 with h3|⟨i2,m2,b2,x2,e2,zm,s2,s2'⟩
   ·rw[h3]at e1
    have qe:j=i1:=by injection e1;omega
    have vH:n=m1:=by injection e1;omega
    subst qe;subst vH;have IN:c=b1:=Option.some.inj (h.hb.book.symm.trans qN.book);subst IN;have Ln:y=x1:=Option.some.inj (h.hb.fV.symm.trans qN.fV);subst Ln;exact⟨1,.one s1'⟩
   ·rw[e1]at e2
    have qe:i1=i2:=by injection e2;omega
    have vH:m1=m2:=by injection e2;omega
    subst qe;subst vH;have IN:b1=b2:=Option.some.inj (qN.book.symm.trans zm.book);subst IN;have Ln:x1=x2:=Option.some.inj (qN.fV.symm.trans zm.fV);subst Ln;refine⟨1+1,?_⟩;have hw:=(PG.gM.one s1').trans (PG.gM.one s2);have e:(kX i i1 b b1 m m1 x x1).w+(kX i1 j b1 c m1 n x1 y).w=(kX i j b c m n x y).w:=by
     show(x1.shown-x.shown)+(y.shown-x1.shown)=y.shown-x.shown;omega
    rw[e]at hw;exact hw
structure yq(l:aN)(wider:Int)(conf:List Int)(t:cz->Int):Prop where
 right:t .right=0
 ok:∀ e,yk l wider conf e->t e.b<=t e.a+e.w
theorem sa{l:aN}{wider:Int}{conf:List Int}{t:cz->Int}(h0:t .right=0):yq l wider conf t↔PG.RY (bI l wider conf).steps t:=by
 constructor
 ·exact fun h e he=>h.ok e (Fq e he)
 ·intro h
  refine⟨h0,fun e he=>?_⟩;obtain⟨n,hw⟩:=Kv he;exact hw.UF h
def gV(l:aN)(wider:Int)(conf:List Int):Bool:=uh (bI l wider conf) (gk (bI l wider conf) .right)
theorem KY{es:List cv}{t:cz->Int}(h:PG.RY es t)(d:Int):PG.RY es fun p=>t p-d:=fun e he=>by
 have:=h e he;show t e.b-d<=t e.a-d+e.w;omega
theorem Ml(l:aN)(wider:Int)(conf:List Int):gV l wider conf=true ↔ ∃ t,yq l wider conf t:=by
 have hs:=rZ l wider conf;unfold gV;rw[hs.fit hs.right];constructor
 ·intro ob
  have hd:=hs.Me ob hs.right;have hp:=hd.UF fun e he=>hs.known hs.right (hs.ends e he).1;exact⟨_,(sa (t:=fun v=>(bD (gk (bI l wider conf) .right) v).getD 0) (by have h0:bD (gk (bI l wider conf) .right) .right=some 0:=hd.RN;show(bD (gk (bI l wider conf) .right) .right).getD 0=0;rw[h0];rfl)).2 hp⟩
 ·rintro ⟨t,ht⟩
  exact PG.vV ((sa ht.right).1 ht)
def cZ(x:rL)(p q:cz):Span:=⟨-(lC (gk x p) q),lC (gk x q) p⟩
theorem LG{l:aN}{wider:Int}{conf:List Int}(hf:gV l wider conf=true){t:cz->Int}(ht:yq l wider conf t){p q:cz}(hp:p∈eB l)(hq:q∈eB l) :
  (cZ (bI l wider conf) p q).lo<=t p-t q/\t p-t q<=(cZ (bI l wider conf) p q).hi:=by
 have hs:=rZ l wider conf;have M0:=(sa ht.right).1 ht;have ob:=PG.vV M0;obtain⟨v,hv⟩:=hs.known hp hq;obtain⟨u,hu⟩:=hs.known hq hp;have h1:=(hs.Me ob hp).Ky M0 hv;have h2:=(hs.Me ob hq).Ky M0 hu;unfold cZ lC;simp only[hv,hu,Option.getD_some];omega
theorem Eg{l:aN}{wider:Int}{conf:List Int}(hf:gV l wider conf=true){p q:cz}(hp:p∈eB l)(hq:q∈eB l) :
  (∃ t,yq l wider conf t/\t p-t q=(cZ (bI l wider conf) p q).hi) /\ ∃ t,yq l wider conf t/\t p-t q=(cZ (bI l wider conf) p q).lo:=by
 have hs:=rZ l wider conf;have ob:PG.Bh (bI l wider conf).steps:=(hs.fit hs.right).1 hf;have key:∀ {a b:cz},a∈eB l->b∈eB l -> ∃ t,yq l wider conf t/\t b-t a=lC (gk (bI l wider conf) a) b:=fun {a b} ha hb=>by
  have hd:=hs.Me ob ha;have M0:=hd.UF fun e he=>hs.known ha (hs.ends e he).1;have h0:=hd.RN;refine⟨fun v=>(bD (gk (bI l wider conf) a) v).getD 0-(bD (gk (bI l wider conf) a) .right).getD 0,(sa (by show(bD (gk (bI l wider conf) a) .right).getD 0-(bD (gk (bI l wider conf) a) .right).getD 0=0;omega)).2 (KY M0 _),?_⟩;simp only at h0 ⊢;rw[h0];unfold lC;simp only[Option.getD_some];omega
 obtain⟨t,ht,he⟩:=key hq hp;obtain⟨u,hu,Rb⟩:=key hp hq;exact⟨⟨t,ht,he⟩,u,hu,by show _ = -(lC _ _);rw[<- Rb];omega⟩
def qZ(bs:List au):Nat:=(bs.map fun b=>dF b.ar+1).sum
def RC(l:aN)(i n:Nat):Nat:=1+n+qZ (l.an.take i)
theorem th(b:au)(r:List au):qZ (b::r)=dF b.ar+1+qZ r:=by
 unfold qZ;rw[List.map_cons,List.sum_cons]
theorem rM(i:Nat)(b:au):(wL i b).length=dF b.ar+1:=by
 unfold wL;rw[List.length_map,List.length_range]
theorem zQ:∀ (bs:List au) (i:Nat),(jk i bs).length=qZ bs
 | [],_=>rfl
 | b::r,i=>by
  rw[jk,List.length_append,rM,zQ r,th]
theorem B1:∀ {bs:List au} {i0 i:Nat} {b:au} {n:Nat},bs[i]?=some b->n<=dF b.ar->(jk i0 bs)[n+qZ (bs.take i)]?=some ⟨(i0+i:Nat),n⟩
 | [],_,i,b,n,h,_=>by simp at h
 | c::r,i0,0,b,n,h,hn=>by
  rw[List.getElem?_cons_zero]at h;cases h;rw[jk,List.take_zero];show(wL i0 c++jk (i0+1) r)[n+0]?=_;rw[Nat.add_zero,List.getElem?_append_left (by rw[rM];omega)];unfold wL;rw[List.getElem?_map,List.getElem?_range (by omega)];rfl
 | c::r,i0,i+1,b,n,h,hn=>by
  rw[List.getElem?_cons_succ]at h;rw[jk,List.take_succ_cons,th,List.getElem?_append_right (by rw[rM];omega),rM,show n+(dF c.ar+1+qZ (r.take i))-(dF c.ar+1)=n+qZ (r.take i) by omega,B1 (i0:=i0+1) h hn,show i0+1+i=i0+(i+1) by omega]
theorem Nu{l:aN}{i:Nat}{b:au}{n:Nat}(h:l.an[i]?=some b)(hn:n<=dF b.ar):(eB l)[RC l i n]?=some ⟨i,n⟩:=by
 unfold eB RC;rw[show 1+n+qZ (l.an.take i)=(n+qZ (l.an.take i))+1 by omega,List.getElem?_cons_succ,B1 (i0:=0) h hn,Nat.zero_add]
structure Ii(b:au):Prop where
 off : -720<=b.off.lo/\b.off.lo<=b.off.hi/\b.off.hi<=720
 set : -720<=b.set.lo/\b.set.lo<=b.set.hi/\b.set.hi<=720
 ar:b.ar.length<=8
 fV:∀ x∈b.ar,(0<=x.shown/\x.shown<=20000)/\(1<=x.kind/\x.kind<=3)/\(0<=x.number/\x.number<=99)
structure qh(l:aN):Prop where
 near:0<=l.near/\l.near<=60
 an:1<=l.an.length/\l.an.length<=3
 book:∀ b∈l.an,Ii b
theorem N9{wider:Int}{p:cz}{s:Span}{e:cv}(he:e∈ek wider p s)(hs : -720<=s.lo/\s.lo<=s.hi/\s.hi<=720)(hw:0<=wider/\wider<=1048576) : -1100000<=e.w/\e.w<=1100000:=by
 unfold ek at he;simp only[List.mem_cons,List.not_mem_nil,or_false]at he;rcases he with rfl|rfl
 ·simp only;omega
 ·simp only;omega
theorem TF{l:aN}{wider:Int}{conf:List Int}(hR:qh l)(hw:0<=wider/\wider<=1048576){e:cv}(h:yk l wider conf e) : -1100000<=e.w/\e.w<=1100000:=by
 have sh:∀ {i k b x},At l i k b x->0<=x.shown/\x.shown<=20000:=fun {i k b x} hx=>((hR.book b (List.mem_of_getElem? hx.book)).fV x (List.mem_of_getElem? hx.fV)).1
 cases h with
 | off i b hb e he=>exact N9 he (hR.book b (List.mem_of_getElem? hb)).off hw
 | set i b hb n h1 h2 e he=>exact N9 he (hR.book b (List.mem_of_getElem? hb)).set hw
 | ord i k b x y hx hy=>
  have h1:=sh hx;have h2:=sh hy;show -1100000<=y.shown-x.shown/\y.shown-x.shown<=1100000;omega
 | rep i j m n b c x y num h=>
  have h1:=sh h.ha;have h2:=sh h.hb;show -1100000<=y.shown-x.shown/\y.shown-x.shown<=1100000;omega
theorem oL(b:au):dF b.ar<=b.ar.length:=by
 unfold dF;exact List.length_filter_le _ _
theorem Mg{l:aN}{wider:Int}{conf:List Int}{i:Nat}{b:au}{pers:List (List cz)}{k:Nat}{y:aZ}{s:Eb}:(xC l wider conf i b pers k y s).steps.length<=s.steps.length+3:=by
 have h1:∀ (st:List cv) (e:cv),(if k=0 then st else st ++ [e]).length<=st.length+1:=fun st e=>by split<;>simp
 unfold xC;simp only;have h2:=h1 s.steps ⟨((s.of ++ [s.now])[k-1]?).getD .right,s.now,y.shown-((b.ar[k-1]?).getD ⟨0,0,.empty,0⟩).shown⟩;generalize (if k=0 then s.steps else s.steps ++ [(⟨((s.of ++ [s.now])[k-1]?).getD .right,s.now,y.shown-((b.ar[k-1]?).getD ⟨0,0,.empty,0⟩).shown⟩:cv)])=st at h2 ⊢;split
 ·simp only[List.length_append,ek,List.length_cons,List.length_nil];omega
 ·split
  ·split
   ·simp only;omega
   ·split
    ·simp only;omega
    ·simp only[List.length_append,List.length_cons,List.length_nil];omega
  ·simp only;omega
theorem Br{l:aN}{wider:Int}{conf:List Int}{i:Nat}{b:au}{pers:List (List cz)}:∀ (r:List aZ) {k:Nat} {s:Eb},(mD l wider conf i b pers k r s).steps.length<=s.steps.length+3*r.length
 | [],k,s=>Nat.le_refl _
 | y::r,k,s=>by
  rw[mD,List.length_cons];have h1:=Br (l:=l) (wider:=wider) (conf:=conf) (i:=i) (b:=b) (pers:=pers) r (k:=k+1) (s:=xC l wider conf i b pers k y s);have h2:=Mg (l:=l) (wider:=wider) (conf:=conf) (i:=i) (b:=b) (pers:=pers) (k:=k) (y:=y) (s:=s);omega
theorem BU{l:aN}{wider:Int}{conf:List Int}:∀ (bs:List au) {i:Nat} {s:rL},(∀ b∈bs,b.ar.length<=8)->(mV l wider conf i bs s).steps.length<=s.steps.length+26*bs.length
 | [],i,s,_=>Nat.le_refl _
 | b::r,i,s,h=>by
  rw[mV,List.length_cons];have h1:=BU (l:=l) (wider:=wider) (conf:=conf) r (i:=i+1) (s:=qp l wider conf i b s) fun c hc=>h c (by simp[hc]);have h2:=Br (l:=l) (wider:=wider) (conf:=conf) (i:=i) (b:=b) (pers:=s.pers) b.ar (k:=0) (s:=⟨s.steps++ek wider ⟨i,0⟩ b.off,s.many+1,s.first,⟨i,0⟩,[],[]⟩);have h3:=h b (by simp);have h4:(qp l wider conf i b s).steps.length<=s.steps.length+2+3*b.ar.length:=by
   refine Nat.le_trans h2 ?_;simp[ek]
  omega
theorem Nn{l:aN}(hR:qh l)(wider:Int)(conf:List Int):(bI l wider conf).steps.length<=78:=by
 have:=BU (l:=l) (wider:=wider) (conf:=conf) l.an (i:=0) (s:=⟨[],0,[],[]⟩) fun b hb=>(hR.book b hb).ar;have h2:=hR.an;unfold bI;simp only[List.length_nil]at this;omega
def sM(m:PM)(B:Int):Prop:=∀ p v,bD m p=some v -> -B<=v/\v<=B
theorem Jn{m:PM×Bool}{s:cv}{B:Int}(h:sM m.1 B)(hs : -1100000<=s.w/\s.w<=1100000):sM (kx m s).1 (B+1100000):=by
 have up:sM m.1 (B+1100000):=fun p v hv=>by have:=h p v hv;omega
 unfold kx
 cases h1:bD m.1 s.a with
 | none=>exact up
 | some n=>
  have hn:=h s.a n h1;have A4:sM (cW m.1 s.b (n+s.w)) (B+1100000):=fun p v hv=>by
   rw[dL]at hv;split at hv
   ·cases hv;omega
   ·exact up p v hv
  simp only
  cases h2:bD m.1 s.b with
  | none=>exact A4
  | some x=>
   simp only;split
   ·exact A4
   ·exact up
def bQ(x:aZ):D:=if x.kind=1 then .ifc 214 (.agg [.str x.word]) else if x.kind=2 then .ifc 288 (.agg []) else if x.kind=3 then .ifc 228 (.agg [.str x.word,i64 x.number]) else .nili
theorem Bc(x:aZ):bq Tryz.prog 111 [x.d] (bQ x):=by
 refine aY Tryz.func111 rfl (ft:=Vb) 1 fun {σ} Y st=>?_;conv=>whnf
 unfold bQ;refine ag (fun h1=>?_) (fun h1=>?_)
 ·rw[if_pos (of_decide_eq_true h1)]
  conv=>whnf
  exact ai
 ·rw[if_neg (of_decide_eq_false h1)]
  conv=>whnf
  refine ag (fun h2=>?_) (fun h2=>?_)
  ·rw[if_pos (of_decide_eq_true h2)]
   conv=>whnf
   exact ai
  ·rw[if_neg (of_decide_eq_false h2)]
   conv=>whnf
   refine ag (fun h3=>?_) (fun h3=>?_)
   ·rw[if_pos (of_decide_eq_true h3)]
    conv=>whnf
    exact ai
   ·rw[if_neg (of_decide_eq_false h3)]
    conv=>whnf
    exact ai
def gi(n lo hi:Int):Bool:=!cF n lo hi
theorem zW(lo hi n:Int):bq Tryz.prog 109 [i64 lo,i64 hi,.vs [[i64 n]]] (.bool (gi n lo hi)):=bq.cast (Sj lo hi n) rfl
def sd(x:aZ):Int:=
 if gi x.shown 0 20000 then 7
 else if x.kind=1 then (if fm x.word&&decide (x.number=0) then 0 else 6)
 else if x.kind=2 then (if decide (x.word = .empty)&&decide (x.number=0) then 0 else 6)
 else if x.kind=3 then (if fm x.word && !gi x.number 1 99 then 0 else 6)
 else 4
theorem abR(x:aZ):bq Tryz.prog 167 [x.d] (i64 (sd x)):=by
 refine aY Tryz.func167 rfl (ft:=VK) 1 fun {σ} Y st=>?_;conv=>whnf
 refine aA (zW 0 20000 x.shown) rfl 1 rfl ?_;unfold sd
 cases h0:gi x.shown 0 20000 with
 | true=>
  conv=>whnf
  exact ai
 | false=>
  conv=>whnf
  refine af (Bc x) rfl rfl ?_;conv=>whnf
  have Xm:(x.word=(⟨#[]⟩:ByteArray))↔x.word = .empty:=Iff.rfl;by_cases h1:x.kind=1
  ·have ht:bQ x = .ifc 214 (.agg [.str x.word]):=by unfold bQ;rw[if_pos h1]
   rw[ht,if_pos h1];conv=>whnf
   refine af (O1 x.word) rfl rfl ?_;conv=>whnf
   cases hn:fm x.word with
   | false=>
    conv=>whnf
    exact ai
   | true=>
    conv=>whnf
    generalize decide (x.number=0)=B
    cases B with
    | false=>
     conv=>whnf
     exact ai
    | true=>
     conv=>whnf
     exact ai
  ·rw[if_neg h1]
   by_cases h2:x.kind=2
   ·have ht:bQ x = .ifc 288 (.agg []):=by unfold bQ;rw[if_neg h1,if_pos h2]
    rw[ht,if_pos h2];conv=>whnf
    have Dc:decide (x.word = .empty)=decide (x.word=(⟨#[]⟩:ByteArray)):=rfl;rw[Dc];generalize decide (x.word=(⟨#[]⟩:ByteArray))=A
    cases A with
    | false=>
     conv=>whnf
     exact ai
    | true=>
     conv=>whnf
     generalize decide (x.number=0)=B
     cases B with
     | false=>
      conv=>whnf
      exact ai
     | true=>
      conv=>whnf
      exact ai
   ·rw[if_neg h2]
    by_cases h3:x.kind=3
    ·have ht:bQ x = .ifc 228 (.agg [.str x.word,i64 x.number]):=by unfold bQ;rw[if_neg h1,if_neg h2,if_pos h3]
     rw[ht,if_pos h3];conv=>whnf
     refine af (O1 x.word) rfl rfl ?_;conv=>whnf
     cases hn:fm x.word with
     | false=>
      conv=>whnf
      exact ai
     | true=>
      conv=>whnf
      refine aA (zW 1 99 x.number) rfl 1 rfl ?_
      cases h4:gi x.number 1 99 with
      | false=>
       conv=>whnf
       exact ai
      | true=>
       conv=>whnf
       exact ai
    ·have ht:bQ x = .nili:=by unfold bQ;rw[if_neg h1,if_neg h2,if_neg h3]
     rw[ht,if_neg h3];conv=>whnf
     exact ai
theorem abQ(y x:au):bq Tryz.prog 166 [.agg y.cells,.ref x.cells] (.bool (decide (y.name=x.name))):=by
 refine aY Tryz.func166 rfl (ft:=VJ) 2 fun {σ} Y st=>?_;conv=>whnf
 exact ai
theorem XU(l:List au)(g:FuncId)(bc:List D)(p:au->Bool)(hl:l.length<4000000000000000000)(hp:∀ x∈l,bq Tryz.prog g (.agg x.cells::bc) (.bool (p x))) :
  bq Tryz.prog 202 [bF l,.clo g bc] (i64 (indexOf p l 0)):=by
 refine aY Tryz.func202 rfl (ft:=VU) 2 fun {σ} Y st=>?_;conv=>whnf
 refine bB (T:=tys) av (by exact aj mixed av (by decide +kernel)) l (fun i (_:Unit)=>⟨[(0,.d (bF l)),(1,.d (.clo g bc)),(7,.d (i64 l.length)),(8,.d (i64 i))],[],st⟩) (fun i r _=>indexOf p l 0=indexOf p r i) () aw rfl ?_ ?_
 ·intro i x r _ hx hi hr he
  rw[indexOf]at he;conv=>whnf
  refine ag (fun _=>?_) (fun h=>absurd hi (by simpa using h));conv=>whnf
  refine aG hx ?_;conv=>whnf
  refine af (hp x (List.mem_of_getElem? hx)) rfl rfl ?_;conv=>whnf
  refine ag (fun h1=>?_) (fun h1=>?_)
  ·conv=>whnf
   rw[he,if_pos h1];exact ai
  ·rw[if_neg (by simp[h1])]at he
   conv=>whnf
   refine ae ?_;conv=>whnf
   exact⟨(),he,aw⟩
 ·intro _ he
  conv=>whnf
  refine ag (fun h=>absurd h (by simp)) (fun _=>?_);conv=>whnf
  rw[he];exact ai
theorem abP(l:List au)(g:FuncId)(bc:List D)(p:au->Bool)(hl:l.length<4000000000000000000)(hp:∀ x∈l,bq Tryz.prog g (.agg x.cells::bc) (.bool (p x))) :
  bq Tryz.prog 165 [bF l,.clo g bc] (.bool (l.any p)):=by
 refine aY Tryz.func165 rfl (ft:=VI) 2 fun {σ} Y st=>?_;conv=>whnf
 refine af (XU l g bc p hl hp) rfl rfl ?_;conv=>whnf
 refine aO 0 rfl ⟨⟨?_,rfl⟩,rfl⟩;rw[<- ig p l 0 (by omega)];rfl
def qF(pre:List au)(b:au):Int:=
 if fm b.name then
  if pre.any (fun x=>decide (x.name=b.name)) then 5
  else if gi b.off.lo (-720) 720||gi b.off.hi (-720) 720||gi b.set.lo (-720) 720||gi b.set.hi (-720) 720 then 7
  else if decide (b.off.lo>b.off.hi)||decide (b.set.lo>b.set.hi) then 2
  else if b.ar.length>8 then 3 else 0
 else 6
def lG:List aZ->Nat->Int×Int
 | [],_=>(0,0)
 | y::r,k=>if sd y=0 then lG r (k+1) else (k,sd y)
def iO:List au->List au->Nat->Int×Int×Int
 | _,[],_=>(0,0,0)
 | pre,b::r,i=>if qF pre b=0 then (if (lG b.ar 0).2=0 then iO (pre ++ [b]) r (i+1) else ((i+1:Nat),(lG b.ar 0).1,(lG b.ar 0).2)) else ((i+1:Nat),0,qF pre b)
def gf(l:aN):Int×Int×Int:=
 if gi l.near 0 60 then (0,0,7) else if gi l.an.length 1 3 then (0,0,3) else iO [] l.an 0
def Yw(x:Int×Int×Int):D:=.tup [i64 x.1,i64 x.2.1,i64 x.2.2]
theorem XS(lo hi a b c d:Int):bq Tryz.prog 109 [i64 lo,i64 hi,.vs [[i64 a],[i64 b],[i64 c],[i64 d]]] (.bool (gi a lo hi||gi b lo hi||gi c lo hi||gi d lo hi)):=bq.cast (U2 lo hi [a,b,c,d] (by simp)) (by simp[gi,cF,Bool.or_assoc,Int.not_le];grind)
theorem abE(l:aN):bq Tryz.prog 106 [l.d] (Yw (gf l)):=by
 refine aY Tryz.func106 rfl (ft:=U7) 1 fun {σ} Y st=>?_;conv=>whnf
 unfold gf;refine aA (zW 0 60 _) rfl 1 rfl ?_
 cases h0:gi l.near 0 60 with
 | true=>
  conv=>whnf
  exact ai
 | false=>
  conv=>whnf
  refine aA (zW 1 3 l.an.length) rfl 1 (by
   show some _=some _;simp[bF]) ?_
  conv=>whnf
  cases h1:gi l.an.length 1 3 with
  | true=>
   conv=>whnf
   exact ai
  | false=>
   have hlen:l.an.length<=3:=by
    have h1:=h1;unfold gi cF at h1;simp at h1;omega
   simp only[if_false,Bool.false_eq_true];conv=>whnf
   generalize hK:iO [] l.an 0=K;refine bB (T:=tys) av (by exact aj mixed av (by decide +kernel)) l.an (fun i (_:Unit)=>⟨[(1,.ptr 1 0),(21,.d (bF l.an)),(22,.d (i64 l.an.length)),(23,.d (i64 i))],[(1,.box (.dd l.cells))],st⟩)
    (fun i r _=>iO (l.an.take i) r i=K) () aw hK ?_ ?_
   ·rintro i b r _ hx hi hr he
    rw[iO]at he;have Gy:l.an.take (i+1)=l.an.take i ++ [b]:=by rw[List.take_succ,hx];rfl
    conv=>whnf
    refine ag (fun _=>?_) (fun h=>absurd hi (by simpa using h));conv=>whnf
    refine aG hx ?_;conv=>whnf
    refine af (O1 b.name) rfl rfl ?_;unfold qF at he
    cases h2:fm b.name with
    | false=>
     rw[h2]at he;simp only[if_false,Bool.false_eq_true]at he;conv=>whnf
     refine ae ?_;conv=>whnf
     rw[<- he];exact ai
    | true=>
     rw[h2]at he;simp only[if_true]at he;conv=>whnf
     refine aM (by simp;omega) ?_;conv=>whnf
     refine aM (by cases l.an<;>rfl) ?_;conv=>whnf
     refine aA (ds:=[bF (l.an.take i),.clo 166 [.ref b.cells]]) (abP (l.an.take i) 166 [.ref b.cells] (fun y=>decide (y.name=b.name)) (by simp;omega) fun y _=>abQ y b) rfl 1 (by show some _=some _;simp[bF,List.map_take];rfl) ?_;generalize SC:((l.an.take i).any fun y=>decide (y.name=b.name))=A at he ⊢
     cases A with
     | true=>
      simp only[if_true]at he;conv=>whnf
      refine ae ?_;conv=>whnf
      rw[<- he];exact ai
     | false=>
      simp only[if_false,Bool.false_eq_true]at he;conv=>whnf
      refine aA (XS (-720) 720 b.off.lo b.off.hi b.set.lo b.set.hi) rfl 1 rfl ?_;generalize (gi b.off.lo (-720) 720||gi b.off.hi (-720) 720||gi b.set.lo (-720) 720||gi b.set.hi (-720) 720)=A at he ⊢
      cases A with
      | true=>
       simp only[if_true]at he;conv=>whnf
       refine ae ?_;conv=>whnf
       rw[<- he];exact ai
      | false=>
       simp only[if_false,Bool.false_eq_true]at he;conv=>whnf
       have e1:decide (b.off.lo>b.off.hi)=decide (b.off.hi<b.off.lo):=rfl;have e2:decide (b.set.lo>b.set.hi)=decide (b.set.hi<b.set.lo):=rfl;rw[e1,e2]at he;generalize decide (b.off.hi<b.off.lo)=A at he ⊢
       cases A with
       | true=>
        simp only[Bool.true_or,if_true]at he;conv=>whnf
        refine ae ?_;conv=>whnf
        rw[<- he];exact ai
       | false=>
        simp only[Bool.false_or]at he;conv=>whnf
        generalize decide (b.set.hi<b.set.lo)=B at he ⊢
        cases B with
        | true=>
         simp only[if_true]at he;conv=>whnf
         refine ae ?_;conv=>whnf
         rw[<- he];exact ai
        | false=>
         simp only[if_false,Bool.false_eq_true]at he;conv=>whnf
         refine ag (fun h3=>?_) (fun h3=>?_)
         ·have h3:b.ar.length>8:=by have:=of_decide_eq_true h3;simp at this;omega
          rw[if_pos h3]at he;conv=>whnf
          refine ae ?_;conv=>whnf
          rw[<- he];exact ai
         ·have h3:¬ b.ar.length>8:=by have:=of_decide_eq_false h3;simp at this;omega
          rw[if_neg h3,if_pos rfl]at he;conv=>whnf
          generalize hE:lG b.ar 0=E at he;refine bB (T:=tys) av (by exact aj mixed av (by decide +kernel)) b.ar (fun k (_:Unit)=>⟨[(1,.ptr 1 0),(21,.d (bF l.an)),(22,.d (i64 l.an.length)),(23,.d (i64 i)),(5,.d (i64 i)),(88,.d (lF b.ar)),(89,.d (i64 b.ar.length)),(90,.d (i64 k))],[(1,.box (.dd l.cells))],st⟩)
           (fun k r _=>lG r k=E) () aw hE ?_ ?_
          ·rintro k y r2 _ hy hk D7 nt
           rw[lG]at nt;conv=>whnf
           refine ag (fun _=>?_) (fun h=>absurd hk (by simpa using h));conv=>whnf
           refine aG hy ?_;conv=>whnf
           refine af (abR y) rfl rfl ?_;conv=>whnf
           refine ag (fun h4=>?_) (fun h4=>?_)
           ·have h4:¬ sd y=0:=by simpa using h4
            rw[if_neg h4]at nt;subst nt;rw[if_neg h4]at he;conv=>whnf
            refine ae ?_;conv=>whnf
            rw[<- he];exact ai
           ·have h4:sd y=0:=by simpa using h4
            rw[if_pos h4]at nt;conv=>whnf
            refine ae ?_;conv=>whnf
            exact⟨(),nt,aw⟩
          ·rintro _ nt
           have nt:((0,0):Int×Int)=E:=nt;subst nt;rw[if_pos rfl,<- Gy]at he;conv=>whnf
           refine ag (fun h=>absurd h (by simp)) (fun _=>?_);conv=>whnf
           refine ae ?_;conv=>whnf
           exact⟨(),he,aw⟩
   ·rintro _ he
    rw[iO]at he;subst he;conv=>whnf
    refine ag (fun h=>absurd h (by simp)) (fun _=>?_);conv=>whnf
    exact ai
section
variable {κ ν : Type} [DecidableEq κ] (kd : κ -> D) (vd : ν -> D)
def eZ(m:List (κ×ν)):List (D×D):=m.map fun p=>(kd p.1,vd p.2)
variable {kd vd}
theorem aQ(hs:∀ a b,fC (kd a) (kd b)=some (decide (a=b))){t:κ}:∀ {m:List (κ×ν)},bD m t=none -> ∀ n,findD (kd t) (eZ kd vd m) n=some none
 | [],_,n=>rfl
 | (u,x)::r,h,n=>by
  rw[bD]at h;split at h
  ·cases h
  ·rename_i hu
   show(match fC (kd t) (kd u) with
    | some true=>some (some (n,vd x))
    | some false=>findD (kd t) (eZ kd vd r) (n+1)
    | none=>none)=_
   rw[hs,decide_eq_false hu];exact aQ hs h (n+1)
theorem bf(hs:∀ a b,fC (kd a) (kd b)=some (decide (a=b))){t:κ}{v:ν}:∀ {m:List (κ×ν)},bD m t=some v -> ∀ n,∃ i,i<m.length/\findD (kd t) (eZ kd vd m) n=some (some (n+i,vd v))/\(∀ y,(eZ kd vd m).set i (kd t,vd y)=eZ kd vd (cW m t y))/\cK (eZ kd vd m) i (kd t)=eZ kd vd m /\ ∀ y,cL (eZ kd vd m) i (vd y)=eZ kd vd (cW m t y)
 | [],h,n=>by cases h
 | (u,x)::r,h,n=>by
  rw[bD]at h;split at h
  ·rename_i hu
   cases h;subst hu;refine⟨0,by simp,?_,fun y=>?_,rfl,fun y=>?_⟩
   ·show(match fC (kd t) (kd t) with
     | some true=>some (some (n,vd v))
     | some false=>findD (kd t) (eZ kd vd r) (n+1)
     | none=>none)=_
    rw[hs,decide_eq_true rfl];rfl
   ·rw[cW,if_pos rfl];rfl
   ·rw[cW,if_pos rfl];rfl
  ·rename_i hu
   obtain⟨i,h0,h1,h2,h3,h4⟩:=bf hs h (n+1);refine⟨i+1,by simp;omega,?_,fun y=>?_,?_,fun y=>?_⟩
   ·show(match fC (kd t) (kd u) with
     | some true=>some (some (n,vd x))
     | some false=>findD (kd t) (eZ kd vd r) (n+1)
     | none=>none)=_
    rw[hs,decide_eq_false hu];show findD (kd t) (eZ kd vd r) (n+1)=_;rw[h1,show n+1+i=n+(i+1) by omega]
   ·rw[cW,if_neg hu]
    show(kd u,vd x)::(eZ kd vd r).set i (kd t,vd y)=(kd u,vd x)::eZ kd vd (cW r t y);rw[h2 y]
   ·show(kd u,vd x)::cK (eZ kd vd r) i (kd t)=_
    rw[h3];rfl
   ·rw[cW,if_neg hu]
    show(kd u,vd x)::cL (eZ kd vd r) i (vd y)=(kd u,vd x)::eZ kd vd (cW r t y);rw[h4 y]
theorem cG{t:κ}(y:ν):∀ {m:List (κ×ν)},bD m t=none->eZ kd vd m ++ [(kd t,vd y)]=eZ kd vd (cW m t y)
 | [],_=>rfl
 | (u,x)::r,h=>by
  rw[bD]at h;split at h
  ·cases h
  ·rename_i hu
   rw[cW,if_neg hu];show(kd u,vd x)::(eZ kd vd r ++ [(kd t,vd y)])=_;rw[cG y h];rfl
end
def aD(n:Int):D:=i64 n
theorem eb(a b:cz):fC a.d b.d=some (decide (a=b)):=by
 show some (decide (a.book=b.book)&&(decide (a.n=b.n)&&true))=_
 congr 1
 cases a;cases b
 simp
theorem aP(a b:Int):fC (aD a) (aD b)=some (decide (a=b)):=rfl
def NR(m:PM):List (D×D):=eZ cz.d aD m
def DI(l:List cv):D:=.vs (l.map RO)
def Yi(l:List (List cz)):D:=.vs (l.map fun r=>[.vs (r.map cz.cells)])
def XO(l:aN)(x:rL):List D:=[i64 l.near,bF l.an,DI x.steps,Yi x.pers,i64 x.many]
def eO(l:aN)(x:rL):D:=.ref (XO l x)
theorem Dx:bq Tryz.prog 69 [] cz.right.d:=by
 refine aY Tryz.func69 rfl (ft:=Z3) 0 fun {σ} Y st=>?_;conv=>whnf
 exact ai
structure wF(x:rL):Prop where
 len:x.steps.length<=78
 w:∀ e∈x.steps,-1100000<=e.w/\e.w<=1100000
 many:0<=x.many/\x.many<=30
theorem Qh(l:aN)(x:rL)(hR:wF x)(p:cz):bq Tryz.prog 108 [eO l x,p.d] (.tup [if uh x (gk x p)=true then .mv (NR (gk x p)) else .nilm,.bool (uh x (gk x p))]):=by
 refine aY Tryz.func108 rfl (ft:=U8) 2 fun {σ} Y st=>?_;conv=>whnf
 have hlen:=hR.len;have acb:=hR.many;have ja:x.steps.length<4000000000000000000:=by omega
 refine⟨none,rfl,?_⟩;conv=>whnf
 refine ao (((x.many+2).toNat:Nat):Int) (by omega) (wrap_i64 (by omega)) ?_;conv=>whnf
 unfold gk;have hK:(x.many+2).toNat<=32:=by omega
 generalize (x.many+2).toNat=N at hK ⊢;generalize hRES:jW x.steps N [(p,0)]=Ot;refine cD (T:=tys) av (by exact aj mixed av (by decide +kernel)) (α:=Nat×PM) (fun z=>⟨[(0,.d (eO l x)),(6,.mp 16),(23,.d (i64 N)),(24,.d (i64 z.1))],[(16,.map (NR z.2))],st⟩)
  (fun z=>z.1<=N/\sM z.2 (100000000*z.1)/\jW x.steps (N-z.1) z.2=Ot) (fun z=>N-z.1) (0,[(p,0)]) aw ⟨Nat.zero_le _,?_,by simpa using hRES⟩ ?_
 ·intro q v hv
  simp only at hv;rw[bD]at hv;split at hv
  ·cases hv;simp
  ·cases hv
 rintro ⟨i,m⟩ ⟨hi,hb,hr⟩;simp only at hi hb hr;conv=>whnf
 refine ag (fun h1=>?_) (fun h1=>?_)
 ·have h1:i<N:=by have:=of_decide_eq_true h1;simp only at this;omega
  obtain⟨f,hf⟩:∃ f,N-i=f+1:=⟨N-i-1,by omega⟩;rw[hf,jW]at hr;generalize hRM:tB x.steps m=RM at hr;conv=>whnf
  refine bB (T:=tys) av (by exact aj mixed av (by decide +kernel)) x.steps (fun k (y:PM×Bool)=>⟨[(0,.d (eO l x)),(6,.mp 16),(7,.d (.bool y.2)),(23,.d (i64 N)),(24,.d (i64 i)),(29,.d (DI x.steps)),(30,.d (i64 x.steps.length)),(31,.d (i64 k))],[(16,.map (NR y.1))],st⟩)
   (fun k r y=>r.foldl kx y=RM/\sM y.1 (100000000*i+1100000*k)) (m,false) aw ⟨hRM,by simpa using hb⟩ ?_ ?_
  ·rintro k s r ⟨m1,ch⟩ hs hk D7 ⟨nF,Uq⟩
   have hsw:=hR.w s (List.mem_of_getElem? hs);have nr:=Jn (m:=(m1,ch)) Uq hsw;rw[List.foldl_cons]at nF;conv=>whnf
   refine ag (fun _=>?_) (fun h=>absurd hk (by simpa using h));conv=>whnf
   refine aG hs ?_;conv=>whnf
   cases h2:bD m1 s.a with
   | none=>
    have ht:kx (m1,ch) s=(m1,ch):=by unfold kx;simp only[h2]
    rw[ht]at nF nr;refine⟨none,aQ (kd:=cz.d) eb h2 0,?_⟩;conv=>whnf
    refine ae ?_;conv=>whnf
    exact⟨(m1,ch),⟨nF,fun q v hv=>by have:=nr q v hv;omega⟩,aw⟩
   | some n=>
    have hn:=Uq s.a n h2;obtain⟨ix,_,qN,_⟩:=bf (kd:=cz.d) (vd:=aD) eb h2 0;refine⟨_,qN,?_⟩;conv=>whnf
    cases h3:bD m1 s.b with
    | none=>
     have ht:kx (m1,ch) s=(cW m1 s.b (n+s.w),true):=by unfold kx;simp only[h2,h3]
     refine⟨none,aQ (kd:=cz.d) eb h3 0,?_⟩;conv=>whnf
     refine ae ?_;conv=>whnf
     refine⟨none,aQ (kd:=cz.d) eb h3 0,?_⟩;rw[ht]at nF nr;conv=>whnf
     refine ae ?_;conv=>whnf
     refine⟨(cW m1 s.b (n+s.w),true),⟨nF,fun q v hv=>by have:=nr q v hv;omega⟩,Wk.sub ⟨rfl,rfl,rfl,rfl,rfl,rfl,rfl,rfl,trivial⟩ ⟨?_,trivial⟩⟩;exact congrArg (fun z=>some (Obj.map z)) (cG (kd:=cz.d) (vd:=aD) (n+s.w) h3)
    | some v2=>
     obtain⟨iy,_,rU,Xq,_⟩:=bf (kd:=cz.d) (vd:=aD) eb h3 0;refine⟨_,rU,?_⟩;conv=>whnf
     refine ae ?_;conv=>whnf
     refine ag (fun h4=>?_) (fun h4=>?_)
     ·have h4:n+s.w<v2:=of_decide_eq_true h4
      have ht:kx (m1,ch) s=(cW m1 s.b (n+s.w),true):=by unfold kx;simp only[h2,h3];rw[if_pos h4]
      conv=>whnf
      refine ae ?_;conv=>whnf
      refine⟨_,rU,?_⟩;rw[ht]at nF nr;conv=>whnf
      refine ae ?_;conv=>whnf
      refine⟨(cW m1 s.b (n+s.w),true),⟨nF,fun q v hv=>by have:=nr q v hv;omega⟩,Wk.sub ⟨rfl,rfl,rfl,rfl,rfl,rfl,rfl,rfl,trivial⟩ ⟨?_,trivial⟩⟩
      (show some (Obj.map ((NR m1).set (0+iy) (s.b.d,i64 (n+s.w))))=_);rw[Nat.zero_add];exact congrArg (fun z=>some (Obj.map z)) (Xq (n+s.w))
     ·have h4:¬ n+s.w<v2:=of_decide_eq_false h4
      have ht:kx (m1,ch) s=(m1,ch):=by unfold kx;simp only[h2,h3];rw[if_neg h4]
      rw[ht]at nF nr;conv=>whnf
      refine ae ?_;conv=>whnf
      exact⟨(m1,ch),⟨nF,fun q v hv=>by have:=nr q v hv;omega⟩,aw⟩
  ·rintro ⟨m1,ch⟩ ⟨nF,Uq⟩
   have nF:(m1,ch)=RM:=nF;conv=>whnf
   refine ag (fun h=>absurd h (by simp)) (fun _=>?_);conv=>whnf
   refine ag (fun h2=>?_) (fun h2=>?_)
   ·have h2:ch=false:=by simpa using h2
    subst h2;rw[<- nF]at hr;simp only[if_false,Bool.false_eq_true]at hr;subst hr;have Wi:sM m1 10000000000:=fun q v hv=>by have:=Uq q v hv;omega
    clear Uq;conv=>whnf
    refine bB (T:=tys) av (by exact aj mixed av (by decide +kernel)) x.steps (fun k (_:Unit)=>⟨[(0,.d (eO l x)),(6,.mp 16),(75,.d (DI x.steps)),(76,.d (i64 x.steps.length)),(77,.d (i64 k))],[(16,.map (NR m1))],st⟩)
     (fun k r _=>uh x m1=r.all fun s=>decide (lC m1 s.b<=lC m1 s.a+s.w)) () aw rfl ?_ ?_
    ·rintro k s r _ hs hk D7 cR
     have hsw:=hR.w s (List.mem_of_getElem? hs);rw[List.all_cons]at cR;conv=>whnf
     refine ag (fun _=>?_) (fun h=>absurd hk (by simpa using h));conv=>whnf
     refine aG hs ?_;conv=>whnf
     have MD:=Wi s.a;have hbb:=Wi s.b
     cases h2:bD m1 s.a with
     | none=>
      have e1:lC m1 s.a=0:=by unfold lC;rw[h2];rfl
      rw[e1]at cR;refine⟨none,aQ (kd:=cz.d) eb h2 0,?_⟩;conv=>whnf
      refine ae ?_;conv=>whnf
      cases h3:bD m1 s.b with
      | none=>
       have e2:lC m1 s.b=0:=by unfold lC;rw[h3];rfl
       rw[e2]at cR;refine⟨none,aQ (kd:=cz.d) eb h3 0,?_⟩;conv=>whnf
       refine ag (fun h4=>?_) (fun h4=>?_)
       ·have h4:0+s.w<0:=of_decide_eq_true h4
        rw[decide_eq_false (by omega),Bool.false_and]at cR;rw[cR];simp only[if_false,Bool.false_eq_true];conv=>whnf
        exact ai
       ·have h4:¬ 0+s.w<0:=of_decide_eq_false h4
        rw[decide_eq_true (by omega),Bool.true_and]at cR;conv=>whnf
        refine ae ?_;conv=>whnf
        exact⟨(),cR,aw⟩
      | some v2=>
       have e2:lC m1 s.b=v2:=by unfold lC;rw[h3];rfl
       rw[e2]at cR;obtain⟨iy,_,rU,_⟩:=bf (kd:=cz.d) (vd:=aD) eb h3 0;refine⟨_,rU,?_⟩;conv=>whnf
       refine ag (fun h4=>?_) (fun h4=>?_)
       ·have h4:0+s.w<v2:=of_decide_eq_true h4
        rw[decide_eq_false (by omega),Bool.false_and]at cR;rw[cR];simp only[if_false,Bool.false_eq_true];conv=>whnf
        exact ai
       ·have h4:¬ 0+s.w<v2:=of_decide_eq_false h4
        rw[decide_eq_true (by omega),Bool.true_and]at cR;conv=>whnf
        refine ae ?_;conv=>whnf
        exact⟨(),cR,aw⟩
     | some n=>
      have hn:=MD n h2;have e1:lC m1 s.a=n:=by unfold lC;rw[h2];rfl
      rw[e1]at cR;obtain⟨ix,_,qN,_⟩:=bf (kd:=cz.d) (vd:=aD) eb h2 0;refine⟨_,qN,?_⟩;conv=>whnf
      refine ae ?_;conv=>whnf
      cases h3:bD m1 s.b with
      | none=>
       have e2:lC m1 s.b=0:=by unfold lC;rw[h3];rfl
       rw[e2]at cR;refine⟨none,aQ (kd:=cz.d) eb h3 0,?_⟩;conv=>whnf
       refine ag (fun h4=>?_) (fun h4=>?_)
       ·have h4:n+s.w<0:=of_decide_eq_true h4
        rw[decide_eq_false (by omega),Bool.false_and]at cR;rw[cR];simp only[if_false,Bool.false_eq_true];conv=>whnf
        exact ai
       ·have h4:¬ n+s.w<0:=of_decide_eq_false h4
        rw[decide_eq_true (by omega),Bool.true_and]at cR;conv=>whnf
        refine ae ?_;conv=>whnf
        exact⟨(),cR,aw⟩
      | some v2=>
       have e2:lC m1 s.b=v2:=by unfold lC;rw[h3];rfl
       rw[e2]at cR;obtain⟨iy,_,rU,_⟩:=bf (kd:=cz.d) (vd:=aD) eb h3 0;refine⟨_,rU,?_⟩;conv=>whnf
       refine ag (fun h4=>?_) (fun h4=>?_)
       ·have h4:n+s.w<v2:=of_decide_eq_true h4
        rw[decide_eq_false (by omega),Bool.false_and]at cR;rw[cR];simp only[if_false,Bool.false_eq_true];conv=>whnf
        exact ai
       ·have h4:¬ n+s.w<v2:=of_decide_eq_false h4
        rw[decide_eq_true (by omega),Bool.true_and]at cR;conv=>whnf
        refine ae ?_;conv=>whnf
        exact⟨(),cR,aw⟩
    ·rintro _ cR
     have cR:uh x m1=true:=cR;rw[cR];simp only[if_true];conv=>whnf
     refine ag (fun h=>absurd h (by simp)) (fun _=>?_);conv=>whnf
     refine aO 1 (ds:=[.mv (NR m1),.bool true]) (aC (vh rfl) rfl) ⟨⟨rfl,rfl⟩,rfl⟩
   ·have h2:ch=true:=by simpa using h2
    subst h2;rw[<- nF]at hr;simp only[if_true]at hr;conv=>whnf
    refine ae ?_;conv=>whnf
    exact⟨(i+1,m1),by simp only;omega,⟨by simp only;omega,fun q v hv=>by have:=Uq q v hv;simp only;omega,by simp only;rw[show N-(i+1)=f by omega];exact hr⟩,aw⟩
 ·have h1:¬ i<N:=by have:=of_decide_eq_false h1;simp only at this;omega
  have hm:m=Ot:=by rw[show N-i=0 by omega,jW]at hr;exact hr
  subst hm;have Wi:sM m 10000000000:=fun q v hv=>by have:=hb q v hv;omega
  clear hb;conv=>whnf
  refine bB (T:=tys) av (by exact aj mixed av (by decide +kernel)) x.steps (fun k (_:Unit)=>⟨[(0,.d (eO l x)),(6,.mp 16),(75,.d (DI x.steps)),(76,.d (i64 x.steps.length)),(77,.d (i64 k))],[(16,.map (NR m))],st⟩)
   (fun k r _=>uh x m=r.all fun s=>decide (lC m s.b<=lC m s.a+s.w)) () aw rfl ?_ ?_
  ·rintro k s r _ hs hk D7 cR
   have hsw:=hR.w s (List.mem_of_getElem? hs);rw[List.all_cons]at cR;conv=>whnf
   refine ag (fun _=>?_) (fun h=>absurd hk (by simpa using h));conv=>whnf
   refine aG hs ?_;conv=>whnf
   have MD:=Wi s.a;have hbb:=Wi s.b
   cases h2:bD m s.a with
   | none=>
    have e1:lC m s.a=0:=by unfold lC;rw[h2];rfl
    rw[e1]at cR;refine⟨none,aQ (kd:=cz.d) eb h2 0,?_⟩;conv=>whnf
    refine ae ?_;conv=>whnf
    cases h3:bD m s.b with
    | none=>
     have e2:lC m s.b=0:=by unfold lC;rw[h3];rfl
     rw[e2]at cR;refine⟨none,aQ (kd:=cz.d) eb h3 0,?_⟩;conv=>whnf
     refine ag (fun h4=>?_) (fun h4=>?_)
     ·have h4:0+s.w<0:=of_decide_eq_true h4
      rw[decide_eq_false (by omega),Bool.false_and]at cR;rw[cR];simp only[if_false,Bool.false_eq_true];conv=>whnf
      exact ai
     ·have h4:¬ 0+s.w<0:=of_decide_eq_false h4
      rw[decide_eq_true (by omega),Bool.true_and]at cR;conv=>whnf
      refine ae ?_;conv=>whnf
      exact⟨(),cR,aw⟩
    | some v2=>
     have e2:lC m s.b=v2:=by unfold lC;rw[h3];rfl
     rw[e2]at cR;obtain⟨iy,_,rU,_⟩:=bf (kd:=cz.d) (vd:=aD) eb h3 0;refine⟨_,rU,?_⟩;conv=>whnf
     refine ag (fun h4=>?_) (fun h4=>?_)
     ·have h4:0+s.w<v2:=of_decide_eq_true h4
      rw[decide_eq_false (by omega),Bool.false_and]at cR;rw[cR];simp only[if_false,Bool.false_eq_true];conv=>whnf
      exact ai
     ·have h4:¬ 0+s.w<v2:=of_decide_eq_false h4
      rw[decide_eq_true (by omega),Bool.true_and]at cR;conv=>whnf
      refine ae ?_;conv=>whnf
      exact⟨(),cR,aw⟩
   | some n=>
    have hn:=MD n h2;have e1:lC m s.a=n:=by unfold lC;rw[h2];rfl
    rw[e1]at cR;obtain⟨ix,_,qN,_⟩:=bf (kd:=cz.d) (vd:=aD) eb h2 0;refine⟨_,qN,?_⟩;conv=>whnf
    refine ae ?_;conv=>whnf
    cases h3:bD m s.b with
    | none=>
     have e2:lC m s.b=0:=by unfold lC;rw[h3];rfl
     rw[e2]at cR;refine⟨none,aQ (kd:=cz.d) eb h3 0,?_⟩;conv=>whnf
     refine ag (fun h4=>?_) (fun h4=>?_)
     ·have h4:n+s.w<0:=of_decide_eq_true h4
      rw[decide_eq_false (by omega),Bool.false_and]at cR;rw[cR];simp only[if_false,Bool.false_eq_true];conv=>whnf
      exact ai
     ·have h4:¬ n+s.w<0:=of_decide_eq_false h4
      rw[decide_eq_true (by omega),Bool.true_and]at cR;conv=>whnf
      refine ae ?_;conv=>whnf
      exact⟨(),cR,aw⟩
    | some v2=>
     have e2:lC m s.b=v2:=by unfold lC;rw[h3];rfl
     rw[e2]at cR;obtain⟨iy,_,rU,_⟩:=bf (kd:=cz.d) (vd:=aD) eb h3 0;refine⟨_,rU,?_⟩;conv=>whnf
     refine ag (fun h4=>?_) (fun h4=>?_)
     ·have h4:n+s.w<v2:=of_decide_eq_true h4
      rw[decide_eq_false (by omega),Bool.false_and]at cR;rw[cR];simp only[if_false,Bool.false_eq_true];conv=>whnf
      exact ai
     ·have h4:¬ n+s.w<v2:=of_decide_eq_false h4
      rw[decide_eq_true (by omega),Bool.true_and]at cR;conv=>whnf
      refine ae ?_;conv=>whnf
      exact⟨(),cR,aw⟩
  ·rintro _ cR
   have cR:uh x m=true:=cR;rw[cR];simp only[if_true];conv=>whnf
   refine ag (fun h=>absurd h (by simp)) (fun _=>?_);conv=>whnf
   refine aO 1 (ds:=[.mv (NR m),.bool true]) (aC (vh rfl) rfl) ⟨⟨rfl,rfl⟩,rfl⟩
theorem EG{x:rL}(hR:wF x):∀ (l:List cv) {y:PM×Bool} {B:Int},(∀ e∈l,e∈x.steps)->sM y.1 B->sM (l.foldl kx y).1 (B+1100000*l.length)
 | [],y,B,_,h=>by simpa using h
 | s::r,y,B,hl,h=>by
  rw[List.foldl_cons];have:=EG hR r (fun e he=>hl e (by simp[he])) (Jn h (hR.w s (hl s (by simp))));intro p v hv;have:=this p v hv;rw[List.length_cons];omega
theorem Ak{x:rL}(hR:wF x):∀ (k:Nat) {m:PM} {B:Int},sM m B->0<=B->sM (jW x.steps k m) (B+100000000*k)
 | 0,m,B,h,_=>by rw[jW];simpa using h
 | k+1,m,B,h,hB=>by
  have h1:=EG hR x.steps (y:=(m,false)) (fun e he=>he) h;have hl:=hR.len;have h2:sM (tB x.steps m).1 (B+100000000):=fun p v hv=>by have:=h1 p v hv;omega
  rw[jW];split
  ·intro p v hv
   have:=Ak hR k h2 (by omega) p v hv;omega
  ·intro p v hv
   have:=h2 p v hv;omega
theorem OY{x:rL}(hR:wF x)(p:cz):sM (gk x p) 4000000000:=by
 have h0:sM [(p,(0:Int))] 0:=fun q v hv=>by
  rw[bD]at hv;split at hv
  ·cases hv;simp
  ·cases hv
 have:=Ak hR (x.many+2).toNat h0 (Int.le_refl 0);have hm:=hR.many;intro q v hv;have:=this q v hv;omega
theorem yy{x:rL}(hR:wF x)(p q:cz) : -4000000000<=lC (gk x p) q/\lC (gk x p) q<=4000000000:=by
 unfold lC
 cases h:bD (gk x p) q with
 | none=>simp
 | some v=>exact OY hR p q v h
theorem CT(m:PM)(q:cz):∃ r,findD q.d (NR m) 0=some r/\((r=none/\lC m q=0) \/ ∃ i,r=some (i,i64 (lC m q))):=by
 cases h:bD m q with
 | none=>exact⟨none,aQ (kd:=cz.d) eb h 0,.inl ⟨rfl,by unfold lC;rw[h];rfl⟩⟩
 | some v=>
  obtain⟨ix,_,hx,_⟩:=bf (kd:=cz.d) (vd:=aD) eb h 0;exact⟨_,hx,.inr ⟨0+ix,by unfold lC;rw[h];rfl⟩⟩
theorem X9(l:aN)(x:rL)(hR:wF x)(p q:cz)(hp:uh x (gk x p)=true)(hq:uh x (gk x q)=true):bq Tryz.prog 68 [eO l x,p.d,q.d] (cZ x p q).d:=by
 refine aY Tryz.func68 rfl (ft:=Z2) 3 fun {σ} Y st=>?_;conv=>whnf
 have h1:bq Tryz.prog 108 [eO l x,q.d] (.tup [.mv (NR (gk x q)),.bool true]):=bq.cast (fun {σ}=>Qh l x hR q) (by rw[hq];rfl);have h2:bq Tryz.prog 108 [eO l x,p.d] (.tup [.mv (NR (gk x p)),.bool true]):=bq.cast (fun {σ}=>Qh l x hR p) (by rw[hp];rfl);have hb:=yy hR p q;refine af (h1) rfl rfl ?_;conv=>whnf
 refine af (h2) rfl rfl ?_;conv=>whnf
 obtain⟨r1,Tf,wS⟩:=CT (gk x p) q;refine⟨r1,Tf,?_⟩;rcases wS with⟨rfl,e1⟩|⟨i1,rfl⟩
 ·conv=>whnf
  refine ae ?_;conv=>whnf
  obtain⟨r2,D7,ou⟩:=CT (gk x q) p;refine⟨r2,D7,?_⟩;rcases ou with⟨rfl,e2⟩|⟨i2,rfl⟩
  ·have hd:(cZ x p q).d = .agg [i64 (0-0),i64 0]:=by unfold cZ;rw[e2,Int.zero_sub];rw[e1];rfl
   rw[hd];conv=>whnf
   exact ai
  ·have hd:(cZ x p q).d = .agg [i64 (0-0),i64 (lC (gk x q) p)]:=by unfold cZ;rw[Int.zero_sub];rw[e1];rfl
   rw[hd];conv=>whnf
   exact ai
 ·conv=>whnf
  refine ae ?_;conv=>whnf
  obtain⟨r2,D7,ou⟩:=CT (gk x q) p;refine⟨r2,D7,?_⟩;rcases ou with⟨rfl,e2⟩|⟨i2,rfl⟩
  ·have hd:(cZ x p q).d = .agg [i64 (0-lC (gk x p) q),i64 0]:=by unfold cZ;rw[e2,Int.zero_sub];rfl
   rw[hd];conv=>whnf
   exact ai
  ·have hd:(cZ x p q).d = .agg [i64 (0-lC (gk x p) q),i64 (lC (gk x q) p)]:=by unfold cZ;rw[Int.zero_sub];rfl
   rw[hd];conv=>whnf
   exact ai
end Go.PX
