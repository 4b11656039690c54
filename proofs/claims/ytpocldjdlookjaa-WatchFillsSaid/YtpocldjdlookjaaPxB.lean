import Derived.Test.YtpocldjdlookjaaPxA
import Derived.ProofKit
import Derived.ChangeKeysEq
set_option linter.all false
namespace Go.PX
open Go.RowKit
theorem aF{α:Type}(t:sd α)(s:Nat)(v:α)(x:Nat):get ((s,v)::t) x=if x=s then some v else get t x:=by
 by_cases h:x=s
 ·subst h;simp[get]
 ·have:Nat.beq s x=false:=by rw[Bool.eq_false_iff];intro e;exact h (Nat.eq_of_beq_eq_true e).symm
  simp[get,this,h]
theorem cH{α:Type}(t:sd α)(s:Nat)(v:α)(x:Nat):get (put t s v) x=if x=s then some v else get t x:=by
 induction t with
 | nil=>
  simp only[put,get];by_cases h:x=s
  ·subst h;simp
  ·have:Nat.beq s x=false:=by rw[Bool.eq_false_iff];intro e;exact h (Nat.eq_of_beq_eq_true e).symm
   simp[this,h]
 | cons kv r ih=>
  obtain⟨k,u⟩:=kv;simp only[put]
  cases hk:Nat.beq k s with
  | true=>
   have:=Nat.eq_of_beq_eq_true hk;subst this;simp only[get];by_cases h:x=k
   ·subst h;simp
   ·have:Nat.beq k x=false:=by rw[Bool.eq_false_iff];intro e;exact h (Nat.eq_of_beq_eq_true e).symm
    simp[this,h]
  | false=>
   simp only[get]
   cases hx:Nat.beq k x with
   | true=>
    have:=Nat.eq_of_beq_eq_true hx;subst this;have:k≠s:=by rintro rfl;simp at hk
    simp[this]
   | false=>exact ih
theorem c0{α:Type}(t:sd α)(s:Nat)(x:Nat):get (cut t s) x=if x=s then none else get t x:=by
 induction t with
 | nil=>simp[cut,get]
 | cons kv r ih=>
  obtain⟨k,u⟩:=kv;simp only[cut]
  cases hk:Nat.beq k s with
  | true=>
   have:=Nat.eq_of_beq_eq_true hk;subst this;rw[ih];by_cases h:x=k
   ·simp[h]
   ·have:Nat.beq k x=false:=by rw[Bool.eq_false_iff];intro e;exact h (Nat.eq_of_beq_eq_true e).symm
    simp[h,get,this]
  | false=>
   simp only[get]
   cases hx:Nat.beq k x with
   | true=>
    have:=Nat.eq_of_beq_eq_true hx;subst this;have:k≠s:=by rintro rfl;simp at hk
    simp[this]
   | false=>exact ih
theorem bl{α β:Type}(f:α->β)(t:sd α)(x:Nat):get (cn f t) x=(get t x).map f:=by
 induction t with
 | nil=>rfl
 | cons kv r ih=>
  obtain⟨k,u⟩:=kv;simp only[cn,get]
  cases hx:Nat.beq k x with
  | true=>rfl
  | false=>exact ih
theorem aY.length{F:Nat->Nat}{w:World}:∀ {cs:List D} {l:List Value},aY F w cs l->l.length=cs.length
 | [],_,h=>by simp[show _ = [] from h]
 | _::_,_,h=>by
  obtain⟨x,l',rfl,_,hl⟩:=h;simp[aY.length hl]
theorem aq.length{yv:Option Nat}{L:Loc}{F:Nat->Nat}{w:World}:∀ {cs:List V} {l:List Value},aq yv L F w cs l->l.length=cs.length
 | [],_,h=>by simp[show _ = [] from h]
 | _::_,_,h=>by
  obtain⟨x,l',rfl,_,hl⟩:=h;simp[aq.length hl]
section
variable {yv : Option Nat} {L : Loc} {F : Nat -> Nat} {w : World}
theorem aq.inj:∀ {cs:List D} {l:List Value},aq yv L F w (inj cs) l↔aY F w cs l
 | [],l=>by simp[PX.inj,aq,aY]
 | c::r,l=>by
  simp only[PX.inj,aq,aY];constructor
  ·rintro ⟨x,l',rfl,hc,hl⟩;exact⟨x,l',rfl,hc,aq.inj.1 hl⟩
  ·rintro ⟨x,l',rfl,hc,hl⟩;exact⟨x,l',rfl,hc,aq.inj.2 hl⟩
theorem aq.get:∀ {cs:List V} {l:List Value} (i:Nat) {c:V},aq yv L F w cs l->cs[i]?=some c -> ∃ x,l[i]?=some x/\a6 yv L F w c x
 | [],_,i,c,_,hi=>by simp at hi
 | d::r,_,0,c,h,hi=>by
  obtain⟨x,l',rfl,hc,hl⟩:=h;simp at hi;subst hi;exact⟨x,by simp,hc⟩
 | d::r,_,i+1,c,h,hi=>by
  obtain⟨x,l',rfl,hc,hl⟩:=h;simpa using aq.get i hl (by simpa using hi)
theorem aq.jh:∀ {cs:List V} {l:List Value},l.length=cs.length->(∀ (i:Nat) (c:V),cs[i]?=some c -> ∃ x,l[i]?=some x/\a6 yv L F w c x)->aq yv L F w cs l
 | [],l,hl,_=>(List.length_eq_zero_iff.1 (by simpa using hl):l = [])
 | c::r,[],hl,_=>by simp at hl
 | c::r,x::l,hl,h=>by
  refine⟨x,l,rfl,?_,aq.jh (by simpa using hl) fun i d hd=>by simpa using h (i+1) d (by simpa using hd)⟩;obtain⟨y,hy,hr⟩:=h 0 c (by simp);simp at hy;exact hy▸hr
theorem aq.append:∀ {cs ds:List V} {l k:List Value},aq yv L F w cs l->aq yv L F w ds k->aq yv L F w (cs++ds) (l++k)
 | [],_,_,_,h,k=>by simpa[show _ = [] from h]using k
 | c::r,ds,_,m,h,k=>by
  obtain⟨x,l',rfl,hc,hl⟩:=h;exact⟨x,l'++m,by simp,hc,aq.append hl k⟩
theorem aq.take{cs:List V}{l:List Value}(n:Nat)(h:aq yv L F w cs l):aq yv L F w (cs.take n) (l.take n):=
 .jh (by simp[h.length]) fun i c hc=>by
  rw[List.getElem?_take]at hc ⊢;split at hc
  ·rename_i hi;simp only[hi,if_true];exact h.get i hc
  ·simp at hc
theorem aq.drop{cs:List V}{l:List Value}(n:Nat)(h:aq yv L F w cs l):aq yv L F w (cs.drop n) (l.drop n):=
 .jh (by simp[h.length]) fun i c hc=>by
  rw[List.getElem?_drop]at hc ⊢;exact h.get _ hc
theorem uj(l:List D)(n:Nat):inj (l.take n)=(inj l).take n:=by
 induction l generalizing n with
 | nil=>simp[inj]
 | cons c r ih=>cases n<;>simp[inj,ih]
theorem uh(l:List D)(n:Nat):inj (l.drop n)=(inj l).drop n:=by
 induction l generalizing n with
 | nil=>simp[inj]
 | cons c r ih=>cases n<;>simp[inj,ih]
theorem md(l m:List D):inj (l++m)=inj l++inj m:=by
 induction l with
 | nil=>rfl
 | cons c r ih=>simp[inj,ih]
theorem dI(l:List D):(inj l).length=l.length:=by
 induction l with
 | nil=>rfl
 | cons c r ih=>simp[inj,ih]
theorem sX(l:List D)(i:Nat):(inj l)[i]?=(l[i]?).map .d:=by
 induction l generalizing i with
 | nil=>simp[inj]
 | cons c r ih=>cases i<;>simp[inj,ih]
theorem cB(l:List (List D)):aO l=l.map inj:=by
 induction l with
 | nil=>rfl
 | cons c r ih=>simp[aO,ih]
mutual
def fD:V->Nat->Prop
 | .agg cs,i=>bF cs i
 | .tup cs,i=>bF cs i
 | .clo _ cs,i=>bF cs i
 | .ptr j _,i=>j=i
 | .ep j _ _ _,i=>j=i
 | .sl j _ _ _,i=>j=i
 | .mp j,i=>j=i
 | .it j,i=>j=i
 | _,_=>False
def bF:List V->Nat->Prop
 | [],_=>False
 | v::r,i=>fD v i\/bF r i
end
end
mutual
theorem a6.mono{yv:Option Nat}{L L':Loc}{F F':Nat->Nat}{w w':World}(h:Tr F w F' w'):∀ (v:V) (x:Value),(∀ i,fD v i->L'.ρ i=L.ρ i/\L'.κ i=L.κ i)->a6 yv L F w v x->a6 yv L' F' w' v x
 | .d v,_,_,hr=>bC.mono h v _ hr
 | .agg cs,_,hn,hr=>by
  obtain⟨l,rfl,hl⟩:=hr;exact⟨l,rfl,aq.mono h cs _ hn hl⟩
 | .tup cs,_,hn,hr=>by
  obtain⟨l,rfl,hl⟩:=hr;exact⟨l,rfl,aq.mono h cs _ hn hl⟩
 | .ptr id off,x,hn,hr=>by
  have hr:x = .pointer (some ⟨L.ρ id,off,none⟩):=hr;show x = .pointer (some ⟨L'.ρ id,off,none⟩);rw[(hn id rfl).1];exact hr
 | .ep id sz i off,x,hn,hr=>by
  have hr:x = .pointer (some ⟨L.ρ id,i*sz+off,none⟩):=hr;show x = .pointer (some ⟨L'.ρ id,i*sz+off,none⟩);rw[(hn id rfl).1];exact hr
 | .sl id sz off len,_,hn,hr=>by
  obtain⟨a,cap,rfl,hl,hs,hc⟩:=hr;refine⟨a,cap,rfl,hl,hs,?_⟩;rw[(hn id rfl).1,(hn id rfl).2];exact hc
 | .mp id,x,hn,hr=>by
  have hr:x = .map (some (L.ρ id)):=hr;show x = .map (some (L'.ρ id));rw[(hn id rfl).1];exact hr
 | .it id,x,hn,hr=>by
  have hr:x = .pointer (some ⟨L.ρ id,0,none⟩):=hr;show x = .pointer (some ⟨L'.ρ id,0,none⟩);rw[(hn id rfl).1];exact hr
 | .clo f cs,_,hn,hr=>by
  obtain⟨l,rfl,hl⟩:=hr;exact⟨l,rfl,aq.mono h cs _ hn hl⟩
 | .yld,_,_,hr=>hr
 | .unk,_,_,hr=>hr
theorem aq.mono{yv:Option Nat}{L L':Loc}{F F':Nat->Nat}{w w':World}(h:Tr F w F' w'):∀ (vs:List V) (l:List Value),(∀ i,bF vs i->L'.ρ i=L.ρ i/\L'.κ i=L.κ i)->aq yv L F w vs l->aq yv L' F' w' vs l
 | [],_,_,hr=>hr
 | v::r,_,hn,hr=>by
  obtain⟨x,l',rfl,hv,hl⟩:=hr;exact⟨x,l',rfl,a6.mono h v x (fun i hi=>hn i (.inl hi)) hv,aq.mono h r l' (fun i hi=>hn i (.inr hi)) hl⟩
end
mutual
theorem a6.kill{yv:Option Nat}{L:Loc}{F:Nat->Nat}{w:World}(id:Nat):∀ (v:V) (x:Value),a6 yv L F w v x->a6 yv L F w (az (aQ id) v) x
 | .d v,_,hr=>hr
 | .agg cs,_,hr=>by
  obtain⟨l,rfl,hl⟩:=hr;exact⟨l,rfl,aq.kill id cs _ hl⟩
 | .tup cs,_,hr=>by
  obtain⟨l,rfl,hl⟩:=hr;exact⟨l,rfl,aq.kill id cs _ hl⟩
 | .ptr i off,x,hr=>by
  have zP:x = .pointer (some ⟨L.ρ i,off,none⟩):=hr;simp only[az,aQ,fk];cases Nat.beq i id
  ·exact hr
  ·subst zP;exact rfl
 | .ep i sz j off,x,hr=>by
  have zP:x = .pointer (some ⟨L.ρ i,j*sz+off,none⟩):=hr;simp only[az,aQ,fk];cases Nat.beq i id
  ·exact hr
  ·subst zP;exact rfl
 | .sl i sz off len,x,hr=>by
  simp only[az,aQ,fk];cases Nat.beq i id
  ·exact hr
  ·obtain⟨a,cap,rfl,_⟩:=hr;exact rfl
 | .mp i,x,hr=>by
  have zP:x = .map (some (L.ρ i)):=hr;simp only[az,aQ,fk];cases Nat.beq i id
  ·exact hr
  ·subst zP;exact rfl
 | .it i,x,hr=>by
  have zP:x = .pointer (some ⟨L.ρ i,0,none⟩):=hr;simp only[az,aQ,fk];cases Nat.beq i id
  ·exact hr
  ·subst zP;exact rfl
 | .clo f cs,_,hr=>by
  obtain⟨l,rfl,hl⟩:=hr;exact⟨l,rfl,aq.kill id cs _ hl⟩
 | .yld,_,hr=>hr
 | .unk,_,hr=>hr
theorem aq.kill{yv:Option Nat}{L:Loc}{F:Nat->Nat}{w:World}(id:Nat):∀ (vs:List V) (l:List Value),aq yv L F w vs l->aq yv L F w (ca (aQ id) vs) l
 | [],_,hr=>hr
 | v::r,_,hr=>by
  obtain⟨x,l',rfl,hv,hl⟩:=hr;exact⟨x,l',rfl,a6.kill id v x hv,aq.kill id r l' hl⟩
end
mutual
theorem jY(id:Nat):∀ (v:V),¬ fD (az (aQ id) v) id
 | .d _=>fun h=>h
 | .agg cs=>fC id cs
 | .tup cs=>fC id cs
 | .clo _ cs=>fC id cs
 | .ptr i off=>by
  simp only[az,aQ,fk];cases h:Nat.beq i id
  ·intro hn;have:i=id:=hn;subst this;simp at h
  ·exact fun h=>h
 | .ep i sz j off=>by
  simp only[az,aQ,fk];cases h:Nat.beq i id
  ·intro hn;have:i=id:=hn;subst this;simp at h
  ·exact fun h=>h
 | .sl i sz off len=>by
  simp only[az,aQ,fk];cases h:Nat.beq i id
  ·intro hn;have:i=id:=hn;subst this;simp at h
  ·exact fun h=>h
 | .mp i=>by
  simp only[az,aQ,fk];cases h:Nat.beq i id
  ·intro hn;have:i=id:=hn;subst this;simp at h
  ·exact fun h=>h
 | .it i=>by
  simp only[az,aQ,fk];cases h:Nat.beq i id
  ·intro hn;have:i=id:=hn;subst this;simp at h
  ·exact fun h=>h
 | .yld=>fun h=>h
 | .unk=>fun h=>h
theorem fC(id:Nat):∀ (vs:List V),¬ bF (ca (aQ id) vs) id
 | []=>fun h=>h
 | v::r=>fun h=>h.elim (jY id v) (fC id r)
end
def jg:Obj->Nat->Prop
 | .box c,i=>bF c.aU i
 | .arr _ es,i=>bF es.aU.flatten i
 | .mit v _ _ _,i=>fD v i
 | .tb _ l,i=>bF l i
 | _,_=>False
theorem vu(f:V->V)(a b:List V):ca f (a++b)=ca f a++ca f b:=by
 induction a with
 | nil=>rfl
 | cons x r ih=>simp[ca,ih]
theorem eX(f:V->V)(a:List (List V)):(a7 f a).flatten=ca f a.flatten:=by
 induction a with
 | nil=>rfl
 | cons x r ih=>simp[a7,vu,ih]
theorem iC(f:V->V)(a:List V):(ca f a).length=a.length:=by
 induction a with
 | nil=>rfl
 | cons x r ih=>simp[ca,ih]
theorem fA(f:V->V)(a:List (List V)):(a7 f a).length=a.length:=by
 induction a with
 | nil=>rfl
 | cons x r ih=>simp[a7,ih]
theorem rV(f:V->V)(a:List (List V))(e:List V)(h:e∈a7 f a):∃ e0∈a,e=ca f e0:=by
 induction a with
 | nil=>cases h
 | cons x r ih=>
  simp only[a7,List.mem_cons]at h;rcases h with rfl|h
  ·exact⟨x,by simp,rfl⟩
  ·obtain⟨e0,h0,rfl⟩:=ih h;exact⟨e0,by simp[h0],rfl⟩
theorem AM(f:V->V)(l:List D):ca f (inj l)=inj l:=by
 induction l with
 | nil=>rfl
 | cons x r ih=>simp[inj,ca,az,ih]
theorem ef(l:List D)(i:Nat):¬ bF (inj l) i:=by
 induction l with
 | nil=>exact fun h=>h
 | cons x r ih=>exact fun h=>h.elim (fun h=>h) ih
theorem nz(a b:List V)(i:Nat):bF (a++b) i↔bF a i\/bF b i:=by
 induction a with
 | nil=>simp[bF]
 | cons x r ih=>simp[bF,ih,or_assoc]
theorem bG.kill{yv:Option Nat}{L:Loc}{F:Nat->Nat}{w:World}(k id:Nat)(o:Obj)(h:bG yv L F w id o):bG yv L F w id (Obj.az (aQ k) o):=by
 cases o with
 | box c=>
  cases c with
  | dd l=>exact h
  | vv l=>
   obtain⟨c,T,hc,hr⟩:=h;exact⟨c,T,hc,aq.kill k _ _ hr⟩
 | arr sz es=>
  cases es with
  | dd l=>exact h
  | vv l=>
   obtain⟨hs,hl,h⟩:=h;refine⟨hs,?_,?_⟩
   ·intro e he
    obtain⟨e0,h0,rfl⟩:=rV _ _ _ he;rw[iC];exact hl e0 h0
   ·rcases h with⟨h,hk⟩|⟨c,T,hc,hk,hn,hr⟩
    ·left
     have h:l = []:=h;subst h;exact⟨rfl,hk⟩
    ·right
     refine⟨c,T,hc,hk,?_,?_⟩
     ·show(a7 _ l).length*sz<=_
      rw[fA];exact hn
     ·show aq yv L F w (a7 _ l).flatten (c.toList.take ((a7 _ l).length*sz))
      rw[fA,eX];exact aq.kill k _ _ hr
 | map cc=>exact h
 | iter s n=>exact h
 | buf t s=>exact h
 | tb t l=>
  obtain⟨c,hc,hr⟩:=h;exact⟨c,hc,aq.kill k _ _ hr⟩
 | mit v n l u=>
  obtain⟨r,seen,h1,h2⟩:=h;exact⟨r,seen,a6.kill k v _ h1,h2⟩
theorem ny(k:Nat)(o:Obj):¬ jg (Obj.az (aQ k) o) k:=by
 cases o with
 | box c=>
  cases c with
  | dd l=>exact ef l k
  | vv l=>exact fC k l
 | arr sz es=>
  cases es with
  | dd l=>
   show ¬ bF (aO l).flatten k
   induction l with
   | nil=>exact fun h=>h
   | cons x r ih=>
    simp only[aO,List.flatten_cons,nz];exact fun h=>h.elim (ef x k) ih
  | vv l=>
   show ¬ bF (a7 _ l).flatten k;rw[eX];exact fC k _
 | map cc=>exact fun h=>h
 | iter s n=>exact fun h=>h
 | buf t s=>exact fun h=>h
 | tb t l=>exact fC k l
 | mit v n l u=>exact jY k v
theorem dA(L:Loc)(k id:Nat)(o:Obj):aN L id (Obj.az (aQ k) o)↔aN L id o:=by
 cases o with
 | box c=>cases c<;>exact Iff.rfl
 | arr sz es=>cases es<;>exact Iff.rfl
 | map cc=>exact Iff.rfl
 | iter s n=>exact Iff.rfl
 | buf t s=>exact Iff.rfl
 | tb t l=>exact Iff.rfl
 | mit v n l u=>exact Iff.rfl
theorem bG.mono{yv:Option Nat}{L L':Loc}{F F':Nat->Nat}{w w':World}(h:Tr F w F' w')(id:Nat)(o:Obj)(hn:∀ i,jg o i->L'.ρ i=L.ρ i/\L'.κ i=L.κ i)
  (hL:L'.ρ id=L.ρ id/\L'.κ id=L.κ id) (hb:aN L id o->w'.heap[L.ρ id]?=w.heap[L.ρ id]?) (hr:bG yv L F w id o):bG yv L' F' w' id o:=by
 cases o with
 | box c=>
  obtain⟨c',T,hc,hr⟩:=hr;exact⟨c',T,by rw[hL.1,hb trivial];exact hc,aq.mono h _ _ hn hr⟩
 | arr sz es=>
  obtain⟨hs,hl,hr⟩:=hr;refine⟨hs,hl,?_⟩;rcases hr with⟨he,hk⟩|⟨c,T,hc,hk,wa,hr⟩
  ·exact .inl ⟨he,by rw[hL.2];exact hk⟩
  ·by_cases hz:L.κ id=0
   ·left
    refine⟨?_,by rw[hL.2];exact hz⟩;rw[hk,hz]at wa;have:es.aU.length=0:=by
     rcases Nat.eq_zero_or_pos es.aU.length with h0|h0
     ·exact h0
     ·have:=Nat.mul_pos h0 hs;omega
    exact List.length_eq_zero_iff.1 this
   ·right
    exact⟨c,T,by rw[hL.1,hb hz];exact hc,by rw[hL.2];exact hk,wa,aq.mono h _ _ hn hr⟩
 | map cc=>
  obtain⟨en,c,hc,hr⟩:=hr;exact⟨en,c,by rw[hL.1,hb trivial];exact hc,bH.mono h _ _ hr.1,hr.2⟩
 | iter s n=>
  show w'.heap[L'.ρ id]?=_;rw[hL.1,hb trivial];exact hr
 | buf t s=>
  obtain⟨c,h1,h2,h3⟩:=hr;exact⟨c,by rw[hL.1,hb trivial];exact h1,by rw[hL.2];exact h2,h3⟩
 | tb t l=>
  obtain⟨c,hc,hr⟩:=hr;exact⟨c,by rw[hL.1,hb trivial];exact hc,aq.mono h _ _ hn hr⟩
 | mit v n l u=>
  obtain⟨r,seen,h1,h2,h3⟩:=hr;exact⟨r,seen,a6.mono h v _ hn h1,by rw[hL.1,hb trivial];exact h2,h3⟩
theorem bL{w:World}{b:Nat}{o:Go.Obj}(h:w.heap[b]?=some o):b<w.heap.size:=(Array.getElem?_eq_some_iff.1 h).1
theorem jx{w w':World}{b o:Nat}(h:w'.heap[b]?=w.heap[b]?):w'.cell? ⟨b,o,none⟩=w.cell? ⟨b,o,none⟩:=by
 simp[World.cell?,h]
theorem bG.lt{yv:Option Nat}{L:Loc}{F:Nat->Nat}{w:World}{id:Nat}{o:Obj}(h:bG yv L F w id o)(hb:aN L id o):L.ρ id<w.heap.size:=by
 cases o with
 | box c=>obtain⟨c',T,hc,_⟩:=h;exact bL hc
 | arr sz es=>
  obtain⟨_,_,h⟩:=h;rcases h with⟨_,hk⟩|⟨c,T,hc,_⟩
  ·exact absurd hk hb
  ·exact bL hc
 | map cc=>obtain⟨en,c,hc,_⟩:=h;exact bL hc
 | iter s n=>exact bL (show w.heap[L.ρ id]?=_ from h)
 | buf t s=>obtain⟨c,h1,_⟩:=h;exact bL h1
 | tb t l=>obtain⟨c,h1,_⟩:=h;exact bL h1
 | mit v n l u=>obtain⟨r,seen,_,h2,_⟩:=h;exact bL h2
theorem Tr.gV{F F':Nat->Nat}{w w':World}(ho:w'.os=w.os)(ht:w'.tape=w.tape)(hu:w'.output=w.output)(hs:w.heap.size<=w'.heap.size)(hle:∀ b,F b<=F' b)
    (tV:∀ b,w.heap.size<=b->F b=0) (hk:∀ b,b<w.heap.size->0<F b->w'.heap[b]?=w.heap[b]?):Tr F w F' w':=
  ⟨ho,ht,hu,hs,hle,
   fun b o h=>by
    rcases Nat.lt_or_ge b w.heap.size with hb|hb
    · exact jx (hk b hb (by omega))
    · rw[tV b hb]at h;omega,
   fun b e c h hm=>by rw[hk b (bL hm) h];exact hm⟩
theorem Tr.alloc{F:Nat->Nat}{w:World}(tV:∀ b,w.heap.size<=b->F b=0)(o:Go.Obj):Tr F w F (w.alloc o):=
 .gV rfl rfl rfl (by simp) (fun _=>Nat.le_refl _) tV fun b hb _=>heap_alloc_old _ _ _ hb
theorem Tr.drew{F:Nat->Nat}{w:World}(n:Nat):Tr F w F { w with drawn:=n }:=
 ⟨rfl,rfl,rfl,Nat.le_refl _,fun _=>Nat.le_refl _,fun _ _ _=>rfl,fun _ _ _ _ h=>h⟩
section
variable {σ : Type} {cx : Cx σ} {r : Option Nat} {m : List Nat} {L : Loc} {F : Nat -> Nat} {st : St σ} {a : Act} {w : World}
theorem bo.same{h:av}{s:σ}(hh:bo cx L F h s w){w':World}(he:w'.heap=w.heap)(ho:w'.os=w.os)(ht:w'.tape=w.tape)(hu:w'.output=w.output):bo cx L F h s w':=by
 have tr:Tr F w F w':=⟨ho,ht,hu,by rw[he];exact Nat.le_refl _,fun _=>Nat.le_refl _,fun b o _=>jx (by rw[he]),fun b e c _ hm=>by rw[he];exact hm⟩;refine⟨cx.eV hh.hg (.gV ho ht hu (by rw[he];exact Nat.le_refl _) (fun _=>Nat.le_refl _) hh.fresh fun b _ _=>by rw[he]) (fun b hb=>hh.fresh b (by rw[<- he];exact hb)) fun b _=>⟨by rw[he],rfl⟩,fun b hb=>by rw[he];exact hh.iW b hb,fun b hb=>hh.fresh b (by rw[<- he];exact hb),?_,hh.own,hh.inj⟩;intro id o hg;exact bG.mono tr id o (fun _ _=>⟨rfl,rfl⟩) ⟨rfl,rfl⟩ (fun _=>by rw[he]) (hh.obj id o hg)
theorem Good.same(hh:Good cx r m L F st a w){w':World}(he:w'.heap=w.heap)(ho:w'.os=w.os)(ht:w'.tape=w.tape)(hu:w'.output=w.output):Good cx r m L F st a w':=by
 have tr:Tr F w F w':=⟨ho,ht,hu,by rw[he];exact Nat.le_refl _,fun _=>Nat.le_refl _,fun b o _=>jx (by rw[he]),fun b e c _ hm=>by rw[he];exact hm⟩;refine⟨hh.heap.same he ho ht hu,?_,hh.sI,fun b hb=>by rw[he];exact hh.oe b hb,hh.uy,fun l hl=>by rw[he];exact hh.lk l hl,hh.lG,hh.sD⟩;intro s v hs;obtain⟨x,hx,hr⟩:=hh.env s v hs;exact⟨x,hx,a6.mono tr v x (fun _ _=>⟨rfl,rfl⟩) hr⟩
theorem Good.eh(hh:Good cx r m L F st a w){d:Nat}(hd:d<a.tmps.size):¬ pinned d:=fun h=>by
 have:=hh.sD;unfold pinned at h;omega
theorem Good.set(hh:Good cx r m L F st a w){d:Nat}{v:V}{x:Value}(hd:d<a.tmps.size)(hv:a6 cx.yv L F w v x) :
  Good cx r m L F ⟨put st.env d v,st.heap,st.s⟩ (a.put (some d) x) w:=by
 refine⟨hh.heap,?_,hh.sI,hh.oe,hh.uy,hh.lk,hh.lG,by simpa[Act.put]using hh.sD⟩;intro s u hs;simp only[cH]at hs;simp only[Act.put];split at hs
 ·rename_i e
  cases hs;subst e
  exact⟨x,by simp[Array.getElem?_setIfInBounds,hd],hv⟩
 ·rename_i e
  obtain⟨y,hy,hr⟩:=hh.env s u hs;exact⟨y,by rw[Array.getElem?_setIfInBounds_ne (Ne.symm e)];exact hy,hr⟩
theorem Good.a9(hh:Good cx r m L F st a w){d:Option Nat}{v:V}{x:Value}(hd:∀ k,d=some k->k<a.tmps.size)(hv:a6 cx.yv L F w v x) :
  Good cx r m L F (aK st (a9 d v)) (a.put d x) w:=by
 cases d with
 | none=>exact hh
 | some d=>exact hh.set (hd d rfl) hv
theorem Good.sub(hh:Good cx r m L F st a w){e:Env}{h:av}(he:cM e st.env)(hs:cM h st.heap):Good cx r m L F ⟨e,h,st.s⟩ a w:=
 ⟨⟨hh.heap.hg,hh.heap.iW,hh.heap.fresh,fun id o hg=>hh.heap.obj id o (hs id o hg),fun id o hg=>hh.heap.own id o (hs id o hg),
  fun i j o p hi hj=>hh.heap.inj i j o p (hs i o hi) (hs j p hj)⟩,fun s v hg=>hh.env s v (he s v hg),hh.sI,hh.oe,hh.uy,hh.lk,hh.lG,hh.sD⟩
theorem Good.new(hh:Good cx r m L F st a w)(id n:Nat)(o:Obj)(b:Go.Obj)(dZ:¬ pinned id)
  (ho:bG cx.yv ⟨fun i=>if i=id then w.heap.size else L.ρ i,fun i=>if i=id then n else L.κ i⟩ F (w.alloc b) id o) :
  Good cx r m ⟨fun i=>if i=id then w.heap.size else L.ρ i,fun i=>if i=id then n else L.κ i⟩ F (bE st (.new id o)) a (w.alloc b):=by
 have tr:Tr F w F (w.alloc b):=Tr.alloc hh.heap.fresh b;have hC:∀ c,cx.C st.s c->(w.alloc b).heap[c]?=w.heap[c]?:=fun c hc=>heap_alloc_old _ _ _ (hh.heap.iW c hc);have hg:∀ i o',get (bE st (.new id o)).heap i=some o'->(i=id/\o'=o)\/(i≠id /\ ∃ o0,get st.heap i=some o0/\o'=Obj.az (aQ id) o0):=by
  intro i o' hi;simp only[bE,aF,cH,bl,c0]at hi;split at hi
  ·rename_i e;left;exact⟨e,by cases hi;rfl⟩
  ·rename_i e
   right;refine⟨e,?_⟩
   cases h0:get st.heap i with
   | none=>simp[h0]at hi
   | some o0=>simp[h0]at hi;exact⟨o0,rfl,hi.symm⟩
 refine⟨⟨cx.eV hh.heap.hg tr (fun c hc=>hh.heap.fresh c (by simp at hc;omega)) fun c hc=>⟨hC c hc,rfl⟩,fun c hc=>?_,fun c hc=>hh.heap.fresh c (by simp at hc;omega),?_,?_,?_⟩,?_,hh.sI,?_,hh.uy,?_,fun i hi=>?_,hh.sD⟩
 ·have:=hh.heap.iW c hc;simp;omega
 ·intro i o' hi
  rcases hg i o' hi with⟨rfl,rfl⟩|⟨eA,o0,h0,rfl⟩
  ·exact ho
  ·refine bG.mono tr i _ (fun j hj=>?_) ⟨by simp[eA],by simp[eA]⟩ (fun hb=>heap_alloc_old _ _ _ ?_) (bG.kill id i o0 (hh.heap.obj i o0 h0))
   ·have:j≠id:=by rintro rfl;exact ny j o0 hj
    simp[this]
   ·exact(hh.heap.obj i o0 h0).lt ((dA L id i o0).1 hb)
 ·intro i o' hi hb
  rcases hg i o' hi with⟨rfl,rfl⟩|⟨eA,o0,h0,rfl⟩
  ·simp only[if_true]
   refine⟨hh.heap.fresh _ (Nat.le_refl _),fun hc=>?_⟩;have:=hh.heap.iW _ hc;omega
  ·simp only[eA,if_false]
   have kN:aN L i o0:=by
    have:=(dA _ id i o0).1 hb;cases o0<;>simp_all[aN]
   exact hh.heap.own i o0 h0 kN
 ·intro i j o' p hi hj kj gJ e
  have key:∀ i o',get (bE st (.new id o)).heap i=some o'->i≠id->aN ⟨fun i=>if i=id then w.heap.size else L.ρ i,fun i=>if i=id then n else L.κ i⟩ i o' -> ∃ o0,get st.heap i=some o0/\aN L i o0:=by
   intro i o' hi eA hb;rcases hg i o' hi with⟨rfl,rfl⟩|⟨_,o0,h0,rfl⟩
   ·exact absurd rfl eA
   ·refine⟨o0,h0,?_⟩
    have:=(dA _ id i o0).1 hb;cases o0<;>simp_all[aN]
  by_cases kS:i=id<;>by_cases CR:j=id
  ·rw[kS,CR]
  ·exfalso
   obtain⟨p0,xV,CI⟩:=key j p hj CR gJ;have:=(hh.heap.obj j p0 xV).lt CI;simp[kS,CR]at e;omega
  ·exfalso
   obtain⟨p0,xV,CI⟩:=key i o' hi kS kj;have:=(hh.heap.obj i p0 xV).lt CI;simp[kS,CR]at e;omega
  ·obtain⟨o0,PI,nf⟩:=key i o' hi kS kj
   obtain⟨p0,xV,CI⟩:=key j p hj CR gJ;simp only[kS,CR,if_false]at e;exact hh.heap.inj i j o0 p0 PI xV nf CI e
 ·intro s v hs
  simp only[bE,bl]at hs
  cases h0:get st.env s with
  | none=>simp[h0]at hs
  | some v0=>
   simp[h0]at hs;subst hs;obtain⟨x,hx,hr⟩:=hh.env s v0 h0;refine⟨x,hx,a6.mono tr _ x (fun j hj=>?_) (a6.kill id v0 x hr)⟩;have:j≠id:=by rintro rfl;exact jY j v0 hj
   simp[this]
 ·intro b' kN
  exact⟨by rw[heap_alloc_old _ _ _ (bL (hh.oe b' kN).1)];exact(hh.oe b' kN).1,(hh.oe b' kN).2⟩
 ·intro l hl
  obtain⟨lp,zN⟩:=hh.lk l hl;exact⟨lp,⟨by rw[heap_alloc_old _ _ _ (bL zN.1.1)];exact zN.1.1,zN.1.2⟩,zN.2⟩
 ·have:i≠id:=by rintro rfl;exact dZ hi
  simp only[this,if_false];exact hh.lG i hi
theorem Good.lC(hh:Good cx r m L F st a w)(id sz:Nat)(dZ:¬ pinned id)(hs:0<sz)(es:aC)(he:es.aU = []) :
  Good cx r m ⟨L.ρ,fun i=>if i=id then 0 else L.κ i⟩ F (bE st (.new id (.arr sz es))) a w:=by
 have tr:Tr F w F w:=Tr.refl F w;have hg:∀ i o',get (bE st (.new id (.arr sz es))).heap i=some o'->(i=id/\o' = .arr sz es)\/(i≠id /\ ∃ o0,get st.heap i=some o0/\o'=Obj.az (aQ id) o0):=by
  intro i o' hi;simp only[bE,aF,cH,bl,c0]at hi;split at hi
  ·rename_i e;left;exact⟨e,by cases hi;rfl⟩
  ·rename_i e
   right;refine⟨e,?_⟩
   cases h0:get st.heap i with
   | none=>simp[h0]at hi
   | some o0=>simp[h0]at hi;exact⟨o0,rfl,hi.symm⟩
 have key:∀ i o',get (bE st (.new id (.arr sz es))).heap i=some o'->aN ⟨L.ρ,fun i=>if i=id then 0 else L.κ i⟩ i o'->i≠id /\ ∃ o0,get st.heap i=some o0/\aN L i o0:=by
  intro i o' hi hb;rcases hg i o' hi with⟨rfl,rfl⟩|⟨eA,o0,h0,rfl⟩
  ·simp[aN]at hb
  ·refine⟨eA,o0,h0,?_⟩
   have:=(dA _ id i o0).1 hb;cases o0<;>simp_all[aN]
 refine⟨⟨hh.heap.hg,hh.heap.iW,hh.heap.fresh,?_,?_,?_⟩,?_,hh.sI,hh.oe,hh.uy,hh.lk,fun i hi=>⟨(hh.lG i hi).1,by
  have:i≠id:=by rintro rfl;exact dZ hi
  simp only[this,if_false];exact(hh.lG i hi).2⟩,hh.sD⟩
 ·intro i o' hi
  rcases hg i o' hi with⟨rfl,rfl⟩|⟨eA,o0,h0,rfl⟩
  ·exact⟨hs,(by intro e h;rw[he]at h;cases h),.inl ⟨he,(by simp)⟩⟩
  ·refine bG.mono (L:=L) tr i _ (fun j hj=>?_) ⟨rfl,by simp[eA]⟩ (fun _=>rfl) (bG.kill id i o0 (hh.heap.obj i o0 h0))
   have:j≠id:=by rintro rfl;exact ny j o0 hj
   simp[this]
 ·intro i o' hi hb
  obtain⟨_,o0,h0,nf⟩:=key i o' hi hb;exact hh.heap.own i o0 h0 nf
 ·intro i j o' p hi hj kj gJ e
  obtain⟨_,o0,PI,nf⟩:=key i o' hi kj;obtain⟨_,p0,xV,CI⟩:=key j p hj gJ;exact hh.heap.inj i j o0 p0 PI xV nf CI e
 ·intro s v hs
  simp only[bE,bl]at hs
  cases h0:get st.env s with
  | none=>simp[h0]at hs
  | some v0=>
   simp[h0]at hs;subst hs;obtain⟨x,hx,hr⟩:=hh.env s v0 h0;refine⟨x,hx,a6.mono tr _ x (fun j hj=>?_) (a6.kill id v0 x hr)⟩;have:j≠id:=by rintro rfl;exact jY j v0 hj
   simp[this]
theorem Good.del(hh:Good cx r m L F st a w)(id:Nat):Good cx r m L F (bE st (.del id)) a w:=
 hh.sub (fun _ _ h=>h) fun i o h=>by
  simp only[bE,c0]at h;split at h
  ·cases h
  ·exact h
theorem Good.obj(hh:Good cx r m L F st a w){id:Nat}{o0 o:Obj}(h0:get st.heap id=some o0)(nf:aN L id o0){w':World}
  (Nn:w'.os=w.os) (ht:w'.tape=w.tape) (hu:w'.output=w.output) (cU:w'.heap.size=w.heap.size) (hk:∀ b,b≠L.ρ id->w'.heap[b]?=w.heap[b]?)
  (qT:∀ ds,w.heap[L.ρ id]?≠some (.deferred ds)) (mL:∀ lp,w.heap[L.ρ id]?≠some (.loop lp))
  (ho:bG cx.yv L F w' id o):Good cx r m L F (bE st (.obj id o)) a w'/\Tr F w F w':=by
 obtain⟨hF,I3⟩:=hh.heap.own id o0 h0 nf;have tr:Tr F w F w':=.gV Nn ht hu (by omega) (fun _=>Nat.le_refl _) hh.heap.fresh fun b _ Re=>hk b (by rintro rfl;omega);have hC:∀ c,cx.C st.s c->w'.heap[c]?=w.heap[c]?:=fun c hc=>hk c (by rintro rfl;exact I3 hc);have hg:∀ i o',get (bE st (.obj id o)).heap i=some o'->(i=id/\o'=o)\/(i≠id/\get st.heap i=some o'):=by
  intro i o' hi;simp only[bE,cH]at hi;split at hi
  ·rename_i e;left;exact⟨e,by cases hi;rfl⟩
  ·rename_i e;exact .inr ⟨e,hi⟩
 have kO:∀ i o',get (bE st (.obj id o)).heap i=some o'->aN L i o' -> ∃ o1,get st.heap i=some o1/\aN L i o1:=by
  intro i o' hi hb;rcases hg i o' hi with⟨rfl,rfl⟩|⟨_,h⟩
  ·exact⟨o0,h0,nf⟩
  ·exact⟨o',h,hb⟩
 refine⟨⟨⟨cx.eV hh.heap.hg tr (fun c hc=>hh.heap.fresh c (by omega)) fun c hc=>⟨hC c hc,rfl⟩,fun c hc=>by rw[cU];exact hh.heap.iW c hc,fun c hc=>hh.heap.fresh c (by omega),?_,?_,?_⟩,?_,hh.sI,?_,hh.uy,?_,hh.lG,hh.sD⟩,tr⟩
 ·intro i o' hi
  rcases hg i o' hi with⟨rfl,rfl⟩|⟨eA,h⟩
  ·exact ho
  ·refine bG.mono tr i o' (fun _ _=>⟨rfl,rfl⟩) ⟨rfl,rfl⟩ (fun hb=>hk _ fun e=>eA (hh.heap.inj i id o' o0 h h0 hb nf e)) (hh.heap.obj i o' h)
 ·intro i o' hi hb
  obtain⟨o1,h1,n9⟩:=kO i o' hi hb;exact hh.heap.own i o1 h1 n9
 ·intro i j o' p hi hj kj gJ e
  obtain⟨o1,h1,n9⟩:=kO i o' hi kj;obtain⟨o2,h2,mI⟩:=kO j p hj gJ;exact hh.heap.inj i j o1 o2 h1 h2 n9 mI e
 ·intro s v hs
  obtain⟨x,hx,hr⟩:=hh.env s v hs;exact⟨x,hx,a6.mono tr v x (fun _ _=>⟨rfl,rfl⟩) hr⟩
 ·intro b hb
  have:=(hh.oe b hb).1;exact⟨by rw[hk b (by rintro rfl;exact qT _ this)];exact this,(hh.oe b hb).2⟩
 ·intro l hl
  obtain⟨lp,zN⟩:=hh.lk l hl;exact⟨lp,⟨by rw[hk l (by rintro rfl;exact mL _ zN.1.1)];exact zN.1.1,zN.1.2⟩,zN.2⟩
end
end Go.PX
namespace Go.PX
open Go.RowKit
theorem kH{F:Nat->Nat}{w:World}{v:Value}{a:D}(h:j5 v=some a):bC F w a v:=by
 unfold j5 at h;split at h<;>cases h<;>rfl
theorem ja{F:Nat->Nat}{w:World}:∀ {l:List Value} {as:List D},gD l=some as->aY F w as l
 | [],as,h=>by simp[gD]at h;subst h;rfl
 | v::r,as,h=>by
  simp only[gD]at h;split at h
  ·rename_i a l' ha jz
   cases h;exact⟨v,r,rfl,kH ha,ja jz⟩
  ·cases h
theorem lR{F:Nat->Nat}{w:World}{v:Value}{a:D}(h:ofConst v=some a):bC F w a v:=by
 unfold ofConst at h;split at h
 ·rename_i cs
  cases hs:gD cs.toList with
  | none=>rw[hs]at h;cases h
  | some l=>rw[hs]at h;cases h;exact⟨cs,rfl,ja hs⟩
 ·rename_i cs
  split at h
  ·rename_i h0
   cases h;exact⟨cs,rfl,h0⟩
  ·cases h
 ·exact kH h
def ik(d:TypeDesc):Kd:=
 match d with
 | .bool=>.bool
 | .int k=>.int k
 | .string=>.str
 | .slice e=>.slice e
 | .struct fs => if fs.any (fun f => f.name == "_") then .other else .struct (fs.toList.map fun f => (f.offset, f.type))
 | .array n e=>.array n e
 | .map k e=>.map k e
 | .interface _=>.iface
 | _=>.other
def pL(d:TypeDesc):Bool:=
 match d with
 | .struct _=>true
 | .array _ _=>true
 | _=>false
def zeroCells(v:Value):Option (List D):=
 match ofConst v with
 | some (.agg l)=>some l
 | some (.tup _)=>none
 | some v=>some [v]
 | none=>none
def Ch(v:Value):Bool:=
 match ofConst v with
 | some (.agg _)=>true
 | _=>false
def bj(P:Program)(T:dM):Prop:=
 ∀ t ti,T.get t=some ti -> ∃ i d,P.info? t=some i/\P.underlying t=some d/\ti.size=i.size/\ti.bytes=i.bytes/\ti.kd=ik d/\ti.isAgg=pL d /\
  (ti.held=false->P.stoodInHeld t=false /\ ∀ k,ti.kd = .int k->i.comparable=true)/\(∀ z,ti.zero=some z -> ∃ zv,i.zero=some zv/\zeroCells zv=some z/\Ch zv=ti.isAgg)
theorem um{d:TypeDesc}(h:ik d = .iface):∃ ms,d = .interface ms:=by
 unfold ik at h;split at h<;>first|exact⟨_,rfl⟩|(split at h<;>cases h)|cases h
theorem et{d:TypeDesc}{e:TypeId}(h:ik d = .slice e):d = .slice e:=by
 unfold ik at h;split at h<;>first|(cases h;rfl)|(split at h<;>cases h)|cases h
theorem gT{d:TypeDesc}(h:ik d = .str):d = .string:=by
 unfold ik at h;split at h<;>first|rfl|(split at h<;>cases h)|cases h
theorem lq{d:TypeDesc}{k:IntKind}(h:ik d = .int k):d = .int k:=by
 unfold ik at h;split at h<;>first|(cases h;rfl)|(split at h<;>cases h)|cases h
theorem nY{d:TypeDesc}(h:ik d = .bool):d = .bool:=by
 unfold ik at h;split at h<;>first|rfl|(split at h<;>cases h)|cases h
theorem eT{d:TypeDesc}{n:Nat}{e:TypeId}(h:ik d = .array n e):d = .array n e:=by
 unfold ik at h;split at h<;>first|(cases h;rfl)|(split at h<;>cases h)|cases h
theorem qj{d:TypeDesc}{k e:TypeId}(h:ik d = .map k e):d = .map k e:=by
 unfold ik at h;split at h<;>first|(cases h;rfl)|(split at h<;>cases h)|cases h
theorem gA{d:TypeDesc}{fs:List (Nat×TypeId)}(h:ik d = .struct fs) :
  ∃ fa : Array Field, d = .struct fa /\ fs = fa.toList.map (fun f => (f.offset, f.type)) /\ ∀ f ∈ fa.toList, (f.name == "_") = false := by
 unfold ik at h;split at h<;>first|cases h|skip
 rename_i fa;split at h
 ·cases h
 ·rename_i hn
  cases h;refine⟨fa,rfl,rfl,fun f hf=>?_⟩
  have wa : fa.any (fun f => f.name == "_") = false := by simpa using hn
  rw[Array.any_eq_false']at wa;simpa using wa f (by simpa using hf)
section
variable {P : Program} {T : dM} {w : World}
theorem jB(hT:bj P T){t:TypeId}{ti:oQ}(h:T.get t=some ti):(isAgg t).run P w = .ok ti.isAgg w:=by
 obtain⟨i,d,hi,hd,cU,Bz,dt,mP,Lk,hz⟩:=hT t ti h;unfold isAgg;rw[mP];cases d<;>simp[run_underlying hd,pL]
theorem dK(hT:bj P T){t:TypeId}{ti:oQ}(h:T.get t=some ti):(sizeOf t).run P w = .ok ti.size w:=by
 obtain⟨i,d,hi,hd,cU,Bz,dt,mP,Lk,hz⟩:=hT t ti h;simp[sizeOf,typeInfo,hi,cU]
end
theorem bK{b:Bool}{K:Prop}(h:fc b K):b=true/\K:=by
 cases b
 ·exact h.elim
 ·exact⟨rfl,h⟩
theorem tu{b:Bool}{X Y:Prop}(h:HC b X Y):(b=true/\X)\/(b=false/\Y):=by
 cases b
 ·exact .inr ⟨rfl,h⟩
 ·exact .inl ⟨rfl,h⟩
theorem lg{n m:Nat}(h:Nat.ble n m=true):n<=m:=Nat.le_of_ble_eq_true h
theorem dc{n m:Nat}(h:Nat.beq n m=true):n=m:=Nat.eq_of_beq_eq_true h
theorem uB{n m:Nat}(h:(!Nat.beq n m)=true):n≠m:=by
 intro e;subst e;simp at h
section
variable {σ : Type} {cx : Cx σ} {r : Option Nat} {m : List Nat} {L : Loc} {F : Nat -> Nat} {st : St σ} {a : Act} {w : World}
theorem aG{e e':Env}(hs:cM e e'){x:Operand}{v:V}(hx:aM e x=some v):aM e' x=some v:=by
 cases x with
 | tmp t=>exact hs t v hx
 | const c=>exact hx
 | func f=>exact hx
 | global g=>exact hx
theorem jA{e e':Env}(hs:cM e e'):∀ {l:List Operand} {vs:List V},cQ e l=some vs->cQ e' l=some vs
 | [],vs,h=>h
 | x::r,vs,h=>by
  simp only[cQ]at h ⊢
  cases hx:aM e x with
  | none=>simp[hx]at h
  | some v=>
   cases hr:cQ e r with
   | none=>simp[hx,hr]at h
   | some l=>simp[hx,hr]at h;simp[aG hs hx,jA hs hr,h]
theorem Good.aM(h:Good cx r m L F st a w){x:Operand}{v:V}(hx:PX.aM st.env x=some v):a6 cx.yv L F w v (a.eval x):=by
 cases x with
 | tmp t=>
  obtain⟨y,hy,hr⟩:=h.env t v hx;simpa[Act.eval,hy]using hr
 | const c=>
  simp only[PX.aM]at hx;split at hx
  ·rename_i v' hv;cases hx;exact lR hv
  ·cases hx
 | func f=>
  simp only[PX.aM,Option.some.injEq]at hx;subst hx;exact⟨#[],rfl,rfl⟩
 | global g=>simp[PX.aM]at hx
theorem Good.cQ(h:Good cx r m L F st a w):∀ {l:List Operand} {vs:List V},PX.cQ st.env l=some vs->aq cx.yv L F w vs (l.map a.eval)
 | [],vs,hx=>by simp[PX.cQ]at hx;subst hx;rfl
 | x::r,vs,hx=>by
  simp only[PX.cQ]at hx
  cases hv:PX.aM st.env x with
  | none=>simp[hv]at hx
  | some v=>
   cases hr:PX.cQ st.env r with
   | none=>simp[hv,hr]at hx
   | some l=>simp[hv,hr]at hx;subst hx;exact⟨_,_,rfl,h.aM hv,h.cQ hr⟩
end
theorem bp{P:Program}{e:Env}{h:av}{o:Oper}{v:V}
  (hr:∀ {σ:Type} (cx:Cx σ) (r:Option Nat) (m:List Nat) (L:Loc) (F:Nat->Nat) (st:St σ) (a:Act) (w:World),cM e st.env->cM h st.heap->Good cx r m L F st a w ->
   ∃ x,(execOp a.eval o).run P w = .ok (.value x) w/\a6 cx.yv L F w v x):Out P e h o (a9 o.dst v):=by
 intro σ cx r m L F st a w he hh hg hd;obtain⟨x,hx,hv⟩:=hr cx r m L F st a w he hh hg;exact⟨x,w,_,hx,.inl rfl,L,F,hg.a9 hd hv,Tr.refl F w⟩
section
variable {P : Program} {T : dM} {e : Env} {h : av} {dst : Option Nat} {K : List Wr -> Prop} {ty : TypeId} {pos : String} {after : Array Edge} {guard : Option (Nat × Bool)}
theorem Ff{x:Operand}(hk:fo T e h dst (.move x) K):∃ ws,K ws/\Out P e h ⟨dst,.move x,ty,pos,after,guard⟩ ws:=by
 simp only[fo]at hk;split at hk
 ·rename_i v hv
  exact⟨_,hk,bp (o:=⟨dst,.move x,ty,pos,after,guard⟩) fun cx r m L F st a w he hh hg=>⟨_,by simp[execOp],hg.aM (aG he hv)⟩⟩
 ·exact hk.elim
theorem AU{x:Operand}(hk:fo T e h dst (.assign x) K):∃ ws,K ws/\Out P e h ⟨dst,.assign x,ty,pos,after,guard⟩ ws:=by
 simp only[fo]at hk;split at hk
 ·rename_i v hv
  exact⟨_,hk,bp (o:=⟨dst,.assign x,ty,pos,after,guard⟩) fun cx r m L F st a w he hh hg=>⟨_,by simp[execOp],hg.aM (aG he hv)⟩⟩
 ·exact hk.elim
theorem nR{σ:Type}{cx:Cx σ}{r:Option Nat}{m:List Nat}{L:Loc}{F:Nat->Nat}{st:St σ}{a:Act}{w:World}(hg:Good cx r m L F st a w){x:Operand}{b:Bool}
  (he:cM e st.env) (hx:aM e x=some (.d (.bool b))):a.eval x = .bool b:=hg.aM (aG he hx)
theorem gP{σ:Type}{cx:Cx σ}{r:Option Nat}{m:List Nat}{L:Loc}{F:Nat->Nat}{st:St σ}{a:Act}{w:World}(hg:Good cx r m L F st a w){x:Operand}{k:IntKind}{n:Int}
  (he:cM e st.env) (hx:aM e x=some (.d (.int k n))):a.eval x = .int k n:=hg.aM (aG he hx)
theorem jH{σ:Type}{cx:Cx σ}{r:Option Nat}{m:List Nat}{L:Loc}{F:Nat->Nat}{st:St σ}{a:Act}{w:World}(hg:Good cx r m L F st a w){x:Operand}{s:ByteArray}
  (he:cM e st.env) (hx:aM e x=some (.d (.str s))):a.eval x = .string s:=hg.aM (aG he hx)
theorem Fh{c x y:Operand}(hk:fo T e h dst (.pick c x y) K):∃ ws,K ws/\Out P e h ⟨dst,.pick c x y,ty,pos,after,guard⟩ ws:=by
 simp only[fo]at hk;have key:∀ (t:Bool) (z:Operand) (v:V),aM e c=some (.d (.bool t))->z=(if t then x else y)->aM e z=some v->Out P e h ⟨dst,.pick c x y,ty,pos,after,guard⟩ (a9 dst v):=by
  intro t z v hc hz hv;refine bp (o:=⟨dst,.pick c x y,ty,pos,after,guard⟩) fun cx r m L F st a w he hh hg=>⟨a.eval z,?_,hg.aM (aG he hv)⟩;have:=nR hg he hc;cases t<;>simp[execOp,this,asBool,hz]
 split at hk
 ·rename_i t va vb hc hx hy
  rcases tu hk with⟨rfl,hk⟩|⟨rfl,hk⟩
  ·exact⟨_,hk,key true x va hc rfl hx⟩
  ·exact⟨_,hk,key false y vb hc rfl hy⟩
 ·rename_i t va hc hx hy
  obtain⟨rfl,hk⟩:=bK hk;exact⟨_,hk,key true x va hc rfl hx⟩
 ·rename_i t vb hc hx hy
  obtain⟨hb,hk⟩:=bK hk;have hb:t=false:=by simpa using hb
  subst hb;exact⟨_,hk,key false y vb hc rfl hy⟩
 ·exact hk.elim
theorem xC{x:Operand}(hk:fo T e h dst (.nilCheck x) K):∃ ws,K ws/\Out P e h ⟨dst,.nilCheck x,ty,pos,after,guard⟩ ws:=by
 simp only[fo]at hk;split at hk;case h_2=>exact hk.elim
 rename_i v hv;have key:(∀ (yv:Option Nat) (L:Loc) (F:Nat->Nat) (w:World) (y:Value),a6 yv L F w v y->(∃ p,y = .pointer (some p))\/(∃ f l,y = .func (.func f) #[] l) \/ ∃ t u,y = .iface t u) ->
   Out P e h ⟨dst,.nilCheck x,ty,pos,after,guard⟩ (a9 dst v):=by
  intro hy;refine bp (o:=⟨dst,.nilCheck x,ty,pos,after,guard⟩) fun cx r m L F st a w he hh hg=>⟨a.eval x,?_,hg.aM (aG he hv)⟩;rcases hy _ _ _ _ _ (hg.aM (aG he hv)) with⟨p,hp⟩|⟨f,l,hp⟩|⟨t,u,hp⟩<;>simp[execOp,hp]
 split at hk
 ·exact⟨_,hk,key fun yv L F w y hy=>by obtain⟨b,off,rfl,_⟩:=hy;exact .inl ⟨_,rfl⟩⟩
 ·exact⟨_,hk,key fun yv L F w y hy=>.inl ⟨_,hy⟩⟩
 ·exact⟨_,hk,key fun yv L F w y hy=>.inl ⟨_,hy⟩⟩
 ·exact⟨_,hk,key fun yv L F w y hy=>by obtain⟨l,rfl,_⟩:=hy;exact .inr (.inl ⟨_,_,rfl⟩)⟩
 ·exact⟨_,hk,key fun yv L F w y hy=>by obtain⟨l,rfl,_⟩:=hy;exact .inr (.inl ⟨_,_,rfl⟩)⟩
 ·exact⟨_,hk,key fun yv L F w y hy=>by obtain⟨l,rfl,_⟩:=hy;exact .inr (.inr ⟨_,_,rfl⟩)⟩
 ·exact hk.elim
theorem lS{k:IntKind}{n:Int}{K:V->Prop}(h:arith k n K):K (.d (.int k (k.wrap n))):=by cases h;assumption
theorem Fi{op:UnOp}{t:TypeId}{x:Operand}(hk:fo T e h dst (.unOp op t x) K):∃ ws,K ws/\Out P e h ⟨dst,.unOp op t x,ty,pos,after,guard⟩ ws:=by
 simp only[fo]at hk;split at hk
 ·rename_i b hv
  exact⟨_,hk,bp (v:=.d (.bool !b)) (o:=⟨dst,.unOp .not t x,ty,pos,after,guard⟩) fun cx r m L F st a w he hh hg=>⟨.bool !b,by simp[execOp,nR hg he hv,Op.unary],rfl⟩⟩
 ·rename_i k n hv
  exact⟨_,lS hk,bp (v:=.d (.int k (k.wrap (0-n)))) (o:=⟨dst,.unOp .neg t x,ty,pos,after,guard⟩) fun cx r m L F st a w he hh hg=>⟨.int k (k.wrap (0-n)),by simp[execOp,gP hg he hv,Op.unary,Op.intArith],rfl⟩⟩
 ·exact hk.elim
theorem za(hT:bj P T){s d:TypeId}{x:Operand}(hk:fo T e h dst (.convert s d x) K):∃ ws,K ws/\Out P e h ⟨dst,.convert s d x,ty,pos,after,guard⟩ ws:=by
 simp only[fo]at hk;split at hk;case h_2=>exact hk.elim
 rename_i si di v hs hd hv;obtain⟨i,dd,hi,xj,_,_,dC,_⟩:=hT s si hs;obtain⟨j,de,hj,fV,_,_,fj,_⟩:=hT d di hd;split at hk
 ·rename_i k1 k k2 n e1 e2
  rw[e1]at dC;rw[e2]at fj;have e1:=lq dC.symm;have e2:=lq fj.symm;subst e1 e2;exact⟨_,lS hk,bp (v:=.d (.int k (k.wrap n))) (o:=⟨dst,.convert s d x,ty,pos,after,guard⟩) fun cx r m L F st a w he hh hg=>
   ⟨.int k (k.wrap n),by simp[execOp,gP hg he hv,convert,run_underlying xj,run_underlying fV,Conv.intToInt],rfl⟩⟩
 ·rename_i sv e1 e2
  rw[e1]at dC;rw[e2]at fj;have e1:=gT dC.symm;have e2:=gT fj.symm;subst e1 e2;exact⟨_,hk,bp (v:=.d (.str sv)) (o:=⟨dst,.convert s d x,ty,pos,after,guard⟩) fun cx r m L F st a w he hh hg=>
   ⟨.string sv,by simp[execOp,jH hg he hv,convert,run_underlying xj,run_underlying fV],rfl⟩⟩
 ·exact hk.elim
theorem lW{α:Type}{cs:List α}{n:Nat}{K:α->Prop}(h:mX cs n K):∃ v,cs[n]?=some v/\K v:=by
 unfold mX at h;split at h
 ·rename_i v hv;exact⟨v,hv,h⟩
 ·exact h.elim
theorem aY.get{F:Nat->Nat}{w:World}{cs:List D}{l:List Value}(i:Nat){c:D}(h:aY F w cs l)(hi:cs[i]?=some c):∃ x,l[i]?=some x/\bC F w c x:=by
 have:=aq.get (yv:=none) (L:=⟨fun _=>0,fun _=>0⟩) (c:=.d c) i (aq.inj.2 h) (by rw[sX,hi];rfl);exact this
theorem zb{x:Operand}{i:Nat}(hk:fo T e h dst (.extract x i) K):∃ ws,K ws/\Out P e h ⟨dst,.extract x i,ty,pos,after,guard⟩ ws:=by
 simp only[fo]at hk;split at hk
 ·rename_i l hv
  obtain⟨v,hi,hk⟩:=lW hk;refine⟨_,hk,bp (o:=⟨dst,.extract x i,ty,pos,after,guard⟩) fun cx r m L F st a w he hh hg=>?_⟩;obtain⟨vs,cP,hl⟩:=hg.aM (aG he hv);obtain⟨y,hy,yI⟩:=aY.get i hl hi;have mb:vs[i]?=some y:=by simpa using hy
  exact⟨y,by simp[execOp,cP,Instr.extract,mb],yI⟩
 ·rename_i l hv
  obtain⟨v,hi,hk⟩:=lW hk;refine⟨_,hk,bp (o:=⟨dst,.extract x i,ty,pos,after,guard⟩) fun cx r m L F st a w he hh hg=>?_⟩;obtain⟨vs,cP,hl⟩:=hg.aM (aG he hv);obtain⟨y,hy,yI⟩:=aq.get i hl hi;have mb:vs[i]?=some y:=by simpa using hy
  exact⟨y,by simp[execOp,cP,Instr.extract,mb],yI⟩
 ·exact hk.elim
end
theorem w5(b c:ByteArray):(b.toList ==c.toList)=decide (b=c):=by
 rw[<- beq_toListBytes,Bool.eq_iff_iff,decide_eq_true_eq];constructor
 ·intro h
  have h:(b.data ==c.data)=true:=h;cases b;cases c
  simp only[beq_iff_eq]at h;rw[h]
 ·rintro rfl
  show(b.data ==b.data)=true;simp
theorem BN(b c:Int):(b ==c)=decide (b=c):=rfl
theorem xJ{P:Program}{w:World}(b c:ByteArray):(Op.stringOp .eql b c).run P w = .ok (.bool (decide (b=c))) w:=by
 simp[Op.stringOp,w5]
theorem xK{P:Program}{w:World}(b c:ByteArray):(Op.stringOp .neq b c).run P w = .ok (.bool (!decide (b=c))) w:=by
 simp[Op.stringOp,bne,w5]
theorem aY.take{F:Nat->Nat}{w:World}{cs:List D}{l:List Value}(n:Nat)(h:aY F w cs l):aY F w (cs.take n) (l.take n):=by
 have:=aq.take (yv:=none) (L:=⟨fun _=>0,fun _=>0⟩) n (aq.inj.2 h);rw[<- uj]at this;exact aq.inj.1 this
theorem aY.drop{F:Nat->Nat}{w:World}{cs:List D}{l:List Value}(n:Nat)(h:aY F w cs l):aY F w (cs.drop n) (l.drop n):=by
 have:=aq.drop (yv:=none) (L:=⟨fun _=>0,fun _=>0⟩) n (aq.inj.2 h);rw[<- uh]at this;exact aq.inj.1 this
section
variable {P : Program} {T : dM} {F : Nat -> Nat} {w : World}
def mV(T:dM)(F:Nat->Nat)(w:World)(t:TypeId)(xs:List D)(x:Value):Prop:=
 ∀ ti,T.get t=some ti->if ti.isAgg then ∃ l:Array Value,x = .agg l/\aY F w xs l.toList else ∀ c,xs = [c]->bC F w c x
theorem iV(hT:bj P T){t:TypeId}{ti:oQ}(ht:T.get t=some ti){cs:Array Value}{xs:List D}{off:Nat}(hx:aY F w xs cs.toList)(h:off+ti.size<=xs.length)(h1:0<ti.size) :
  ∃ x,(part t cs off).run P w = .ok x w/\mV T F w t ((xs.drop off).take ti.size) x:=by
 unfold part;have hs:=dK (w:=w) hT ht;have hl:cs.size=xs.length:=by simpa using hx.length
 cases hA:ti.isAgg
 ·have eC:off<cs.size:=by omega
  refine⟨cs[off],?_,fun Qw ue=>?_⟩
  ·simp[jB hT ht,hA,eC]
  ·rw[ht]at ue;cases ue
   simp only[hA,Bool.false_eq_true,if_false];intro c hc;have sR:xs[off]?=some c:=by
    have:((xs.drop off).take ti.size)[0]?=some c:=by rw[hc];rfl
    rw[List.getElem?_take_of_lt h1,List.getElem?_drop]at this;simpa using this
   obtain⟨y,hy,hr⟩:=aY.get off hx sR;have:cs[off]=y:=by
    have:=(List.getElem?_eq_some_iff.1 hy).2;simpa using this
   rw[this];exact hr
 ·refine⟨.agg (cs.extract off (off+ti.size)),?_,fun Qw ue=>?_⟩
  ·simp[jB hT ht,hA,hs]
  ·rw[ht]at ue;cases ue
   simp only[hA,if_true];refine⟨_,rfl,?_⟩;have:(cs.extract off (off+ti.size)).toList=(cs.toList.drop off).take ti.size:=by simp[List.extract_eq_take_drop]
   rw[this];exact aY.take _ (aY.drop off hx)
theorem tC(hT:bj P T){eq:TypeId->List D->List D->Option Bool}{N:Nat}
  (heq:∀ (t:TypeId) (xs ys:List D) (r:Bool),eq t xs ys=some r ->
   P.eqGuardType N t=false /\ ∀ (x y:Value),mV T F w t xs x->mV T F w t ys y->(Op.equalIn N t x y).run P w = .ok r w) :
  ∀ (fs : List Field), (∀ f ∈ fs, (f.name == "_") = false) -> ∀ (xs ys : List D) (r : Bool), D9 T eq (fs.map fun f => (f.offset, f.type)) xs ys = some r ->
  (∀ f∈fs,P.eqGuardType N f.type=false) /\ ∀ (lx ly:Array Value),aY F w xs lx.toList->aY F w ys ly.toList->(Op.eqFields N lx ly fs).run P w = .ok r w
 | [],_,xs,ys,r,h=>by
  simp only[List.map_nil,D9,Option.some.injEq]at h;subst h;exact⟨by simp,fun _ _ _ _=>by simp[Op.eqFields]⟩
 | f::fs,pa,xs,ys,r,h=>by
  simp only[List.map_cons,D9]at h;split at h
  ·cases h
  rename_i ti fL;split at h;case h_2=>cases h
  rename_i ni AH EU;have ni:ti.size≠0:=by intro e;rw[e]at ni;simp at ni
  have AH:=lg AH;have EU:=lg EU;split at h
  ·rename_i b c hb sR
   cases h;have h1:=heq f.type _ _ b hb;have h2:=tC hT heq fs (fun g hg=>pa g (List.mem_cons_of_mem _ hg)) xs ys c sR;refine⟨fun g hg=>?_,fun lx ly pE re=>?_⟩
   ·rcases List.mem_cons.1 hg with rfl|hg
    ·exact h1.1
    ·exact h2.1 g hg
   ·obtain⟨x,hx,GU⟩:=iV (F:=F) (w:=w) hT fL pE AH (by omega)
    obtain⟨y,hy,GV⟩:=iV (F:=F) (w:=w) hT fL re EU (by omega)
    have Nm : f.name ≠ "_" := by
     have:=pa f (List.mem_cons_self ..);simpa using this
    simp only[Op.eqFields,Nm,ne_eq,not_false_eq_true,if_true,Sem.run_bind,hx,hy,Result.andThen_ok,h1.2 x y GU GV];cases b
    ·simp
    ·simp[h2.2 lx ly pE re]
  ·cases h
theorem tD(hT:bj P T){e:TypeId}{ei:oQ}(iB:T.get e=some ei)(h0:0<ei.size){eq:List D->List D->Option Bool}{N:Nat}
  (heq:∀ (xs ys:List D) (r:Bool),eq xs ys=some r->P.eqGuardType N e=false /\ ∀ (x y:Value),mV T F w e xs x->mV T F w e ys y->(Op.equalIn N e x y).run P w = .ok r w) :
  ∀ (n i:Nat) (xs ys:List D) (r:Bool) (lx ly:Array Value),aY F w xs lx.toList->aY F w ys ly.toList->Cq eq ei.size n (xs.drop (i*ei.size)) (ys.drop (i*ei.size))=some r ->
   (Op.eqItems N e ei.size lx ly (List.range' i n)).run P w = .ok r w
 | 0,i,xs,ys,r,lx,ly,pE,re,h=>by
  simp only[Cq,Option.some.injEq]at h;subst h;simp[Op.eqItems]
 | n+1,i,xs,ys,r,lx,ly,pE,re,h=>by
  simp only[Cq]at h;split at h;case h_2=>cases h
  rename_i AH EU;have AH:=lg AH;have EU:=lg EU;split at h;case h_2=>cases h
  rename_i a b ha hb;cases h;rw[List.length_drop]at AH EU;obtain⟨x,hx,GU⟩:=iV (F:=F) (w:=w) hT iB pE (off:=i*ei.size) (by omega) h0;obtain⟨y,hy,GV⟩:=iV (F:=F) (w:=w) hT iB re (off:=i*ei.size) (by omega) h0;have h1:=(heq _ _ _ ha).2 x y GU GV;have h2:=tD hT iB h0 heq n (i+1) xs ys b lx ly pE re (by
   have e1:(i+1)*ei.size=i*ei.size+ei.size:=Nat.succ_mul _ _;rw[e1,<- List.drop_drop,<- List.drop_drop];exact hb)
  simp only[List.range'_succ,Op.eqItems,Sem.run_bind,hx,hy,Result.andThen_ok,h1];cases a
  ·simp
  ·simp[h2]
theorem qY(hT:bj P T):∀ (d:Nat) (t:TypeId) (xs ys:List D) (r:Bool),Gn T d t xs ys=some r -> ∀ (N:Nat),d<=N ->
  P.eqGuardType N t=false /\ ∀ (x y:Value),mV T F w t xs x->mV T F w t ys y->(Op.equalIn N t x y).run P w = .ok r w
 | 0,_,_,_,_,h,_,_=>by simp[Gn]at h
 | d+1,t,xs,ys,r,h,0,hN=>by omega
 | d+1,t,xs,ys,r,h,N+1,hN=>by
  simp only[Gn]at h;split at h
  ·cases h
  rename_i ti fL;obtain⟨i,de,hi,fV,_,_,dt,mP,Lk,_⟩:=hT t ti fL;split at h
  ·rename_i hk
   have e:=nY (dt▸hk);subst e;split at h
   ·rename_i b c;cases h
    refine⟨by simp[Program.eqGuardType,fV],fun x y hx hy=>?_⟩;have kl:=hx ti fL;have mb:=hy ti fL;rw[mP]at kl mb;have ex:x = .bool b:=kl _ rfl;have ey:y = .bool c:=mb _ rfl;subst ex ey;exact run_equalIn_bool' w N t b c fV
   ·cases h
  ·rename_i k hk
   have e:=lq (dt▸hk);subst e;split at h
   ·rename_i k1 b k2 c
    split at h
    ·rename_i tY;have tY:=of_decide_eq_true tY;subst tY;cases h
     refine⟨by simp[Program.eqGuardType,fV],fun x y hx hy=>?_⟩;have kl:=hx ti fL;have mb:=hy ti fL;rw[mP]at kl mb;have ex:x = .int k1 b:=kl _ rfl;have ey:y = .int k1 c:=mb _ rfl;subst ex ey;exact run_equalIn_int w N t k1 k b c fV
    ·cases h
   ·cases h
  ·rename_i hk
   have e:=gT (dt▸hk);subst e;split at h
   ·rename_i b c;cases h
    refine⟨by simp[Program.eqGuardType,fV],fun x y hx hy=>?_⟩;have kl:=hx ti fL;have mb:=hy ti fL;rw[mP]at kl mb;have ex:x = .string b:=kl _ rfl;have ey:y = .string c:=mb _ rfl;subst ex ey;rw[run_equalIn_string w N t b c fV,w5]
   ·cases h
  ·rename_i fs hk
   obtain⟨fa,rfl,rfl,pa⟩:=gA (dt▸hk);split at h
   ·cases h
   rename_i ED;have Au:P.stoodInHeld t=false:=(Lk ED).1;have hF:=tC (P:=P) (F:=F) (w:=w) hT (fun t xs ys r h=>qY hT d t xs ys r h N (by omega)) fa.toList pa xs ys r h;refine⟨?_,fun x y hx hy=>?_⟩
   ·simp only[Program.eqGuardType,fV]
    rw[Array.any_eq_false'];intro f hf;have:=hF.1 f (by simpa using hf);simp[this]
   ·have kl:=hx ti fL;have mb:=hy ti fL
    rw[mP]at kl mb;simp only[pL,if_true]at kl mb;obtain⟨lx,rfl,pE⟩:=kl;obtain⟨ly,rfl,re⟩:=mb;have tU:P.fieldsOf t=fa:=by simp[Program.fieldsOf,fV]
    rw[run_equalIn_struct w N t lx ly (by rw[tU];exact fV) Au,tU];exact hF.2 lx ly pE re
  ·rename_i n e hk
   have e':=eT (dt▸hk);subst e';split at h;case h_2=>cases h
   rename_i ei iB;split at h;case h_2=>cases h
   rename_i cU ni;have cU:ei.size≠0:=by intro e;rw[e]at cU;simp at cU
   obtain⟨ie,_,kS,_,ea,_⟩:=hT e ei iB;have K7:P.cellsOf e=ei.size:=by simp[Program.cellsOf,kS,ea]
   have heq:=fun xs ys r h=>qY (xs:=xs) (ys:=ys) (r:=r) hT d e h N (by omega);have hI:=tD (P:=P) (F:=F) (w:=w) (T:=T) hT iB (Nat.pos_of_ne_zero cU) (N:=N) (eq:=fun xs ys=>Gn T d e xs ys) (fun xs ys r h=>heq xs ys r h);refine⟨?_,fun x y hx hy=>?_⟩
   ·simp only[Program.eqGuardType,fV]
    cases n with
    | zero=>simp at ni
    | succ n=>
     simp only[Cq]at h;split at h;case h_2=>cases h
     split at h;case h_2=>cases h
     rename_i a b ha _;exact(heq _ _ _ ha).1
   ·have kl:=hx ti fL;have mb:=hy ti fL
    rw[mP]at kl mb;simp only[pL,if_true]at kl mb;obtain⟨lx,rfl,pE⟩:=kl;obtain⟨ly,rfl,re⟩:=mb;rw[run_equalIn_array w N lx ly fV kS,K7,List.range_eq_range'];exact hI n 0 xs ys r lx ly pE re (by simpa using h)
  ·cases h
theorem D4:9<=P.depth:=by unfold Program.depth Made.depth;omega
theorem kK{op:BinOp}{t:TypeId}{x y:Operand}{u v:Value}(h:∀ l,u ≠ .agg l)(h2:u ≠ .nilIface):(eqGuard op t x y u v).run P w = .ok () w:=by
 have key:∀ (m1:Sem Unit) (m2:Sem Unit),(match u,v with
   | .nilIface,.nilIface=>m1
   | .agg _,.agg _=>m2
   | _,_=>pure ()).run P w = .ok () w:=by
  intro m1 m2;cases u<;>first|exact absurd rfl h2|exact absurd rfl (h _)|(cases v<;>rfl)
 unfold eqGuard;cases op<;>first|(simp;done)|skip
 ·exact key _ _
 ·exact key _ _
end
theorem yQ{P:Program}{T:dM}(hT:bj P T){t:TypeId}(h:isBool T t=true):P.underlying t=some .bool:=by
 unfold isBool at h;split at h
 ·rename_i ti fL
  split at h
  ·rename_i hk
   obtain⟨i,de,hi,fV,_,_,dt,_⟩:=hT t ti fL;rw[hk]at dt;rw[fV,nY dt.symm]
  ·cases h
 ·cases h
theorem AK{T:dM}{t:TypeId}(h:qi T t=true):∃ ti,T.get t=some ti/\((∃ fs,ti.kd = .struct fs) \/ ∃ n e,ti.kd = .array n e):=by
 unfold qi at h;split at h
 ·rename_i ti fL
  split at h
  ·rename_i fs hk;exact⟨ti,fL,.inl ⟨fs,hk⟩⟩
  ·rename_i n e hk;exact⟨ti,fL,.inr ⟨n,e,hk⟩⟩
  ·cases h
 ·cases h
theorem Bo{x:Option Bool}{K:V->Prop}(h:Bn x K):∃ b,x=some b/\K (.d (.bool b)):=by
 unfold Bn at h;split at h
 ·exact⟨_,rfl,h⟩
 ·exact h.elim
theorem Jr{x:Option Bool}{b:Bool}(h:Jq x=some b):∃ c,x=some c/\b = !c:=by
 unfold Jq at h;split at h
 ·cases h;exact⟨_,rfl,rfl⟩
 ·cases h
section
variable {P : Program} {T : dM} {e : Env} {h : av} {dst : Option Nat} {K : List Wr -> Prop} {ty : TypeId} {pos : String} {after : Array Edge} {guard : Option (Nat × Bool)}
theorem C5(hT:bj P T){t:TypeId}(h:isIface T t=true):∃ ms,P.underlying t=some (.interface ms):=by
 unfold isIface at h;split at h;case h_2=>cases h
 rename_i ti ht;split at h;case h_2=>cases h
 rename_i he;obtain⟨_,de,_,fV,_,_,dC,_⟩:=hT t ti ht;rw[he]at dC;obtain⟨ms,rfl⟩:=um dC.symm;exact⟨ms,fV⟩
theorem Fb(hT:bj P T){op:BinOp}{t t':TypeId}{x y:Operand}{u v:V}(hu:aM e x=some u)(hv:aM e y=some v)(hk:Iq T op t u v fun v=>K (a9 dst v)):∃ ws,K ws/\Out P e h ⟨dst,.binOp op t x y t',ty,pos,after,guard⟩ ws:=by
 have fin:∀ (d:D) (hd:K (a9 dst (.d d))),(∀ {σ:Type} (cx:Cx σ) (r:Option Nat) (m:List Nat) (L:Loc) (F:Nat->Nat) (st:St σ) (a:Act) (w:World),cM e st.env->Good cx r m L F st a w ->
   ∃ s,(eqGuard op t x y (a.eval x) (a.eval y)).run P w = .ok () w/\(binOp op t (a.eval x) (a.eval y)).run P w = .ok s w/\bC F w d s) -> ∃ ws,K ws/\Out P e h ⟨dst,.binOp op t x y t',ty,pos,after,guard⟩ ws:=by
  intro d hd hr;refine⟨_,hd,bp (v:=.d d) (o:=⟨dst,.binOp op t x y t',ty,pos,after,guard⟩) fun cx r m L F st a w he hh hg=>?_⟩;obtain⟨s,h1,h2,h3⟩:=hr cx r m L F st a w he hg;exact⟨s,by simp[execOp,h1,h2],h3⟩
 unfold Iq at hk;split at hk
 ·rename_i k b k' c
  have ints:∀ {σ:Type} (cx:Cx σ) (r:Option Nat) (m:List Nat) (L:Loc) (F:Nat->Nat) (st:St σ) (a:Act) (w:World),cM e st.env->Good cx r m L F st a w ->
    a.eval x = .int k b/\a.eval y = .int k' c/\(eqGuard op t x y (a.eval x) (a.eval y)).run P w = .ok () w:=by
   intro σ cx r m L F st a w he hg;have hx:=gP hg he hu;have hy:=gP hg he hv;exact⟨hx,hy,by rw[hx,hy];exact kK (fun l e=>by cases e) (fun e=>by cases e)⟩
  split at hk
  ·obtain⟨hc,hk⟩:=bK hk
   have hc:0<=c:=of_decide_eq_true hc;refine fin _ (lS hk) fun cx r m L F st a w he hg=>?_;obtain⟨hx,hy,h1⟩:=ints cx r m L F st a w he hg;exact⟨_,h1,by rw[hx,hy];simp[binOp,Op.shift,show ¬ c<0 by omega],rfl⟩
  ·obtain⟨hc,hk⟩:=bK hk
   have hc:0<=c:=of_decide_eq_true hc;refine fin _ hk fun cx r m L F st a w he hg=>?_;obtain⟨hx,hy,h1⟩:=ints cx r m L F st a w he hg;exact⟨_,h1,by rw[hx,hy];simp[binOp,Op.shift,show ¬ c<0 by omega],rfl⟩
  ·split at hk
   case h_2=>exact hk.elim
   rename_i tY;have tY:=of_decide_eq_true tY;subst tY;have:∃ d,K (a9 dst (.d d)) /\ ∀ F w,∃ s,((binOp op t (.int k b) (.int k c)).run P w = .ok s w)/\bC F w d s:=by
    clear ints fin;cases op<;>simp only[Mb]at hk
    case add=>exact⟨_,lS hk,fun F w=>⟨_,by simp[binOp,Op.intArith],rfl⟩⟩
    case sub=>exact⟨_,lS hk,fun F w=>⟨_,by simp[binOp,Op.intArith],rfl⟩⟩
    case mul=>exact⟨_,lS hk,fun F w=>⟨_,by simp[binOp,Op.intArith],rfl⟩⟩
    case quo=>
     obtain⟨hc,hb⟩:=bK hk;have hc:c≠0:=of_decide_eq_true hc;exact⟨_,lS hb,fun F w=>⟨_,by simp[binOp,Op.intDiv,hc],rfl⟩⟩
    case rem=>
     obtain⟨hc,hb⟩:=bK hk;have hc:c≠0:=of_decide_eq_true hc;exact⟨_,hb,fun F w=>⟨_,by simp[binOp,Op.intDiv,hc],rfl⟩⟩
    case eql=>exact⟨_,hk,fun F w=>⟨.bool (decide (b=c)),by simp[binOp,Op.intCmp,BN],rfl⟩⟩
    case neq=>exact⟨_,hk,fun F w=>⟨.bool (!decide (b=c)),by simp[binOp,Op.intCmp,bne,BN],rfl⟩⟩
    case lss=>exact⟨_,hk,fun F w=>⟨_,by simp[binOp,Op.intCmp],rfl⟩⟩
    case leq=>exact⟨_,hk,fun F w=>⟨_,by simp[binOp,Op.intCmp],rfl⟩⟩
    case gtr=>exact⟨_,hk,fun F w=>⟨_,by simp[binOp,Op.intCmp],rfl⟩⟩
    case geq=>exact⟨_,hk,fun F w=>⟨_,by simp[binOp,Op.intCmp],rfl⟩⟩
    case and=>exact⟨_,hk,fun F w=>⟨_,by simp[binOp,Op.intBits,fb],rfl⟩⟩
    case or=>exact⟨_,hk,fun F w=>⟨_,by simp[binOp,Op.intBits,fb],rfl⟩⟩
    case xor=>exact⟨_,hk,fun F w=>⟨_,by simp[binOp,Op.intBits,fb],rfl⟩⟩
    case andNot=>exact⟨_,hk,fun F w=>⟨_,by simp[binOp,Op.intBits,fb],rfl⟩⟩
    all_goals exact hk.elim
   obtain⟨d,hd,bA⟩:=this;refine fin d hd fun cx r m L F st a w he hg=>?_;obtain⟨hx,hy,h1⟩:=ints cx r m L F st a w he hg;obtain⟨s,h2,h3⟩:=bA F w;exact⟨s,h1,by rw[hx,hy];exact h2,h3⟩
 ·rename_i b c
  have HA:∀ {σ:Type} (cx:Cx σ) (r:Option Nat) (m:List Nat) (L:Loc) (F:Nat->Nat) (st:St σ) (a:Act) (w:World),cM e st.env->Good cx r m L F st a w ->
    a.eval x = .bool b/\a.eval y = .bool c/\(eqGuard op t x y (a.eval x) (a.eval y)).run P w = .ok () w:=by
   intro σ cx r m L F st a w he hg;have hx:=nR hg he hu;have hy:=nR hg he hv;exact⟨hx,hy,by rw[hx,hy];exact kK (fun l e=>by cases e) (fun e=>by cases e)⟩
  split at hk
  ·rename_i hb
   have fV:=yQ hT hb;refine fin _ hk fun cx r m L F st a w he hg=>?_;obtain⟨hx,hy,h1⟩:=HA cx r m L F st a w he hg;exact⟨_,h1,by rw[hx,hy];exact run_eql_bool w t b c fV,rfl⟩
  ·rename_i hb
   have fV:=yQ hT hb;refine fin _ hk fun cx r m L F st a w he hg=>?_;obtain⟨hx,hy,h1⟩:=HA cx r m L F st a w he hg;exact⟨_,h1,by rw[hx,hy];exact run_neq_bool w t b c fV,rfl⟩
  ·exact hk.elim
 ·rename_i b c
  have strs:∀ {σ:Type} (cx:Cx σ) (r:Option Nat) (m:List Nat) (L:Loc) (F:Nat->Nat) (st:St σ) (a:Act) (w:World),cM e st.env->Good cx r m L F st a w ->
    a.eval x = .string b/\a.eval y = .string c/\(eqGuard op t x y (a.eval x) (a.eval y)).run P w = .ok () w:=by
   intro σ cx r m L F st a w he hg;have hx:=jH hg he hu;have hy:=jH hg he hv;exact⟨hx,hy,by rw[hx,hy];exact kK (fun l e=>by cases e) (fun e=>by cases e)⟩
  split at hk
  ·refine fin _ hk fun cx r m L F st a w he hg=>?_
   obtain⟨hx,hy,h1⟩:=strs cx r m L F st a w he hg;exact⟨.bool (decide (b=c)),h1,by rw[hx,hy];simpa[binOp]using xJ b c,rfl⟩
  ·refine fin _ hk fun cx r m L F st a w he hg=>?_
   obtain⟨hx,hy,h1⟩:=strs cx r m L F st a w he hg;exact⟨.bool (!decide (b=c)),h1,by rw[hx,hy];simpa[binOp]using xK b c,rfl⟩
  ·obtain⟨cU,hk⟩:=bK hk
   have cU:=of_decide_eq_true cU;refine fin _ hk fun cx r m L F st a w he hg=>?_;obtain⟨hx,hy,h1⟩:=strs cx r m L F st a w he hg;refine⟨.string (b++c),h1,?_,rfl⟩;have PA:IntKind.i64.max=9223372036854775807:=rfl;have GQ:¬ (((b.size+c.size:Nat):Int)>9223372036854775807):=by omega
   rw[hx,hy];show(Op.stringOp .add b c).run P w=_;simp only[Op.stringOp,PA];rw[if_neg GQ];rfl
  ·exact hk.elim
 ·rename_i xs ys
  have key:∀ (b:Bool) (hs:qi T t=true) (JO:Gn T 9 t xs ys=some b) {σ:Type} (cx:Cx σ) (r:Option Nat) (m:List Nat) (L:Loc) (F:Nat->Nat) (st:St σ) (a:Act) (w:World),cM e st.env->Good cx r m L F st a w ->
    ∃ lx ly,a.eval x = .agg lx/\a.eval y = .agg ly/\(eqGuard op t x y (a.eval x) (a.eval y)).run P w = .ok () w/\(Op.equal t (a.eval x) (a.eval y)).run P w = .ok b w:=by
   intro b hs JO σ cx r m L F st a w he hg;obtain⟨lx,hx,pE⟩:=hg.aM (aG he hu);obtain⟨ly,hy,re⟩:=hg.aM (aG he hv);have h9:=qY (P:=P) (F:=F) (w:=w) hT 9 t xs ys b JO;have JR:=(h9 P.depth D4).1;obtain⟨ti,fL,EI⟩:=AK hs;obtain⟨i,de,hi,fV,_,_,dt,mP,_⟩:=hT t ti fL;have mP:ti.isAgg=true:=by
    rw[mP];rcases EI with⟨fs,EI⟩|⟨n,e,EI⟩
    ·rw[EI]at dt
     obtain⟨fa,O9,_⟩:=gA dt.symm;subst O9;rfl
    ·rw[EI]at dt
     have:=eT dt.symm;subst this;rfl
   have sx:∀ (zs:List D) (l:Array Value),aY F w zs l.toList->mV T F w t zs (.agg l):=fun zs l hl Qw ue=>by
    rw[fL]at ue;cases ue;rw[mP];exact⟨l,rfl,hl⟩
   refine⟨lx,ly,hx,hy,?_,?_⟩
   ·rw[hx,hy]
    unfold eqGuard;cases op<;>simp[JR]
   ·rw[hx,hy]
    exact(h9 Op.maxDepth (by decide)).2 _ _ (sx _ _ pE) (sx _ _ re)
  split at hk
  ·rename_i hs
   obtain⟨b,JO,hk⟩:=Bo hk;refine fin _ hk fun cx r m L F st a w he hg=>?_;obtain⟨lx,ly,hx,hy,h1,h2⟩:=key b hs JO cx r m L F st a w he hg;refine⟨.bool b,h1,?_,rfl⟩;rw[hx,hy]at h2 ⊢;simp[binOp,h2]
  ·rename_i hs
   obtain⟨b,JO,hk⟩:=Bo hk;obtain⟨c,OY,rfl⟩:=Jr JO;refine fin _ hk fun cx r m L F st a w he hg=>?_;obtain⟨lx,ly,hx,hy,h1,h2⟩:=key c hs OY cx r m L F st a w he hg;refine⟨.bool !c,h1,?_,rfl⟩;rw[hx,hy]at h2 ⊢;simp[binOp,h2]
  ·exact hk.elim
 ·exact hk.elim
theorem zd(hT:bj P T){op:BinOp}{t t':TypeId}{x y:Operand}{u:D}{b:Bool}(hu:aM e x=some (.d u))(hb:(u = .nili/\b=true)\/(∃ t v,u = .ifc t v)/\b=false)(xo:AJ y=true)(hk:BV T op t b fun v=>K (a9 dst v)) :
  ∃ ws,K ws/\Out P e h ⟨dst,.binOp op t x y t',ty,pos,after,guard⟩ ws:=by
 have hy:y = .const .nilIface:=by
  unfold AJ at xo;split at xo
  ·rfl
  ·cases xo
 subst hy;have key:isIface T t=true -> ∀ {σ:Type} (cx:Cx σ) (r:Option Nat) (m:List Nat) (L:Loc) (F:Nat->Nat) (st:St σ) (a:Act) (w:World),cM e st.env->Good cx r m L F st a w ->
   (eqGuard op t x (.const .nilIface) (a.eval x) .nilIface).run P w = .ok () w/\(Op.equal t (a.eval x) .nilIface).run P w = .ok b w/\((∃ t v,a.eval x = .iface t v)\/a.eval x = .nilIface):=by
  intro I0 σ cx r m L F st a w he hg;have hx:=hg.aM (aG he hu);obtain⟨ms,Rz⟩:=C5 hT I0;have hE:∀ z,Op.equal t z .nilIface=Op.equalIn ((Op.maxDepth-1)+1) t z .nilIface:=fun _=>rfl;rw[hE];generalize Op.maxDepth-1=n;rcases hb with⟨rfl,rfl⟩|⟨⟨t1,v1,rfl⟩,rfl⟩
  ·have hx:a.eval x = .nilIface:=hx
   rw[hx];exact⟨by unfold eqGuard;cases op<;>simp,by simp only[Op.equalIn];simp[run_underlying Rz],.inr rfl⟩
  ·obtain⟨y1,hx,_⟩:=hx
   rw[hx];exact⟨by unfold eqGuard;cases op<;>simp,by simp only[Op.equalIn];simp[run_underlying Rz],.inl ⟨_,_,rfl⟩⟩
 have fin:∀ (c:Bool) (hd:K (a9 dst (.d (.bool c)))) (_:isIface T t=true) (_:∀ (z:Value) (w:World),((∃ t v,z = .iface t v)\/z = .nilIface)->(Op.equal t z .nilIface).run P w = .ok b w->(binOp op t z .nilIface).run P w = .ok (.bool c) w),
   ∃ ws,K ws/\Out P e h ⟨dst,.binOp op t x (.const .nilIface) t',ty,pos,after,guard⟩ ws:=by
  intro c hd I0 hr;refine⟨_,hd,bp (v:=.d (.bool c)) (o:=⟨dst,.binOp op t x (.const .nilIface) t',ty,pos,after,guard⟩) fun cx r m L F st a w he hh hg=>?_⟩;obtain⟨h1,h2,h3⟩:=key I0 cx r m L F st a w he hg;have h4:=hr _ w h3 h2;have hc:a.eval (.const .nilIface) = .nilIface:=rfl;exact⟨_,by simp[execOp,hc,h1,h4],rfl⟩
 unfold BV at hk;split at hk
 ·rename_i I0
  refine fin b hk I0 fun z w hz h2=>?_;rcases hz with⟨t1,v1,rfl⟩|rfl<;>simp[binOp,h2]
 ·rename_i I0
  refine fin (!b) hk I0 fun z w hz h2=>?_;rcases hz with⟨t1,v1,rfl⟩|rfl<;>simp[binOp,h2]
 ·exact hk.elim
theorem Dg(hT:bj P T){op:BinOp}{t t':TypeId}{x y:Operand}(hk:fo T e h dst (.binOp op t x y t') K):∃ ws,K ws/\Out P e h ⟨dst,.binOp op t x y t',ty,pos,after,guard⟩ ws:=by
 simp only[fo]at hk;split at hk;case h_2=>exact hk.elim
 rename_i u v hu hv;split at hk
 ·rename_i hn
  exact zd hT hu (.inl ⟨rfl,rfl⟩) hn hk
 ·rename_i hn
  exact zd hT hu (.inr ⟨⟨_,_,rfl⟩,rfl⟩) hn hk
 ·exact Fb hT hu hv hk
end
end Go.PX
