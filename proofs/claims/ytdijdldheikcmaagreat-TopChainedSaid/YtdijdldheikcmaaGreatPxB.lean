import Derived.Test.YtdijdldheikcmaaGreatPxA
import Derived.ProofKit
import Derived.ChangeKeysEq
set_option linter.all false
namespace Go.PX
open Go.RowKit
theorem eM{α:Type}(t:sV α)(s:Nat)(v:α)(x:Nat):get ((s,v)::t) x=if x=s then some v else get t x:=by
 by_cases h:x=s
 ·subst h;simp[get]
 ·have:Nat.beq s x=false:=by rw[Bool.eq_false_iff];intro e;exact h (Nat.eq_of_beq_eq_true e).symm
  simp[get,this,h]
theorem dt{α:Type}(t:sV α)(s:Nat)(v:α)(x:Nat):get (put t s v) x=if x=s then some v else get t x:=by
 induction t with
 | nil=>
  simp only[put,get];by_cases h:x=s
  ·subst h;simp
  ·have:Nat.beq s x=false:=by rw[Bool.eq_false_iff];intro e;exact h (Nat.eq_of_beq_eq_true e).symm
   simp[this,h]
 | cons kv r ih=>
  obtain⟨k,u⟩:=kv;simp only[put]
  cases hk:Nat.beq k s with
  | true=>
   have:=Nat.eq_of_beq_eq_true hk;subst this;simp only[get];by_cases h:x=k
   ·subst h;simp
   ·have:Nat.beq k x=false:=by rw[Bool.eq_false_iff];intro e;exact h (Nat.eq_of_beq_eq_true e).symm
    simp[this,h]
  | false=>
   simp only[get]
   cases hx:Nat.beq k x with
   | true=>
    have:=Nat.eq_of_beq_eq_true hx;subst this;have:k≠s:=by rintro rfl;simp at hk
    simp[this]
   | false=>exact ih
theorem dz{α:Type}(t:sV α)(s:Nat)(x:Nat):get (cut t s) x=if x=s then none else get t x:=by
 induction t with
 | nil=>simp[cut,get]
 | cons kv r ih=>
  obtain⟨k,u⟩:=kv;simp only[cut]
  cases hk:Nat.beq k s with
  | true=>
   have:=Nat.eq_of_beq_eq_true hk;subst this;rw[ih];by_cases h:x=k
   ·simp[h]
   ·have:Nat.beq k x=false:=by rw[Bool.eq_false_iff];intro e;exact h (Nat.eq_of_beq_eq_true e).symm
    simp[h,get,this]
  | false=>
   simp only[get]
   cases hx:Nat.beq k x with
   | true=>
    have:=Nat.eq_of_beq_eq_true hx;subst this;have:k≠s:=by rintro rfl;simp at hk
    simp[this]
   | false=>exact ih
theorem bC{α β:Type}(f:α->β)(t:sV α)(x:Nat):get (cj f t) x=(get t x).map f:=by
 induction t with
 | nil=>rfl
 | cons kv r ih=>
  obtain⟨k,u⟩:=kv;simp only[cj,get]
  cases hx:Nat.beq k x with
  | true=>rfl
  | false=>exact ih
theorem aN.length{F:Nat->Nat}{w:World}:∀ {cs:List D} {l:List Value},aN F w cs l->l.length=cs.length
 | [],_,h=>by simp[show _ = [] from h]
 | _::_,_,h=>by
  obtain⟨x,l',rfl,_,hl⟩:=h;simp[aN.length hl]
theorem ak.length{yv:Option Nat}{L:Loc}{F:Nat->Nat}{w:World}:∀ {cs:List V} {l:List Value},ak yv L F w cs l->l.length=cs.length
 | [],_,h=>by simp[show _ = [] from h]
 | _::_,_,h=>by
  obtain⟨x,l',rfl,_,hl⟩:=h;simp[ak.length hl]
section
variable {yv : Option Nat} {L : Loc} {F : Nat -> Nat} {w : World}
theorem ak.inj:∀ {cs:List D} {l:List Value},ak yv L F w (inj cs) l↔aN F w cs l
 | [],l=>by simp[PX.inj,ak,aN]
 | c::r,l=>by
  simp only[PX.inj,ak,aN];constructor
  ·rintro ⟨x,l',rfl,hc,hl⟩;exact⟨x,l',rfl,hc,ak.inj.1 hl⟩
  ·rintro ⟨x,l',rfl,hc,hl⟩;exact⟨x,l',rfl,hc,ak.inj.2 hl⟩
theorem ak.get:∀ {cs:List V} {l:List Value} (i:Nat) {c:V},ak yv L F w cs l->cs[i]?=some c -> ∃ x,l[i]?=some x/\aR yv L F w c x
 | [],_,i,c,_,hi=>by simp at hi
 | d::r,_,0,c,h,hi=>by
  obtain⟨x,l',rfl,hc,hl⟩:=h;simp at hi;subst hi;exact⟨x,by simp,hc⟩
 | d::r,_,i+1,c,h,hi=>by
  obtain⟨x,l',rfl,hc,hl⟩:=h;simpa using ak.get i hl (by simpa using hi)
theorem ak.iL:∀ {cs:List V} {l:List Value},l.length=cs.length->(∀ (i:Nat) (c:V),cs[i]?=some c -> ∃ x,l[i]?=some x/\aR yv L F w c x)->ak yv L F w cs l
 | [],l,hl,_=>(List.length_eq_zero_iff.1 (by simpa using hl):l = [])
 | c::r,[],hl,_=>by simp at hl
 | c::r,x::l,hl,h=>by
  refine⟨x,l,rfl,?_,ak.iL (by simpa using hl) fun i d hd=>by simpa using h (i+1) d (by simpa using hd)⟩;obtain⟨y,hy,hr⟩:=h 0 c (by simp);simp at hy;exact hy▸hr
theorem ak.append:∀ {cs ds:List V} {l k:List Value},ak yv L F w cs l->ak yv L F w ds k->ak yv L F w (cs++ds) (l++k)
 | [],_,_,_,h,k=>by simpa[show _ = [] from h]using k
 | c::r,ds,_,m,h,k=>by
  obtain⟨x,l',rfl,hc,hl⟩:=h;exact⟨x,l'++m,by simp,hc,ak.append hl k⟩
theorem ak.take{cs:List V}{l:List Value}(n:Nat)(h:ak yv L F w cs l):ak yv L F w (cs.take n) (l.take n):=
 .iL (by simp[h.length]) fun i c hc=>by
  rw[List.getElem?_take]at hc ⊢;split at hc
  ·rename_i hi;simp only[hi,if_true];exact h.get i hc
  ·simp at hc
theorem ak.drop{cs:List V}{l:List Value}(n:Nat)(h:ak yv L F w cs l):ak yv L F w (cs.drop n) (l.drop n):=
 .iL (by simp[h.length]) fun i c hc=>by
  rw[List.getElem?_drop]at hc ⊢;exact h.get _ hc
theorem tO(l:List D)(n:Nat):inj (l.take n)=(inj l).take n:=by
 induction l generalizing n with
 | nil=>simp[inj]
 | cons c r ih=>cases n<;>simp[inj,ih]
theorem tN(l:List D)(n:Nat):inj (l.drop n)=(inj l).drop n:=by
 induction l generalizing n with
 | nil=>simp[inj]
 | cons c r ih=>cases n<;>simp[inj,ih]
theorem lU(l m:List D):inj (l++m)=inj l++inj m:=by
 induction l with
 | nil=>rfl
 | cons c r ih=>simp[inj,ih]
theorem dK(l:List D):(inj l).length=l.length:=by
 induction l with
 | nil=>rfl
 | cons c r ih=>simp[inj,ih]
theorem sC(l:List D)(i:Nat):(inj l)[i]?=(l[i]?).map .d:=by
 induction l generalizing i with
 | nil=>simp[inj]
 | cons c r ih=>cases i<;>simp[inj,ih]
theorem cn(l:List (List D)):cw l=l.map inj:=by
 induction l with
 | nil=>rfl
 | cons c r ih=>simp[cw,ih]
mutual
def fx:V->Nat->Prop
 | .agg cs,i=>bt cs i
 | .tup cs,i=>bt cs i
 | .clo _ cs,i=>bt cs i
 | .ptr j _,i=>j=i
 | .ep j _ _ _,i=>j=i
 | .sl j _ _ _,i=>j=i
 | .mp j,i=>j=i
 | .it j,i=>j=i
 | _,_=>False
def bt:List V->Nat->Prop
 | [],_=>False
 | v::r,i=>fx v i\/bt r i
end
end
mutual
theorem aR.mono{yv:Option Nat}{L L':Loc}{F F':Nat->Nat}{w w':World}(h:Tr F w F' w'):∀ (v:V) (x:Value),(∀ i,fx v i->L'.ρ i=L.ρ i/\L'.κ i=L.κ i)->aR yv L F w v x->aR yv L' F' w' v x
 | .d v,_,_,hr=>bq.mono h v _ hr
 | .agg cs,_,hn,hr=>by
  obtain⟨l,rfl,hl⟩:=hr;exact⟨l,rfl,ak.mono h cs _ hn hl⟩
 | .tup cs,_,hn,hr=>by
  obtain⟨l,rfl,hl⟩:=hr;exact⟨l,rfl,ak.mono h cs _ hn hl⟩
 | .ptr id off,x,hn,hr=>by
  have hr:x = .pointer (some ⟨L.ρ id,off,none⟩):=hr;show x = .pointer (some ⟨L'.ρ id,off,none⟩);rw[(hn id rfl).1];exact hr
 | .ep id sz i off,x,hn,hr=>by
  have hr:x = .pointer (some ⟨L.ρ id,i*sz+off,none⟩):=hr;show x = .pointer (some ⟨L'.ρ id,i*sz+off,none⟩);rw[(hn id rfl).1];exact hr
 | .sl id sz off len,_,hn,hr=>by
  obtain⟨a,cap,rfl,hl,hs,hc⟩:=hr;refine⟨a,cap,rfl,hl,hs,?_⟩;rw[(hn id rfl).1,(hn id rfl).2];exact hc
 | .mp id,x,hn,hr=>by
  have hr:x = .map (some (L.ρ id)):=hr;show x = .map (some (L'.ρ id));rw[(hn id rfl).1];exact hr
 | .it id,x,hn,hr=>by
  have hr:x = .pointer (some ⟨L.ρ id,0,none⟩):=hr;show x = .pointer (some ⟨L'.ρ id,0,none⟩);rw[(hn id rfl).1];exact hr
 | .clo f cs,_,hn,hr=>by
  obtain⟨l,rfl,hl⟩:=hr;exact⟨l,rfl,ak.mono h cs _ hn hl⟩
 | .yld,_,_,hr=>hr
 | .unk,_,_,hr=>hr
theorem ak.mono{yv:Option Nat}{L L':Loc}{F F':Nat->Nat}{w w':World}(h:Tr F w F' w'):∀ (vs:List V) (l:List Value),(∀ i,bt vs i->L'.ρ i=L.ρ i/\L'.κ i=L.κ i)->ak yv L F w vs l->ak yv L' F' w' vs l
 | [],_,_,hr=>hr
 | v::r,_,hn,hr=>by
  obtain⟨x,l',rfl,hv,hl⟩:=hr;exact⟨x,l',rfl,aR.mono h v x (fun i hi=>hn i (.inl hi)) hv,ak.mono h r l' (fun i hi=>hn i (.inr hi)) hl⟩
end
mutual
theorem aR.kill{yv:Option Nat}{L:Loc}{F:Nat->Nat}{w:World}(id:Nat):∀ (v:V) (x:Value),aR yv L F w v x->aR yv L F w (aB (aU id) v) x
 | .d v,_,hr=>hr
 | .agg cs,_,hr=>by
  obtain⟨l,rfl,hl⟩:=hr;exact⟨l,rfl,ak.kill id cs _ hl⟩
 | .tup cs,_,hr=>by
  obtain⟨l,rfl,hl⟩:=hr;exact⟨l,rfl,ak.kill id cs _ hl⟩
 | .ptr i off,x,hr=>by
  have BV:x = .pointer (some ⟨L.ρ i,off,none⟩):=hr;simp only[aB,aU,kB];cases Nat.beq i id
  ·exact hr
  ·subst BV;exact rfl
 | .ep i sz j off,x,hr=>by
  have BV:x = .pointer (some ⟨L.ρ i,j*sz+off,none⟩):=hr;simp only[aB,aU,kB];cases Nat.beq i id
  ·exact hr
  ·subst BV;exact rfl
 | .sl i sz off len,x,hr=>by
  simp only[aB,aU,kB];cases Nat.beq i id
  ·exact hr
  ·obtain⟨a,cap,rfl,_⟩:=hr;exact rfl
 | .mp i,x,hr=>by
  have BV:x = .map (some (L.ρ i)):=hr;simp only[aB,aU,kB];cases Nat.beq i id
  ·exact hr
  ·subst BV;exact rfl
 | .it i,x,hr=>by
  have BV:x = .pointer (some ⟨L.ρ i,0,none⟩):=hr;simp only[aB,aU,kB];cases Nat.beq i id
  ·exact hr
  ·subst BV;exact rfl
 | .clo f cs,_,hr=>by
  obtain⟨l,rfl,hl⟩:=hr;exact⟨l,rfl,ak.kill id cs _ hl⟩
 | .yld,_,hr=>hr
 | .unk,_,hr=>hr
theorem ak.kill{yv:Option Nat}{L:Loc}{F:Nat->Nat}{w:World}(id:Nat):∀ (vs:List V) (l:List Value),ak yv L F w vs l->ak yv L F w (cr (aU id) vs) l
 | [],_,hr=>hr
 | v::r,_,hr=>by
  obtain⟨x,l',rfl,hv,hl⟩:=hr;exact⟨x,l',rfl,aR.kill id v x hv,ak.kill id r l' hl⟩
end
mutual
theorem jH(id:Nat):∀ (v:V),¬ fx (aB (aU id) v) id
 | .d _=>fun h=>h
 | .agg cs=>e5 id cs
 | .tup cs=>e5 id cs
 | .clo _ cs=>e5 id cs
 | .ptr i off=>by
  simp only[aB,aU,kB];cases h:Nat.beq i id
  ·intro hn;have:i=id:=hn;subst this;simp at h
  ·exact fun h=>h
 | .ep i sz j off=>by
  simp only[aB,aU,kB];cases h:Nat.beq i id
  ·intro hn;have:i=id:=hn;subst this;simp at h
  ·exact fun h=>h
 | .sl i sz off len=>by
  simp only[aB,aU,kB];cases h:Nat.beq i id
  ·intro hn;have:i=id:=hn;subst this;simp at h
  ·exact fun h=>h
 | .mp i=>by
  simp only[aB,aU,kB];cases h:Nat.beq i id
  ·intro hn;have:i=id:=hn;subst this;simp at h
  ·exact fun h=>h
 | .it i=>by
  simp only[aB,aU,kB];cases h:Nat.beq i id
  ·intro hn;have:i=id:=hn;subst this;simp at h
  ·exact fun h=>h
 | .yld=>fun h=>h
 | .unk=>fun h=>h
theorem e5(id:Nat):∀ (vs:List V),¬ bt (cr (aU id) vs) id
 | []=>fun h=>h
 | v::r=>fun h=>h.elim (jH id v) (e5 id r)
end
def jG:Obj->Nat->Prop
 | .box c,i=>bt c.a5 i
 | .arr _ es,i=>bt es.a5.flatten i
 | .mit v _ _ _,i=>fx v i
 | .tb _ l,i=>bt l i
 | _,_=>False
theorem u9(f:V->V)(a b:List V):cr f (a++b)=cr f a++cr f b:=by
 induction a with
 | nil=>rfl
 | cons x r ih=>simp[cr,ih]
theorem ez(f:V->V)(a:List (List V)):(cG f a).flatten=cr f a.flatten:=by
 induction a with
 | nil=>rfl
 | cons x r ih=>simp[cG,u9,ih]
theorem ik(f:V->V)(a:List V):(cr f a).length=a.length:=by
 induction a with
 | nil=>rfl
 | cons x r ih=>simp[cr,ih]
theorem eZ(f:V->V)(a:List (List V)):(cG f a).length=a.length:=by
 induction a with
 | nil=>rfl
 | cons x r ih=>simp[cG,ih]
theorem rK(f:V->V)(a:List (List V))(e:List V)(h:e∈cG f a):∃ e0∈a,e=cr f e0:=by
 induction a with
 | nil=>cases h
 | cons x r ih=>
  simp only[cG,List.mem_cons]at h;rcases h with rfl|h
  ·exact⟨x,by simp,rfl⟩
  ·obtain⟨e0,h0,rfl⟩:=ih h;exact⟨e0,by simp[h0],rfl⟩
theorem AM(f:V->V)(l:List D):cr f (inj l)=inj l:=by
 induction l with
 | nil=>rfl
 | cons x r ih=>simp[inj,cr,aB,ih]
theorem dF(l:List D)(i:Nat):¬ bt (inj l) i:=by
 induction l with
 | nil=>exact fun h=>h
 | cons x r ih=>exact fun h=>h.elim (fun h=>h) ih
theorem mX(a b:List V)(i:Nat):bt (a++b) i↔bt a i\/bt b i:=by
 induction a with
 | nil=>simp[bt]
 | cons x r ih=>simp[bt,ih,or_assoc]
theorem bE.kill{yv:Option Nat}{L:Loc}{F:Nat->Nat}{w:World}(k id:Nat)(o:Obj)(h:bE yv L F w id o):bE yv L F w id (Obj.aB (aU k) o):=by
 cases o with
 | box c=>
  cases c with
  | dd l=>exact h
  | vv l=>
   obtain⟨c,T,hc,hr⟩:=h;exact⟨c,T,hc,ak.kill k _ _ hr⟩
 | arr sz es=>
  cases es with
  | dd l=>exact h
  | vv l=>
   obtain⟨hs,hl,h⟩:=h;refine⟨hs,?_,?_⟩
   ·intro e he
    obtain⟨e0,h0,rfl⟩:=rK _ _ _ he;rw[ik];exact hl e0 h0
   ·rcases h with⟨h,hk⟩|⟨c,T,hc,hk,hn,hr⟩
    ·left
     have h:l = []:=h;subst h;exact⟨rfl,hk⟩
    ·right
     refine⟨c,T,hc,hk,?_,?_⟩
     ·show(cG _ l).length*sz<=_
      rw[eZ];exact hn
     ·show ak yv L F w (cG _ l).flatten (c.toList.take ((cG _ l).length*sz))
      rw[eZ,ez];exact ak.kill k _ _ hr
 | map bT=>exact h
 | iter s n=>exact h
 | buf t s=>exact h
 | tb t l=>
  obtain⟨c,hc,hr⟩:=h;exact⟨c,hc,ak.kill k _ _ hr⟩
 | mit v n l u=>
  obtain⟨r,seen,h1,h2⟩:=h;exact⟨r,seen,aR.kill k v _ h1,h2⟩
theorem mW(k:Nat)(o:Obj):¬ jG (Obj.aB (aU k) o) k:=by
 cases o with
 | box c=>
  cases c with
  | dd l=>exact dF l k
  | vv l=>exact e5 k l
 | arr sz es=>
  cases es with
  | dd l=>
   show ¬ bt (cw l).flatten k
   induction l with
   | nil=>exact fun h=>h
   | cons x r ih=>
    simp only[cw,List.flatten_cons,mX];exact fun h=>h.elim (dF x k) ih
  | vv l=>
   show ¬ bt (cG _ l).flatten k;rw[ez];exact e5 k _
 | map bT=>exact fun h=>h
 | iter s n=>exact fun h=>h
 | buf t s=>exact fun h=>h
 | tb t l=>exact e5 k l
 | mit v n l u=>exact jH k v
theorem df(L:Loc)(k id:Nat)(o:Obj):aG L id (Obj.aB (aU k) o)↔aG L id o:=by
 cases o with
 | box c=>cases c<;>exact Iff.rfl
 | arr sz es=>cases es<;>exact Iff.rfl
 | map bT=>exact Iff.rfl
 | iter s n=>exact Iff.rfl
 | buf t s=>exact Iff.rfl
 | tb t l=>exact Iff.rfl
 | mit v n l u=>exact Iff.rfl
theorem bE.mono{yv:Option Nat}{L L':Loc}{F F':Nat->Nat}{w w':World}(h:Tr F w F' w')(id:Nat)(o:Obj)(hn:∀ i,jG o i->L'.ρ i=L.ρ i/\L'.κ i=L.κ i)
  (hL:L'.ρ id=L.ρ id/\L'.κ id=L.κ id) (hb:aG L id o->w'.heap[L.ρ id]?=w.heap[L.ρ id]?) (hr:bE yv L F w id o):bE yv L' F' w' id o:=by
 cases o with
 | box c=>
  obtain⟨c',T,hc,hr⟩:=hr;exact⟨c',T,by rw[hL.1,hb trivial];exact hc,ak.mono h _ _ hn hr⟩
 | arr sz es=>
  obtain⟨hs,hl,hr⟩:=hr;refine⟨hs,hl,?_⟩;rcases hr with⟨he,hk⟩|⟨c,T,hc,hk,u1,hr⟩
  ·exact .inl ⟨he,by rw[hL.2];exact hk⟩
  ·by_cases hz:L.κ id=0
   ·left
    refine⟨?_,by rw[hL.2];exact hz⟩;rw[hk,hz]at u1;have:es.a5.length=0:=by
     rcases Nat.eq_zero_or_pos es.a5.length with h0|h0
     ·exact h0
     ·have:=Nat.mul_pos h0 hs;omega
    exact List.length_eq_zero_iff.1 this
   ·right
    exact⟨c,T,by rw[hL.1,hb hz];exact hc,by rw[hL.2];exact hk,u1,ak.mono h _ _ hn hr⟩
 | map bT=>
  obtain⟨en,c,hc,hr⟩:=hr;exact⟨en,c,by rw[hL.1,hb trivial];exact hc,bs.mono h _ _ hr.1,hr.2⟩
 | iter s n=>
  show w'.heap[L'.ρ id]?=_;rw[hL.1,hb trivial];exact hr
 | buf t s=>
  obtain⟨c,h1,h2,h3⟩:=hr;exact⟨c,by rw[hL.1,hb trivial];exact h1,by rw[hL.2];exact h2,h3⟩
 | tb t l=>
  obtain⟨c,hc,hr⟩:=hr;exact⟨c,by rw[hL.1,hb trivial];exact hc,ak.mono h _ _ hn hr⟩
 | mit v n l u=>
  obtain⟨r,seen,h1,h2,h3⟩:=hr;exact⟨r,seen,aR.mono h v _ hn h1,by rw[hL.1,hb trivial];exact h2,h3⟩
theorem bA{w:World}{b:Nat}{o:Go.Obj}(h:w.heap[b]?=some o):b<w.heap.size:=(Array.getElem?_eq_some_iff.1 h).1
theorem jg{w w':World}{b o:Nat}(h:w'.heap[b]?=w.heap[b]?):w'.cell? ⟨b,o,none⟩=w.cell? ⟨b,o,none⟩:=by
 simp[World.cell?,h]
theorem bE.lt{yv:Option Nat}{L:Loc}{F:Nat->Nat}{w:World}{id:Nat}{o:Obj}(h:bE yv L F w id o)(hb:aG L id o):L.ρ id<w.heap.size:=by
 cases o with
 | box c=>obtain⟨c',T,hc,_⟩:=h;exact bA hc
 | arr sz es=>
  obtain⟨_,_,h⟩:=h;rcases h with⟨_,hk⟩|⟨c,T,hc,_⟩
  ·exact absurd hk hb
  ·exact bA hc
 | map bT=>obtain⟨en,c,hc,_⟩:=h;exact bA hc
 | iter s n=>exact bA (show w.heap[L.ρ id]?=_ from h)
 | buf t s=>obtain⟨c,h1,_⟩:=h;exact bA h1
 | tb t l=>obtain⟨c,h1,_⟩:=h;exact bA h1
 | mit v n l u=>obtain⟨r,seen,_,h2,_⟩:=h;exact bA h2
theorem Tr.gM{F F':Nat->Nat}{w w':World}(ho:w'.os=w.os)(ht:w'.tape=w.tape)(hu:w'.output=w.output)(hs:w.heap.size<=w'.heap.size)(hle:∀ b,F b<=F' b)
    (tF:∀ b,w.heap.size<=b->F b=0) (hk:∀ b,b<w.heap.size->0<F b->w'.heap[b]?=w.heap[b]?):Tr F w F' w':=
  ⟨ho,ht,hu,hs,hle,
   fun b o h=>by
    rcases Nat.lt_or_ge b w.heap.size with hb|hb
    · exact jg (hk b hb (by omega))
    · rw[tF b hb]at h;omega,
   fun b e c h hm=>by rw[hk b (bA hm) h];exact hm⟩
theorem Tr.alloc{F:Nat->Nat}{w:World}(tF:∀ b,w.heap.size<=b->F b=0)(o:Go.Obj):Tr F w F (w.alloc o):=
 .gM rfl rfl rfl (by simp) (fun _=>Nat.le_refl _) tF fun b hb _=>heap_alloc_old _ _ _ hb
theorem Tr.drew{F:Nat->Nat}{w:World}(n:Nat):Tr F w F { w with drawn:=n }:=
 ⟨rfl,rfl,rfl,Nat.le_refl _,fun _=>Nat.le_refl _,fun _ _ _=>rfl,fun _ _ _ _ h=>h⟩
section
variable {σ : Type} {cx : Cx σ} {r : Option Nat} {m : List Nat} {L : Loc} {F : Nat -> Nat} {st : St σ} {a : Act} {w : World}
theorem ba.same{h:ar}{s:σ}(hh:ba cx L F h s w){w':World}(he:w'.heap=w.heap)(ho:w'.os=w.os)(ht:w'.tape=w.tape)(hu:w'.output=w.output):ba cx L F h s w':=by
 have tr:Tr F w F w':=⟨ho,ht,hu,by rw[he];exact Nat.le_refl _,fun _=>Nat.le_refl _,fun b o _=>jg (by rw[he]),fun b e c _ hm=>by rw[he];exact hm⟩;refine⟨cx.ff hh.hg (.gM ho ht hu (by rw[he];exact Nat.le_refl _) (fun _=>Nat.le_refl _) hh.fresh fun b _ _=>by rw[he]) (fun b hb=>hh.fresh b (by rw[<- he];exact hb)) fun b _=>⟨by rw[he],rfl⟩,fun b hb=>by rw[he];exact hh.kq b hb,fun b hb=>hh.fresh b (by rw[<- he];exact hb),?_,hh.own,hh.inj⟩;intro id o hg;exact bE.mono tr id o (fun _ _=>⟨rfl,rfl⟩) ⟨rfl,rfl⟩ (fun _=>by rw[he]) (hh.obj id o hg)
theorem Good.same(hh:Good cx r m L F st a w){w':World}(he:w'.heap=w.heap)(ho:w'.os=w.os)(ht:w'.tape=w.tape)(hu:w'.output=w.output):Good cx r m L F st a w':=by
 have tr:Tr F w F w':=⟨ho,ht,hu,by rw[he];exact Nat.le_refl _,fun _=>Nat.le_refl _,fun b o _=>jg (by rw[he]),fun b e c _ hm=>by rw[he];exact hm⟩;refine⟨hh.heap.same he ho ht hu,?_,hh.w8,fun b hb=>by rw[he];exact hh.qB b hb,hh.ye,fun l hl=>by rw[he];exact hh.lk l hl,hh.mB,hh.wE⟩;intro s v hs;obtain⟨x,hx,hr⟩:=hh.env s v hs;exact⟨x,hx,aR.mono tr v x (fun _ _=>⟨rfl,rfl⟩) hr⟩
theorem Good.dH(hh:Good cx r m L F st a w){d:Nat}(hd:d<a.tmps.size):¬ pinned d:=fun h=>by
 have:=hh.wE;unfold pinned at h;omega
theorem Good.set(hh:Good cx r m L F st a w){d:Nat}{v:V}{x:Value}(hd:d<a.tmps.size)(hv:aR cx.yv L F w v x) :
  Good cx r m L F ⟨put st.env d v,st.heap,st.s⟩ (a.put (some d) x) w:=by
 refine⟨hh.heap,?_,hh.w8,hh.qB,hh.ye,hh.lk,hh.mB,by simpa[Act.put]using hh.wE⟩;intro s u hs;simp only[dt]at hs;simp only[Act.put];split at hs
 ·rename_i e
  cases hs;subst e
  exact⟨x,by simp[Array.getElem?_setIfInBounds,hd],hv⟩
 ·rename_i e
  obtain⟨y,hy,hr⟩:=hh.env s u hs;exact⟨y,by rw[Array.getElem?_setIfInBounds_ne (Ne.symm e)];exact hy,hr⟩
theorem Good.aS(hh:Good cx r m L F st a w){d:Option Nat}{v:V}{x:Value}(hd:∀ k,d=some k->k<a.tmps.size)(hv:aR cx.yv L F w v x) :
  Good cx r m L F (aH st (aS d v)) (a.put d x) w:=by
 cases d with
 | none=>exact hh
 | some d=>exact hh.set (hd d rfl) hv
theorem Good.sub(hh:Good cx r m L F st a w){e:Env}{h:ar}(he:cP e st.env)(hs:cP h st.heap):Good cx r m L F ⟨e,h,st.s⟩ a w:=
 ⟨⟨hh.heap.hg,hh.heap.kq,hh.heap.fresh,fun id o hg=>hh.heap.obj id o (hs id o hg),fun id o hg=>hh.heap.own id o (hs id o hg),
  fun i j o p hi hj=>hh.heap.inj i j o p (hs i o hi) (hs j p hj)⟩,fun s v hg=>hh.env s v (he s v hg),hh.w8,hh.qB,hh.ye,hh.lk,hh.mB,hh.wE⟩
theorem Good.new(hh:Good cx r m L F st a w)(id n:Nat)(o:Obj)(b:Go.Obj)(eb:¬ pinned id)
  (ho:bE cx.yv ⟨fun i=>if i=id then w.heap.size else L.ρ i,fun i=>if i=id then n else L.κ i⟩ F (w.alloc b) id o) :
  Good cx r m ⟨fun i=>if i=id then w.heap.size else L.ρ i,fun i=>if i=id then n else L.κ i⟩ F (br st (.new id o)) a (w.alloc b):=by
 have tr:Tr F w F (w.alloc b):=Tr.alloc hh.heap.fresh b;have hC:∀ c,cx.C st.s c->(w.alloc b).heap[c]?=w.heap[c]?:=fun c hc=>heap_alloc_old _ _ _ (hh.heap.kq c hc);have hg:∀ i o',get (br st (.new id o)).heap i=some o'->(i=id/\o'=o)\/(i≠id /\ ∃ o0,get st.heap i=some o0/\o'=Obj.aB (aU id) o0):=by
  intro i o' hi;simp only[br,eM,dt,bC,dz]at hi;split at hi
  ·rename_i e;left;exact⟨e,by cases hi;rfl⟩
  ·rename_i e
   right;refine⟨e,?_⟩
   cases h0:get st.heap i with
   | none=>simp[h0]at hi
   | some o0=>simp[h0]at hi;exact⟨o0,rfl,hi.symm⟩
 refine⟨⟨cx.ff hh.heap.hg tr (fun c hc=>hh.heap.fresh c (by simp at hc;omega)) fun c hc=>⟨hC c hc,rfl⟩,fun c hc=>?_,fun c hc=>hh.heap.fresh c (by simp at hc;omega),?_,?_,?_⟩,?_,hh.w8,?_,hh.ye,?_,fun i hi=>?_,hh.wE⟩
 ·have:=hh.heap.kq c hc;simp;omega
 ·intro i o' hi
  rcases hg i o' hi with⟨rfl,rfl⟩|⟨eX,o0,h0,rfl⟩
  ·exact ho
  ·refine bE.mono tr i _ (fun j hj=>?_) ⟨by simp[eX],by simp[eX]⟩ (fun hb=>heap_alloc_old _ _ _ ?_) (bE.kill id i o0 (hh.heap.obj i o0 h0))
   ·have:j≠id:=by rintro rfl;exact mW j o0 hj
    simp[this]
   ·exact(hh.heap.obj i o0 h0).lt ((df L id i o0).1 hb)
 ·intro i o' hi hb
  rcases hg i o' hi with⟨rfl,rfl⟩|⟨eX,o0,h0,rfl⟩
  ·simp only[if_true]
   refine⟨hh.heap.fresh _ (Nat.le_refl _),fun hc=>?_⟩;have:=hh.heap.kq _ hc;omega
  ·simp only[eX,if_false]
   have ky:aG L i o0:=by
    have:=(df _ id i o0).1 hb;cases o0<;>simp_all[aG]
   exact hh.heap.own i o0 h0 ky
 ·intro i j o' p hi hj nZ kL e
  have key:∀ i o',get (br st (.new id o)).heap i=some o'->i≠id->aG ⟨fun i=>if i=id then w.heap.size else L.ρ i,fun i=>if i=id then n else L.κ i⟩ i o' -> ∃ o0,get st.heap i=some o0/\aG L i o0:=by
   intro i o' hi eX hb;rcases hg i o' hi with⟨rfl,rfl⟩|⟨_,o0,h0,rfl⟩
   ·exact absurd rfl eX
   ·refine⟨o0,h0,?_⟩
    have:=(df _ id i o0).1 hb;cases o0<;>simp_all[aG]
  by_cases kA:i=id<;>by_cases CU:j=id
  ·rw[kA,CU]
  ·exfalso
   obtain⟨p0,xz,CP⟩:=key j p hj CU kL;have:=(hh.heap.obj j p0 xz).lt CP;simp[kA,CU]at e;omega
  ·exfalso
   obtain⟨p0,xz,CP⟩:=key i o' hi kA nZ;have:=(hh.heap.obj i p0 xz).lt CP;simp[kA,CU]at e;omega
  ·obtain⟨o0,Ts,rE⟩:=key i o' hi kA nZ
   obtain⟨p0,xz,CP⟩:=key j p hj CU kL;simp only[kA,CU,if_false]at e;exact hh.heap.inj i j o0 p0 Ts xz rE CP e
 ·intro s v hs
  simp only[br,bC]at hs
  cases h0:get st.env s with
  | none=>simp[h0]at hs
  | some v0=>
   simp[h0]at hs;subst hs;obtain⟨x,hx,hr⟩:=hh.env s v0 h0;refine⟨x,hx,aR.mono tr _ x (fun j hj=>?_) (aR.kill id v0 x hr)⟩;have:j≠id:=by rintro rfl;exact jH j v0 hj
   simp[this]
 ·intro b' ky
  exact⟨by rw[heap_alloc_old _ _ _ (bA (hh.qB b' ky).1)];exact(hh.qB b' ky).1,(hh.qB b' ky).2⟩
 ·intro l hl
  obtain⟨lp,uT⟩:=hh.lk l hl;exact⟨lp,⟨by rw[heap_alloc_old _ _ _ (bA uT.1.1)];exact uT.1.1,uT.1.2⟩,uT.2⟩
 ·have:i≠id:=by rintro rfl;exact eb hi
  simp only[this,if_false];exact hh.mB i hi
theorem Good.jI(hh:Good cx r m L F st a w)(id sz:Nat)(eb:¬ pinned id)(hs:0<sz)(es:aI)(he:es.a5 = []) :
  Good cx r m ⟨L.ρ,fun i=>if i=id then 0 else L.κ i⟩ F (br st (.new id (.arr sz es))) a w:=by
 have tr:Tr F w F w:=Tr.refl F w;have hg:∀ i o',get (br st (.new id (.arr sz es))).heap i=some o'->(i=id/\o' = .arr sz es)\/(i≠id /\ ∃ o0,get st.heap i=some o0/\o'=Obj.aB (aU id) o0):=by
  intro i o' hi;simp only[br,eM,dt,bC,dz]at hi;split at hi
  ·rename_i e;left;exact⟨e,by cases hi;rfl⟩
  ·rename_i e
   right;refine⟨e,?_⟩
   cases h0:get st.heap i with
   | none=>simp[h0]at hi
   | some o0=>simp[h0]at hi;exact⟨o0,rfl,hi.symm⟩
 have key:∀ i o',get (br st (.new id (.arr sz es))).heap i=some o'->aG ⟨L.ρ,fun i=>if i=id then 0 else L.κ i⟩ i o'->i≠id /\ ∃ o0,get st.heap i=some o0/\aG L i o0:=by
  intro i o' hi hb;rcases hg i o' hi with⟨rfl,rfl⟩|⟨eX,o0,h0,rfl⟩
  ·simp[aG]at hb
  ·refine⟨eX,o0,h0,?_⟩
   have:=(df _ id i o0).1 hb;cases o0<;>simp_all[aG]
 refine⟨⟨hh.heap.hg,hh.heap.kq,hh.heap.fresh,?_,?_,?_⟩,?_,hh.w8,hh.qB,hh.ye,hh.lk,fun i hi=>⟨(hh.mB i hi).1,by
  have:i≠id:=by rintro rfl;exact eb hi
  simp only[this,if_false];exact(hh.mB i hi).2⟩,hh.wE⟩
 ·intro i o' hi
  rcases hg i o' hi with⟨rfl,rfl⟩|⟨eX,o0,h0,rfl⟩
  ·exact⟨hs,(by intro e h;rw[he]at h;cases h),.inl ⟨he,(by simp)⟩⟩
  ·refine bE.mono (L:=L) tr i _ (fun j hj=>?_) ⟨rfl,by simp[eX]⟩ (fun _=>rfl) (bE.kill id i o0 (hh.heap.obj i o0 h0))
   have:j≠id:=by rintro rfl;exact mW j o0 hj
   simp[this]
 ·intro i o' hi hb
  obtain⟨_,o0,h0,rE⟩:=key i o' hi hb;exact hh.heap.own i o0 h0 rE
 ·intro i j o' p hi hj nZ kL e
  obtain⟨_,o0,Ts,rE⟩:=key i o' hi nZ;obtain⟨_,p0,xz,CP⟩:=key j p hj kL;exact hh.heap.inj i j o0 p0 Ts xz rE CP e
 ·intro s v hs
  simp only[br,bC]at hs
  cases h0:get st.env s with
  | none=>simp[h0]at hs
  | some v0=>
   simp[h0]at hs;subst hs;obtain⟨x,hx,hr⟩:=hh.env s v0 h0;refine⟨x,hx,aR.mono tr _ x (fun j hj=>?_) (aR.kill id v0 x hr)⟩;have:j≠id:=by rintro rfl;exact jH j v0 hj
   simp[this]
theorem Good.del(hh:Good cx r m L F st a w)(id:Nat):Good cx r m L F (br st (.del id)) a w:=
 hh.sub (fun _ _ h=>h) fun i o h=>by
  simp only[br,dz]at h;split at h
  ·cases h
  ·exact h
theorem Good.obj(hh:Good cx r m L F st a w){id:Nat}{o0 o:Obj}(h0:get st.heap id=some o0)(rE:aG L id o0){w':World}
  (PO:w'.os=w.os) (ht:w'.tape=w.tape) (hu:w'.output=w.output) (cM:w'.heap.size=w.heap.size) (hk:∀ b,b≠L.ρ id->w'.heap[b]?=w.heap[b]?)
  (vR:∀ ds,w.heap[L.ρ id]?≠some (.deferred ds)) (iZ:∀ lp,w.heap[L.ρ id]?≠some (.loop lp))
  (ho:bE cx.yv L F w' id o):Good cx r m L F (br st (.obj id o)) a w'/\Tr F w F w':=by
 obtain⟨hF,Kq⟩:=hh.heap.own id o0 h0 rE;have tr:Tr F w F w':=.gM PO ht hu (by omega) (fun _=>Nat.le_refl _) hh.heap.fresh fun b _ Us=>hk b (by rintro rfl;omega);have hC:∀ c,cx.C st.s c->w'.heap[c]?=w.heap[c]?:=fun c hc=>hk c (by rintro rfl;exact Kq hc);have hg:∀ i o',get (br st (.obj id o)).heap i=some o'->(i=id/\o'=o)\/(i≠id/\get st.heap i=some o'):=by
  intro i o' hi;simp only[br,dt]at hi;split at hi
  ·rename_i e;left;exact⟨e,by cases hi;rfl⟩
  ·rename_i e;exact .inr ⟨e,hi⟩
 have kW:∀ i o',get (br st (.obj id o)).heap i=some o'->aG L i o' -> ∃ o1,get st.heap i=some o1/\aG L i o1:=by
  intro i o' hi hb;rcases hg i o' hi with⟨rfl,rfl⟩|⟨_,h⟩
  ·exact⟨o0,h0,rE⟩
  ·exact⟨o',h,hb⟩
 refine⟨⟨⟨cx.ff hh.heap.hg tr (fun c hc=>hh.heap.fresh c (by omega)) fun c hc=>⟨hC c hc,rfl⟩,fun c hc=>by rw[cM];exact hh.heap.kq c hc,fun c hc=>hh.heap.fresh c (by omega),?_,?_,?_⟩,?_,hh.w8,?_,hh.ye,?_,hh.mB,hh.wE⟩,tr⟩
 ·intro i o' hi
  rcases hg i o' hi with⟨rfl,rfl⟩|⟨eX,h⟩
  ·exact ho
  ·refine bE.mono tr i o' (fun _ _=>⟨rfl,rfl⟩) ⟨rfl,rfl⟩ (fun hb=>hk _ fun e=>eX (hh.heap.inj i id o' o0 h h0 hb rE e)) (hh.heap.obj i o' h)
 ·intro i o' hi hb
  obtain⟨o1,h1,nY⟩:=kW i o' hi hb;exact hh.heap.own i o1 h1 nY
 ·intro i j o' p hi hj nZ kL e
  obtain⟨o1,h1,nY⟩:=kW i o' hi nZ;obtain⟨o2,h2,uR⟩:=kW j p hj kL;exact hh.heap.inj i j o1 o2 h1 h2 nY uR e
 ·intro s v hs
  obtain⟨x,hx,hr⟩:=hh.env s v hs;exact⟨x,hx,aR.mono tr v x (fun _ _=>⟨rfl,rfl⟩) hr⟩
 ·intro b hb
  have:=(hh.qB b hb).1;exact⟨by rw[hk b (by rintro rfl;exact vR _ this)];exact this,(hh.qB b hb).2⟩
 ·intro l hl
  obtain⟨lp,uT⟩:=hh.lk l hl;exact⟨lp,⟨by rw[hk l (by rintro rfl;exact iZ _ uT.1.1)];exact uT.1.1,uT.1.2⟩,uT.2⟩
end
end Go.PX
namespace Go.PX
open Go.RowKit
theorem ko{F:Nat->Nat}{w:World}{v:Value}{a:D}(h:jK v=some a):bq F w a v:=by
 unfold jK at h;split at h<;>cases h<;>rfl
theorem iG{F:Nat->Nat}{w:World}:∀ {l:List Value} {as:List D},gp l=some as->aN F w as l
 | [],as,h=>by simp[gp]at h;subst h;rfl
 | v::r,as,h=>by
  simp only[gp]at h;split at h
  ·rename_i a l' ha iF
   cases h;exact⟨v,r,rfl,ko ha,iG iF⟩
  ·cases h
theorem lD{F:Nat->Nat}{w:World}{v:Value}{a:D}(h:ofConst v=some a):bq F w a v:=by
 unfold ofConst at h;split at h
 ·rename_i cs
  cases hs:gp cs.toList with
  | none=>rw[hs]at h;cases h
  | some l=>rw[hs]at h;cases h;exact⟨cs,rfl,iG hs⟩
 ·rename_i cs
  split at h
  ·rename_i h0
   cases h;exact⟨cs,rfl,h0⟩
  ·cases h
 ·exact ko h
def hO(d:TypeDesc):Kd:=
 match d with
 | .bool=>.bool
 | .int k=>.int k
 | .string=>.str
 | .slice e=>.slice e
 | .struct fs => if fs.any (fun f => f.name == "_") then .other else .struct (fs.toList.map fun f => (f.offset, f.type))
 | .array n e=>.array n e
 | .map k e=>.map k e
 | .interface _=>.iface
 | _=>.other
def px(d:TypeDesc):Bool:=
 match d with
 | .struct _=>true
 | .array _ _=>true
 | _=>false
def zeroCells(v:Value):Option (List D):=
 match ofConst v with
 | some (.agg l)=>some l
 | some (.tup _)=>none
 | some v=>some [v]
 | none=>none
def Cs(v:Value):Bool:=
 match ofConst v with
 | some (.agg _)=>true
 | _=>false
def aY(P:Program)(T:dJ):Prop:=
 ∀ t ti,T.get t=some ti -> ∃ i d,P.info? t=some i/\P.underlying t=some d/\ti.size=i.size/\ti.bytes=i.bytes/\ti.kd=hO d/\ti.isAgg=px d /\
  (ti.held=false->P.stoodInHeld t=false /\ ∀ k,ti.kd = .int k->i.comparable=true)/\(∀ z,ti.zero=some z -> ∃ zv,i.zero=some zv/\zeroCells zv=some z/\Cs zv=ti.isAgg)
theorem tQ{d:TypeDesc}(h:hO d = .iface):∃ ms,d = .interface ms:=by
 unfold hO at h;split at h<;>first|exact⟨_,rfl⟩|(split at h<;>cases h)|cases h
theorem dL{d:TypeDesc}{e:TypeId}(h:hO d = .slice e):d = .slice e:=by
 unfold hO at h;split at h<;>first|(cases h;rfl)|(split at h<;>cases h)|cases h
theorem gJ{d:TypeDesc}(h:hO d = .str):d = .string:=by
 unfold hO at h;split at h<;>first|rfl|(split at h<;>cases h)|cases h
theorem kY{d:TypeDesc}{k:IntKind}(h:hO d = .int k):d = .int k:=by
 unfold hO at h;split at h<;>first|(cases h;rfl)|(split at h<;>cases h)|cases h
theorem ny{d:TypeDesc}(h:hO d = .bool):d = .bool:=by
 unfold hO at h;split at h<;>first|rfl|(split at h<;>cases h)|cases h
theorem er{d:TypeDesc}{n:Nat}{e:TypeId}(h:hO d = .array n e):d = .array n e:=by
 unfold hO at h;split at h<;>first|(cases h;rfl)|(split at h<;>cases h)|cases h
theorem pZ{d:TypeDesc}{k e:TypeId}(h:hO d = .map k e):d = .map k e:=by
 unfold hO at h;split at h<;>first|(cases h;rfl)|(split at h<;>cases h)|cases h
theorem gh{d:TypeDesc}{fs:List (Nat×TypeId)}(h:hO d = .struct fs) :
  ∃ fa : Array Field, d = .struct fa /\ fs = fa.toList.map (fun f => (f.offset, f.type)) /\ ∀ f ∈ fa.toList, (f.name == "_") = false := by
 unfold hO at h;split at h<;>first|cases h|skip
 rename_i fa;split at h
 ·cases h
 ·rename_i hn
  cases h;refine⟨fa,rfl,rfl,fun f hf=>?_⟩
  have u1 : fa.any (fun f => f.name == "_") = false := by simpa using hn
  rw[Array.any_eq_false']at u1;simpa using u1 f (by simpa using hf)
section
variable {P : Program} {T : dJ} {w : World}
theorem jk(hT:aY P T){t:TypeId}{ti:nQ}(h:T.get t=some ti):(isAgg t).run P w = .ok ti.isAgg w:=by
 obtain⟨i,d,hi,hd,cM,BR,da,mF,Oa,hz⟩:=hT t ti h;unfold isAgg;rw[mF];cases d<;>simp[run_underlying hd,px]
theorem dp(hT:aY P T){t:TypeId}{ti:nQ}(h:T.get t=some ti):(sizeOf t).run P w = .ok ti.size w:=by
 obtain⟨i,d,hi,hd,cM,BR,da,mF,Oa,hz⟩:=hT t ti h;simp[sizeOf,typeInfo,hi,cM]
end
theorem bw{b:Bool}{K:Prop}(h:eG b K):b=true/\K:=by
 cases b
 ·exact h.elim
 ·exact⟨rfl,h⟩
theorem s8{b:Bool}{X Y:Prop}(h:Iu b X Y):(b=true/\X)\/(b=false/\Y):=by
 cases b
 ·exact .inr ⟨rfl,h⟩
 ·exact .inl ⟨rfl,h⟩
theorem kO{n m:Nat}(h:Nat.ble n m=true):n<=m:=Nat.le_of_ble_eq_true h
theorem cT{n m:Nat}(h:Nat.beq n m=true):n=m:=Nat.eq_of_beq_eq_true h
theorem ua{n m:Nat}(h:(!Nat.beq n m)=true):n≠m:=by
 intro e;subst e;simp at h
section
variable {σ : Type} {cx : Cx σ} {r : Option Nat} {m : List Nat} {L : Loc} {F : Nat -> Nat} {st : St σ} {a : Act} {w : World}
theorem az{e e':Env}(hs:cP e e'){x:Operand}{v:V}(hx:aD e x=some v):aD e' x=some v:=by
 cases x with
 | tmp t=>exact hs t v hx
 | const c=>exact hx
 | func f=>exact hx
 | global g=>exact hx
theorem jj{e e':Env}(hs:cP e e'):∀ {l:List Operand} {vs:List V},cI e l=some vs->cI e' l=some vs
 | [],vs,h=>h
 | x::r,vs,h=>by
  simp only[cI]at h ⊢
  cases hx:aD e x with
  | none=>simp[hx]at h
  | some v=>
   cases hr:cI e r with
   | none=>simp[hx,hr]at h
   | some l=>simp[hx,hr]at h;simp[az hs hx,jj hs hr,h]
theorem Good.aD(h:Good cx r m L F st a w){x:Operand}{v:V}(hx:PX.aD st.env x=some v):aR cx.yv L F w v (a.eval x):=by
 cases x with
 | tmp t=>
  obtain⟨y,hy,hr⟩:=h.env t v hx;simpa[Act.eval,hy]using hr
 | const c=>
  simp only[PX.aD]at hx;split at hx
  ·rename_i v' hv;cases hx;exact lD hv
  ·cases hx
 | func f=>
  simp only[PX.aD,Option.some.injEq]at hx;subst hx;exact⟨#[],rfl,rfl⟩
 | global g=>simp[PX.aD]at hx
theorem Good.cI(h:Good cx r m L F st a w):∀ {l:List Operand} {vs:List V},PX.cI st.env l=some vs->ak cx.yv L F w vs (l.map a.eval)
 | [],vs,hx=>by simp[PX.cI]at hx;subst hx;rfl
 | x::r,vs,hx=>by
  simp only[PX.cI]at hx
  cases hv:PX.aD st.env x with
  | none=>simp[hv]at hx
  | some v=>
   cases hr:PX.cI st.env r with
   | none=>simp[hv,hr]at hx
   | some l=>simp[hv,hr]at hx;subst hx;exact⟨_,_,rfl,h.aD hv,h.cI hr⟩
end
theorem a6{P:Program}{e:Env}{h:ar}{o:Oper}{v:V}
  (hr:∀ {σ:Type} (cx:Cx σ) (r:Option Nat) (m:List Nat) (L:Loc) (F:Nat->Nat) (st:St σ) (a:Act) (w:World),cP e st.env->cP h st.heap->Good cx r m L F st a w ->
   ∃ x,(execOp a.eval o).run P w = .ok (.value x) w/\aR cx.yv L F w v x):Out P e h o (aS o.dst v):=by
 intro σ cx r m L F st a w he hh hg hd;obtain⟨x,hx,hv⟩:=hr cx r m L F st a w he hh hg;exact⟨x,w,_,hx,.inl rfl,L,F,hg.aS hd hv,Tr.refl F w⟩
section
variable {P : Program} {T : dJ} {e : Env} {h : ar} {dst : Option Nat} {K : List Wr -> Prop} {ty : TypeId} {pos : String} {after : Array Edge} {guard : Option (Nat × Bool)}
theorem Fq{x:Operand}(hk:eS T e h dst (.move x) K):∃ ws,K ws/\Out P e h ⟨dst,.move x,ty,pos,after,guard⟩ ws:=by
 simp only[eS]at hk;split at hk
 ·rename_i v hv
  exact⟨_,hk,a6 (o:=⟨dst,.move x,ty,pos,after,guard⟩) fun cx r m L F st a w he hh hg=>⟨_,by simp[execOp],hg.aD (az he hv)⟩⟩
 ·exact hk.elim
theorem AV{x:Operand}(hk:eS T e h dst (.assign x) K):∃ ws,K ws/\Out P e h ⟨dst,.assign x,ty,pos,after,guard⟩ ws:=by
 simp only[eS]at hk;split at hk
 ·rename_i v hv
  exact⟨_,hk,a6 (o:=⟨dst,.assign x,ty,pos,after,guard⟩) fun cx r m L F st a w he hh hg=>⟨_,by simp[execOp],hg.aD (az he hv)⟩⟩
 ·exact hk.elim
theorem nu{σ:Type}{cx:Cx σ}{r:Option Nat}{m:List Nat}{L:Loc}{F:Nat->Nat}{st:St σ}{a:Act}{w:World}(hg:Good cx r m L F st a w){x:Operand}{b:Bool}
  (he:cP e st.env) (hx:aD e x=some (.d (.bool b))):a.eval x = .bool b:=hg.aD (az he hx)
theorem gB{σ:Type}{cx:Cx σ}{r:Option Nat}{m:List Nat}{L:Loc}{F:Nat->Nat}{st:St σ}{a:Act}{w:World}(hg:Good cx r m L F st a w){x:Operand}{k:IntKind}{n:Int}
  (he:cP e st.env) (hx:aD e x=some (.d (.int k n))):a.eval x = .int k n:=hg.aD (az he hx)
theorem jx{σ:Type}{cx:Cx σ}{r:Option Nat}{m:List Nat}{L:Loc}{F:Nat->Nat}{st:St σ}{a:Act}{w:World}(hg:Good cx r m L F st a w){x:Operand}{s:ByteArray}
  (he:cP e st.env) (hx:aD e x=some (.d (.str s))):a.eval x = .string s:=hg.aD (az he hx)
theorem Fu{c x y:Operand}(hk:eS T e h dst (.pick c x y) K):∃ ws,K ws/\Out P e h ⟨dst,.pick c x y,ty,pos,after,guard⟩ ws:=by
 simp only[eS]at hk;have key:∀ (t:Bool) (z:Operand) (v:V),aD e c=some (.d (.bool t))->z=(if t then x else y)->aD e z=some v->Out P e h ⟨dst,.pick c x y,ty,pos,after,guard⟩ (aS dst v):=by
  intro t z v hc hz hv;refine a6 (o:=⟨dst,.pick c x y,ty,pos,after,guard⟩) fun cx r m L F st a w he hh hg=>⟨a.eval z,?_,hg.aD (az he hv)⟩;have:=nu hg he hc;cases t<;>simp[execOp,this,asBool,hz]
 split at hk
 ·rename_i t va vb hc hx hy
  rcases s8 hk with⟨rfl,hk⟩|⟨rfl,hk⟩
  ·exact⟨_,hk,key true x va hc rfl hx⟩
  ·exact⟨_,hk,key false y vb hc rfl hy⟩
 ·rename_i t va hc hx hy
  obtain⟨rfl,hk⟩:=bw hk;exact⟨_,hk,key true x va hc rfl hx⟩
 ·rename_i t vb hc hx hy
  obtain⟨hb,hk⟩:=bw hk;have hb:t=false:=by simpa using hb
  subst hb;exact⟨_,hk,key false y vb hc rfl hy⟩
 ·exact hk.elim
theorem xK{x:Operand}(hk:eS T e h dst (.nilCheck x) K):∃ ws,K ws/\Out P e h ⟨dst,.nilCheck x,ty,pos,after,guard⟩ ws:=by
 simp only[eS]at hk;split at hk;case h_2=>exact hk.elim
 rename_i v hv;have key:(∀ (yv:Option Nat) (L:Loc) (F:Nat->Nat) (w:World) (y:Value),aR yv L F w v y->(∃ p,y = .pointer (some p))\/(∃ f l,y = .func (.func f) #[] l) \/ ∃ t u,y = .iface t u) ->
   Out P e h ⟨dst,.nilCheck x,ty,pos,after,guard⟩ (aS dst v):=by
  intro hy;refine a6 (o:=⟨dst,.nilCheck x,ty,pos,after,guard⟩) fun cx r m L F st a w he hh hg=>⟨a.eval x,?_,hg.aD (az he hv)⟩;rcases hy _ _ _ _ _ (hg.aD (az he hv)) with⟨p,hp⟩|⟨f,l,hp⟩|⟨t,u,hp⟩<;>simp[execOp,hp]
 split at hk
 ·exact⟨_,hk,key fun yv L F w y hy=>by obtain⟨b,off,rfl,_⟩:=hy;exact .inl ⟨_,rfl⟩⟩
 ·exact⟨_,hk,key fun yv L F w y hy=>.inl ⟨_,hy⟩⟩
 ·exact⟨_,hk,key fun yv L F w y hy=>.inl ⟨_,hy⟩⟩
 ·exact⟨_,hk,key fun yv L F w y hy=>by obtain⟨l,rfl,_⟩:=hy;exact .inr (.inl ⟨_,_,rfl⟩)⟩
 ·exact⟨_,hk,key fun yv L F w y hy=>by obtain⟨l,rfl,_⟩:=hy;exact .inr (.inl ⟨_,_,rfl⟩)⟩
 ·exact⟨_,hk,key fun yv L F w y hy=>by obtain⟨l,rfl,_⟩:=hy;exact .inr (.inr ⟨_,_,rfl⟩)⟩
 ·exact hk.elim
theorem lF{k:IntKind}{n:Int}{K:V->Prop}(h:arith k n K):K (.d (.int k (k.wrap n))):=by cases h;assumption
theorem Fv{op:UnOp}{t:TypeId}{x:Operand}(hk:eS T e h dst (.unOp op t x) K):∃ ws,K ws/\Out P e h ⟨dst,.unOp op t x,ty,pos,after,guard⟩ ws:=by
 simp only[eS]at hk;split at hk
 ·rename_i b hv
  exact⟨_,hk,a6 (v:=.d (.bool !b)) (o:=⟨dst,.unOp .not t x,ty,pos,after,guard⟩) fun cx r m L F st a w he hh hg=>⟨.bool !b,by simp[execOp,nu hg he hv,Op.unary],rfl⟩⟩
 ·rename_i k n hv
  exact⟨_,lF hk,a6 (v:=.d (.int k (k.wrap (0-n)))) (o:=⟨dst,.unOp .neg t x,ty,pos,after,guard⟩) fun cx r m L F st a w he hh hg=>⟨.int k (k.wrap (0-n)),by simp[execOp,gB hg he hv,Op.unary,Op.intArith],rfl⟩⟩
 ·exact hk.elim
theorem zt(hT:aY P T){s d:TypeId}{x:Operand}(hk:eS T e h dst (.convert s d x) K):∃ ws,K ws/\Out P e h ⟨dst,.convert s d x,ty,pos,after,guard⟩ ws:=by
 simp only[eS]at hk;split at hk;case h_2=>exact hk.elim
 rename_i si di v hs hd hv;obtain⟨i,dd,hi,tC,_,_,dv,_⟩:=hT s si hs;obtain⟨j,de,hj,fq,_,_,ji,_⟩:=hT d di hd;split at hk
 ·rename_i k1 k k2 n e1 e2
  rw[e1]at dv;rw[e2]at ji;have e1:=kY dv.symm;have e2:=kY ji.symm;subst e1 e2;exact⟨_,lF hk,a6 (v:=.d (.int k (k.wrap n))) (o:=⟨dst,.convert s d x,ty,pos,after,guard⟩) fun cx r m L F st a w he hh hg=>
   ⟨.int k (k.wrap n),by simp[execOp,gB hg he hv,convert,run_underlying tC,run_underlying fq,Conv.intToInt],rfl⟩⟩
 ·rename_i sv e1 e2
  rw[e1]at dv;rw[e2]at ji;have e1:=gJ dv.symm;have e2:=gJ ji.symm;subst e1 e2;exact⟨_,hk,a6 (v:=.d (.str sv)) (o:=⟨dst,.convert s d x,ty,pos,after,guard⟩) fun cx r m L F st a w he hh hg=>
   ⟨.string sv,by simp[execOp,jx hg he hv,convert,run_underlying tC,run_underlying fq],rfl⟩⟩
 ·exact hk.elim
theorem lI{α:Type}{cs:List α}{n:Nat}{K:α->Prop}(h:mM cs n K):∃ v,cs[n]?=some v/\K v:=by
 unfold mM at h;split at h
 ·rename_i v hv;exact⟨v,hv,h⟩
 ·exact h.elim
theorem aN.get{F:Nat->Nat}{w:World}{cs:List D}{l:List Value}(i:Nat){c:D}(h:aN F w cs l)(hi:cs[i]?=some c):∃ x,l[i]?=some x/\bq F w c x:=by
 have:=ak.get (yv:=none) (L:=⟨fun _=>0,fun _=>0⟩) (c:=.d c) i (ak.inj.2 h) (by rw[sC,hi];rfl);exact this
theorem zu{x:Operand}{i:Nat}(hk:eS T e h dst (.extract x i) K):∃ ws,K ws/\Out P e h ⟨dst,.extract x i,ty,pos,after,guard⟩ ws:=by
 simp only[eS]at hk;split at hk
 ·rename_i l hv
  obtain⟨v,hi,hk⟩:=lI hk;refine⟨_,hk,a6 (o:=⟨dst,.extract x i,ty,pos,after,guard⟩) fun cx r m L F st a w he hh hg=>?_⟩;obtain⟨vs,cF,hl⟩:=hg.aD (az he hv);obtain⟨y,hy,y5⟩:=aN.get i hl hi;have lS:vs[i]?=some y:=by simpa using hy
  exact⟨y,by simp[execOp,cF,Instr.extract,lS],y5⟩
 ·rename_i l hv
  obtain⟨v,hi,hk⟩:=lI hk;refine⟨_,hk,a6 (o:=⟨dst,.extract x i,ty,pos,after,guard⟩) fun cx r m L F st a w he hh hg=>?_⟩;obtain⟨vs,cF,hl⟩:=hg.aD (az he hv);obtain⟨y,hy,y5⟩:=ak.get i hl hi;have lS:vs[i]?=some y:=by simpa using hy
  exact⟨y,by simp[execOp,cF,Instr.extract,lS],y5⟩
 ·exact hk.elim
end
theorem wY(b c:ByteArray):(b.toList ==c.toList)=decide (b=c):=by
 rw[<- beq_toListBytes,Bool.eq_iff_iff,decide_eq_true_eq];constructor
 ·intro h
  have h:(b.data ==c.data)=true:=h;cases b;cases c
  simp only[beq_iff_eq]at h;rw[h]
 ·rintro rfl
  show(b.data ==b.data)=true;simp
theorem BZ(b c:Int):(b ==c)=decide (b=c):=rfl
theorem xW{P:Program}{w:World}(b c:ByteArray):(Op.stringOp .eql b c).run P w = .ok (.bool (decide (b=c))) w:=by
 simp[Op.stringOp,wY]
theorem xX{P:Program}{w:World}(b c:ByteArray):(Op.stringOp .neq b c).run P w = .ok (.bool (!decide (b=c))) w:=by
 simp[Op.stringOp,bne,wY]
theorem aN.take{F:Nat->Nat}{w:World}{cs:List D}{l:List Value}(n:Nat)(h:aN F w cs l):aN F w (cs.take n) (l.take n):=by
 have:=ak.take (yv:=none) (L:=⟨fun _=>0,fun _=>0⟩) n (ak.inj.2 h);rw[<- tO]at this;exact ak.inj.1 this
theorem aN.drop{F:Nat->Nat}{w:World}{cs:List D}{l:List Value}(n:Nat)(h:aN F w cs l):aN F w (cs.drop n) (l.drop n):=by
 have:=ak.drop (yv:=none) (L:=⟨fun _=>0,fun _=>0⟩) n (ak.inj.2 h);rw[<- tN]at this;exact ak.inj.1 this
section
variable {P : Program} {T : dJ} {F : Nat -> Nat} {w : World}
def mJ(T:dJ)(F:Nat->Nat)(w:World)(t:TypeId)(xs:List D)(x:Value):Prop:=
 ∀ ti,T.get t=some ti->if ti.isAgg then ∃ l:Array Value,x = .agg l/\aN F w xs l.toList else ∀ c,xs = [c]->bq F w c x
theorem iC(hT:aY P T){t:TypeId}{ti:nQ}(ht:T.get t=some ti){cs:Array Value}{xs:List D}{off:Nat}(hx:aN F w xs cs.toList)(h:off+ti.size<=xs.length)(h1:0<ti.size) :
  ∃ x,(part t cs off).run P w = .ok x w/\mJ T F w t ((xs.drop off).take ti.size) x:=by
 unfold part;have hs:=dp (w:=w) hT ht;have hl:cs.size=xs.length:=by simpa using hx.length
 cases hA:ti.isAgg
 ·have dN:off<cs.size:=by omega
  refine⟨cs[off],?_,fun Ub tL=>?_⟩
  ·simp[jk hT ht,hA,dN]
  ·rw[ht]at tL;cases tL
   simp only[hA,Bool.false_eq_true,if_false];intro c hc;have qP:xs[off]?=some c:=by
    have:((xs.drop off).take ti.size)[0]?=some c:=by rw[hc];rfl
    rw[List.getElem?_take_of_lt h1,List.getElem?_drop]at this;simpa using this
   obtain⟨y,hy,hr⟩:=aN.get off hx qP;have:cs[off]=y:=by
    have:=(List.getElem?_eq_some_iff.1 hy).2;simpa using this
   rw[this];exact hr
 ·refine⟨.agg (cs.extract off (off+ti.size)),?_,fun Ub tL=>?_⟩
  ·simp[jk hT ht,hA,hs]
  ·rw[ht]at tL;cases tL
   simp only[hA,if_true];refine⟨_,rfl,?_⟩;have:(cs.extract off (off+ti.size)).toList=(cs.toList.drop off).take ti.size:=by simp[List.extract_eq_take_drop]
   rw[this];exact aN.take _ (aN.drop off hx)
theorem td(hT:aY P T){eq:TypeId->List D->List D->Option Bool}{N:Nat}
  (heq:∀ (t:TypeId) (xs ys:List D) (r:Bool),eq t xs ys=some r ->
   P.eqGuardType N t=false /\ ∀ (x y:Value),mJ T F w t xs x->mJ T F w t ys y->(Op.equalIn N t x y).run P w = .ok r w) :
  ∀ (fs : List Field), (∀ f ∈ fs, (f.name == "_") = false) -> ∀ (xs ys : List D) (r : Bool), Ek T eq (fs.map fun f => (f.offset, f.type)) xs ys = some r ->
  (∀ f∈fs,P.eqGuardType N f.type=false) /\ ∀ (lx ly:Array Value),aN F w xs lx.toList->aN F w ys ly.toList->(Op.eqFields N lx ly fs).run P w = .ok r w
 | [],_,xs,ys,r,h=>by
  simp only[List.map_nil,Ek,Option.some.injEq]at h;subst h;exact⟨by simp,fun _ _ _ _=>by simp[Op.eqFields]⟩
 | f::fs,tI,xs,ys,r,h=>by
  simp only[List.map_cons,Ek]at h;split at h
  ·cases h
  rename_i ti eC;split at h;case h_2=>cases h
  rename_i pg Af E5;have pg:ti.size≠0:=by intro e;rw[e]at pg;simp at pg
  have Af:=kO Af;have E5:=kO E5;split at h
  ·rename_i b c hb qP
   cases h;have h1:=heq f.type _ _ b hb;have h2:=td hT heq fs (fun g hg=>tI g (List.mem_cons_of_mem _ hg)) xs ys c qP;refine⟨fun g hg=>?_,fun lx ly pf qR=>?_⟩
   ·rcases List.mem_cons.1 hg with rfl|hg
    ·exact h1.1
    ·exact h2.1 g hg
   ·obtain⟨x,hx,Hm⟩:=iC (F:=F) (w:=w) hT eC pf Af (by omega)
    obtain⟨y,hy,Hn⟩:=iC (F:=F) (w:=w) hT eC qR E5 (by omega)
    have PM : f.name ≠ "_" := by
     have:=tI f (List.mem_cons_self ..);simpa using this
    simp only[Op.eqFields,PM,ne_eq,not_false_eq_true,if_true,Sem.run_bind,hx,hy,Result.andThen_ok,h1.2 x y Hm Hn];cases b
    ·simp
    ·simp[h2.2 lx ly pf qR]
  ·cases h
theorem te(hT:aY P T){e:TypeId}{ei:nQ}(ic:T.get e=some ei)(h0:0<ei.size){eq:List D->List D->Option Bool}{N:Nat}
  (heq:∀ (xs ys:List D) (r:Bool),eq xs ys=some r->P.eqGuardType N e=false /\ ∀ (x y:Value),mJ T F w e xs x->mJ T F w e ys y->(Op.equalIn N e x y).run P w = .ok r w) :
  ∀ (n i:Nat) (xs ys:List D) (r:Bool) (lx ly:Array Value),aN F w xs lx.toList->aN F w ys ly.toList->CI eq ei.size n (xs.drop (i*ei.size)) (ys.drop (i*ei.size))=some r ->
   (Op.eqItems N e ei.size lx ly (List.range' i n)).run P w = .ok r w
 | 0,i,xs,ys,r,lx,ly,pf,qR,h=>by
  simp only[CI,Option.some.injEq]at h;subst h;simp[Op.eqItems]
 | n+1,i,xs,ys,r,lx,ly,pf,qR,h=>by
  simp only[CI]at h;split at h;case h_2=>cases h
  rename_i Af E5;have Af:=kO Af;have E5:=kO E5;split at h;case h_2=>cases h
  rename_i a b ha hb;cases h;rw[List.length_drop]at Af E5;obtain⟨x,hx,Hm⟩:=iC (F:=F) (w:=w) hT ic pf (off:=i*ei.size) (by omega) h0;obtain⟨y,hy,Hn⟩:=iC (F:=F) (w:=w) hT ic qR (off:=i*ei.size) (by omega) h0;have h1:=(heq _ _ _ ha).2 x y Hm Hn;have h2:=te hT ic h0 heq n (i+1) xs ys b lx ly pf qR (by
   have e1:(i+1)*ei.size=i*ei.size+ei.size:=Nat.succ_mul _ _;rw[e1,<- List.drop_drop,<- List.drop_drop];exact hb)
  simp only[List.range'_succ,Op.eqItems,Sem.run_bind,hx,hy,Result.andThen_ok,h1];cases a
  ·simp
  ·simp[h2]
theorem qK(hT:aY P T):∀ (d:Nat) (t:TypeId) (xs ys:List D) (r:Bool),GJ T d t xs ys=some r -> ∀ (N:Nat),d<=N ->
  P.eqGuardType N t=false /\ ∀ (x y:Value),mJ T F w t xs x->mJ T F w t ys y->(Op.equalIn N t x y).run P w = .ok r w
 | 0,_,_,_,_,h,_,_=>by simp[GJ]at h
 | d+1,t,xs,ys,r,h,0,hN=>by omega
 | d+1,t,xs,ys,r,h,N+1,hN=>by
  simp only[GJ]at h;split at h
  ·cases h
  rename_i ti eC;obtain⟨i,de,hi,fq,_,_,da,mF,Oa,_⟩:=hT t ti eC;split at h
  ·rename_i hk
   have e:=ny (da▸hk);subst e;split at h
   ·rename_i b c;cases h
    refine⟨by simp[Program.eqGuardType,fq],fun x y hx hy=>?_⟩;have jU:=hx ti eC;have lS:=hy ti eC;rw[mF]at jU lS;have ex:x = .bool b:=jU _ rfl;have ey:y = .bool c:=lS _ rfl;subst ex ey;exact run_equalIn_bool' w N t b c fq
   ·cases h
  ·rename_i k hk
   have e:=kY (da▸hk);subst e;split at h
   ·rename_i k1 b k2 c
    split at h
    ·rename_i qQ;have qQ:=of_decide_eq_true qQ;subst qQ;cases h
     refine⟨by simp[Program.eqGuardType,fq],fun x y hx hy=>?_⟩;have jU:=hx ti eC;have lS:=hy ti eC;rw[mF]at jU lS;have ex:x = .int k1 b:=jU _ rfl;have ey:y = .int k1 c:=lS _ rfl;subst ex ey;exact run_equalIn_int w N t k1 k b c fq
    ·cases h
   ·cases h
  ·rename_i hk
   have e:=gJ (da▸hk);subst e;split at h
   ·rename_i b c;cases h
    refine⟨by simp[Program.eqGuardType,fq],fun x y hx hy=>?_⟩;have jU:=hx ti eC;have lS:=hy ti eC;rw[mF]at jU lS;have ex:x = .string b:=jU _ rfl;have ey:y = .string c:=lS _ rfl;subst ex ey;rw[run_equalIn_string w N t b c fq,wY]
   ·cases h
  ·rename_i fs hk
   obtain⟨fa,rfl,rfl,tI⟩:=gh (da▸hk);split at h
   ·cases h
   rename_i EK;have Ax:P.stoodInHeld t=false:=(Oa EK).1;have hF:=td (P:=P) (F:=F) (w:=w) hT (fun t xs ys r h=>qK hT d t xs ys r h N (by omega)) fa.toList tI xs ys r h;refine⟨?_,fun x y hx hy=>?_⟩
   ·simp only[Program.eqGuardType,fq]
    rw[Array.any_eq_false'];intro f hf;have:=hF.1 f (by simpa using hf);simp[this]
   ·have jU:=hx ti eC;have lS:=hy ti eC
    rw[mF]at jU lS;simp only[px,if_true]at jU lS;obtain⟨lx,rfl,pf⟩:=jU;obtain⟨ly,rfl,qR⟩:=lS;have xw:P.fieldsOf t=fa:=by simp[Program.fieldsOf,fq]
    rw[run_equalIn_struct w N t lx ly (by rw[xw];exact fq) Ax,xw];exact hF.2 lx ly pf qR
  ·rename_i n e hk
   have e':=er (da▸hk);subst e';split at h;case h_2=>cases h
   rename_i ei ic;split at h;case h_2=>cases h
   rename_i cM pg;have cM:ei.size≠0:=by intro e;rw[e]at cM;simp at cM
   obtain⟨ie,_,kA,_,dA,_⟩:=hT e ei ic;have N0:P.cellsOf e=ei.size:=by simp[Program.cellsOf,kA,dA]
   have heq:=fun xs ys r h=>qK (xs:=xs) (ys:=ys) (r:=r) hT d e h N (by omega);have hI:=te (P:=P) (F:=F) (w:=w) (T:=T) hT ic (Nat.pos_of_ne_zero cM) (N:=N) (eq:=fun xs ys=>GJ T d e xs ys) (fun xs ys r h=>heq xs ys r h);refine⟨?_,fun x y hx hy=>?_⟩
   ·simp only[Program.eqGuardType,fq]
    cases n with
    | zero=>simp at pg
    | succ n=>
     simp only[CI]at h;split at h;case h_2=>cases h
     split at h;case h_2=>cases h
     rename_i a b ha _;exact(heq _ _ _ ha).1
   ·have jU:=hx ti eC;have lS:=hy ti eC
    rw[mF]at jU lS;simp only[px,if_true]at jU lS;obtain⟨lx,rfl,pf⟩:=jU;obtain⟨ly,rfl,qR⟩:=lS;rw[run_equalIn_array w N lx ly fq kA,N0,List.range_eq_range'];exact hI n 0 xs ys r lx ly pf qR (by simpa using h)
  ·cases h
theorem Eh:9<=P.depth:=by unfold Program.depth Made.depth;omega
theorem ku{op:BinOp}{t:TypeId}{x y:Operand}{u v:Value}(h:∀ l,u ≠ .agg l)(h2:u ≠ .nilIface):(eqGuard op t x y u v).run P w = .ok () w:=by
 have key:∀ (m1:Sem Unit) (m2:Sem Unit),(match u,v with
   | .nilIface,.nilIface=>m1
   | .agg _,.agg _=>m2
   | _,_=>pure ()).run P w = .ok () w:=by
  intro m1 m2;cases u<;>first|exact absurd rfl h2|exact absurd rfl (h _)|(cases v<;>rfl)
 unfold eqGuard;cases op<;>first|(simp;done)|skip
 ·exact key _ _
 ·exact key _ _
end
theorem za{P:Program}{T:dJ}(hT:aY P T){t:TypeId}(h:isBool T t=true):P.underlying t=some .bool:=by
 unfold isBool at h;split at h
 ·rename_i ti eC
  split at h
  ·rename_i hk
   obtain⟨i,de,hi,fq,_,_,da,_⟩:=hT t ti eC;rw[hk]at da;rw[fq,ny da.symm]
  ·cases h
 ·cases h
theorem AJ{T:dJ}{t:TypeId}(h:pY T t=true):∃ ti,T.get t=some ti/\((∃ fs,ti.kd = .struct fs) \/ ∃ n e,ti.kd = .array n e):=by
 unfold pY at h;split at h
 ·rename_i ti eC
  split at h
  ·rename_i fs hk;exact⟨ti,eC,.inl ⟨fs,hk⟩⟩
  ·rename_i n e hk;exact⟨ti,eC,.inr ⟨n,e,hk⟩⟩
  ·cases h
 ·cases h
theorem Bz{x:Option Bool}{K:V->Prop}(h:By x K):∃ b,x=some b/\K (.d (.bool b)):=by
 unfold By at h;split at h
 ·exact⟨_,rfl,h⟩
 ·exact h.elim
theorem KT{x:Option Bool}{b:Bool}(h:KS x=some b):∃ c,x=some c/\b = !c:=by
 unfold KS at h;split at h
 ·cases h;exact⟨_,rfl,rfl⟩
 ·cases h
section
variable {P : Program} {T : dJ} {e : Env} {h : ar} {dst : Option Nat} {K : List Wr -> Prop} {ty : TypeId} {pos : String} {after : Array Edge} {guard : Option (Nat × Bool)}
theorem C6(hT:aY P T){t:TypeId}(h:isIface T t=true):∃ ms,P.underlying t=some (.interface ms):=by
 unfold isIface at h;split at h;case h_2=>cases h
 rename_i ti ht;split at h;case h_2=>cases h
 rename_i he;obtain⟨_,de,_,fq,_,_,dv,_⟩:=hT t ti ht;rw[he]at dv;obtain⟨ms,rfl⟩:=tQ dv.symm;exact⟨ms,fq⟩
theorem Fm(hT:aY P T){op:BinOp}{t t':TypeId}{x y:Operand}{u v:V}(hu:aD e x=some u)(hv:aD e y=some v)(hk:Jn T op t u v fun v=>K (aS dst v)):∃ ws,K ws/\Out P e h ⟨dst,.binOp op t x y t',ty,pos,after,guard⟩ ws:=by
 have fin:∀ (d:D) (hd:K (aS dst (.d d))),(∀ {σ:Type} (cx:Cx σ) (r:Option Nat) (m:List Nat) (L:Loc) (F:Nat->Nat) (st:St σ) (a:Act) (w:World),cP e st.env->Good cx r m L F st a w ->
   ∃ s,(eqGuard op t x y (a.eval x) (a.eval y)).run P w = .ok () w/\(binOp op t (a.eval x) (a.eval y)).run P w = .ok s w/\bq F w d s) -> ∃ ws,K ws/\Out P e h ⟨dst,.binOp op t x y t',ty,pos,after,guard⟩ ws:=by
  intro d hd hr;refine⟨_,hd,a6 (v:=.d d) (o:=⟨dst,.binOp op t x y t',ty,pos,after,guard⟩) fun cx r m L F st a w he hh hg=>?_⟩;obtain⟨s,h1,h2,h3⟩:=hr cx r m L F st a w he hg;exact⟨s,by simp[execOp,h1,h2],h3⟩
 unfold Jn at hk;split at hk
 ·rename_i k b k' c
  have ints:∀ {σ:Type} (cx:Cx σ) (r:Option Nat) (m:List Nat) (L:Loc) (F:Nat->Nat) (st:St σ) (a:Act) (w:World),cP e st.env->Good cx r m L F st a w ->
    a.eval x = .int k b/\a.eval y = .int k' c/\(eqGuard op t x y (a.eval x) (a.eval y)).run P w = .ok () w:=by
   intro σ cx r m L F st a w he hg;have hx:=gB hg he hu;have hy:=gB hg he hv;exact⟨hx,hy,by rw[hx,hy];exact ku (fun l e=>by cases e) (fun e=>by cases e)⟩
  split at hk
  ·obtain⟨hc,hk⟩:=bw hk
   have hc:0<=c:=of_decide_eq_true hc;refine fin _ (lF hk) fun cx r m L F st a w he hg=>?_;obtain⟨hx,hy,h1⟩:=ints cx r m L F st a w he hg;exact⟨_,h1,by rw[hx,hy];simp[binOp,Op.shift,show ¬ c<0 by omega],rfl⟩
  ·obtain⟨hc,hk⟩:=bw hk
   have hc:0<=c:=of_decide_eq_true hc;refine fin _ hk fun cx r m L F st a w he hg=>?_;obtain⟨hx,hy,h1⟩:=ints cx r m L F st a w he hg;exact⟨_,h1,by rw[hx,hy];simp[binOp,Op.shift,show ¬ c<0 by omega],rfl⟩
  ·split at hk
   case h_2=>exact hk.elim
   rename_i qQ;have qQ:=of_decide_eq_true qQ;subst qQ;have:∃ d,K (aS dst (.d d)) /\ ∀ F w,∃ s,((binOp op t (.int k b) (.int k c)).run P w = .ok s w)/\bq F w d s:=by
    clear ints fin;cases op<;>simp only[OH]at hk
    case add=>exact⟨_,lF hk,fun F w=>⟨_,by simp[binOp,Op.intArith],rfl⟩⟩
    case sub=>exact⟨_,lF hk,fun F w=>⟨_,by simp[binOp,Op.intArith],rfl⟩⟩
    case mul=>exact⟨_,lF hk,fun F w=>⟨_,by simp[binOp,Op.intArith],rfl⟩⟩
    case quo=>
     obtain⟨hc,hb⟩:=bw hk;have hc:c≠0:=of_decide_eq_true hc;exact⟨_,lF hb,fun F w=>⟨_,by simp[binOp,Op.intDiv,hc],rfl⟩⟩
    case rem=>
     obtain⟨hc,hb⟩:=bw hk;have hc:c≠0:=of_decide_eq_true hc;exact⟨_,hb,fun F w=>⟨_,by simp[binOp,Op.intDiv,hc],rfl⟩⟩
    case eql=>exact⟨_,hk,fun F w=>⟨.bool (decide (b=c)),by simp[binOp,Op.intCmp,BZ],rfl⟩⟩
    case neq=>exact⟨_,hk,fun F w=>⟨.bool (!decide (b=c)),by simp[binOp,Op.intCmp,bne,BZ],rfl⟩⟩
    case lss=>exact⟨_,hk,fun F w=>⟨_,by simp[binOp,Op.intCmp],rfl⟩⟩
    case leq=>exact⟨_,hk,fun F w=>⟨_,by simp[binOp,Op.intCmp],rfl⟩⟩
    case gtr=>exact⟨_,hk,fun F w=>⟨_,by simp[binOp,Op.intCmp],rfl⟩⟩
    case geq=>exact⟨_,hk,fun F w=>⟨_,by simp[binOp,Op.intCmp],rfl⟩⟩
    case and=>exact⟨_,hk,fun F w=>⟨_,by simp[binOp,Op.intBits,im],rfl⟩⟩
    case or=>exact⟨_,hk,fun F w=>⟨_,by simp[binOp,Op.intBits,im],rfl⟩⟩
    case xor=>exact⟨_,hk,fun F w=>⟨_,by simp[binOp,Op.intBits,im],rfl⟩⟩
    case andNot=>exact⟨_,hk,fun F w=>⟨_,by simp[binOp,Op.intBits,im],rfl⟩⟩
    all_goals exact hk.elim
   obtain⟨d,hd,bp⟩:=this;refine fin d hd fun cx r m L F st a w he hg=>?_;obtain⟨hx,hy,h1⟩:=ints cx r m L F st a w he hg;obtain⟨s,h2,h3⟩:=bp F w;exact⟨s,h1,by rw[hx,hy];exact h2,h3⟩
 ·rename_i b c
  have It:∀ {σ:Type} (cx:Cx σ) (r:Option Nat) (m:List Nat) (L:Loc) (F:Nat->Nat) (st:St σ) (a:Act) (w:World),cP e st.env->Good cx r m L F st a w ->
    a.eval x = .bool b/\a.eval y = .bool c/\(eqGuard op t x y (a.eval x) (a.eval y)).run P w = .ok () w:=by
   intro σ cx r m L F st a w he hg;have hx:=nu hg he hu;have hy:=nu hg he hv;exact⟨hx,hy,by rw[hx,hy];exact ku (fun l e=>by cases e) (fun e=>by cases e)⟩
  split at hk
  ·rename_i hb
   have fq:=za hT hb;refine fin _ hk fun cx r m L F st a w he hg=>?_;obtain⟨hx,hy,h1⟩:=It cx r m L F st a w he hg;exact⟨_,h1,by rw[hx,hy];exact run_eql_bool w t b c fq,rfl⟩
  ·rename_i hb
   have fq:=za hT hb;refine fin _ hk fun cx r m L F st a w he hg=>?_;obtain⟨hx,hy,h1⟩:=It cx r m L F st a w he hg;exact⟨_,h1,by rw[hx,hy];exact run_neq_bool w t b c fq,rfl⟩
  ·exact hk.elim
 ·rename_i b c
  have strs:∀ {σ:Type} (cx:Cx σ) (r:Option Nat) (m:List Nat) (L:Loc) (F:Nat->Nat) (st:St σ) (a:Act) (w:World),cP e st.env->Good cx r m L F st a w ->
    a.eval x = .string b/\a.eval y = .string c/\(eqGuard op t x y (a.eval x) (a.eval y)).run P w = .ok () w:=by
   intro σ cx r m L F st a w he hg;have hx:=jx hg he hu;have hy:=jx hg he hv;exact⟨hx,hy,by rw[hx,hy];exact ku (fun l e=>by cases e) (fun e=>by cases e)⟩
  split at hk
  ·refine fin _ hk fun cx r m L F st a w he hg=>?_
   obtain⟨hx,hy,h1⟩:=strs cx r m L F st a w he hg;exact⟨.bool (decide (b=c)),h1,by rw[hx,hy];simpa[binOp]using xW b c,rfl⟩
  ·refine fin _ hk fun cx r m L F st a w he hg=>?_
   obtain⟨hx,hy,h1⟩:=strs cx r m L F st a w he hg;exact⟨.bool (!decide (b=c)),h1,by rw[hx,hy];simpa[binOp]using xX b c,rfl⟩
  ·obtain⟨cM,hk⟩:=bw hk
   have cM:=of_decide_eq_true cM;refine fin _ hk fun cx r m L F st a w he hg=>?_;obtain⟨hx,hy,h1⟩:=strs cx r m L F st a w he hg;refine⟨.string (b++c),h1,?_,rfl⟩;have Tl:IntKind.i64.max=9223372036854775807:=rfl;have Hj:¬ (((b.size+c.size:Nat):Int)>9223372036854775807):=by omega
   rw[hx,hy];show(Op.stringOp .add b c).run P w=_;simp only[Op.stringOp,Tl];rw[if_neg Hj];rfl
  ·exact hk.elim
 ·rename_i xs ys
  have key:∀ (b:Bool) (hs:pY T t=true) (Ln:GJ T 9 t xs ys=some b) {σ:Type} (cx:Cx σ) (r:Option Nat) (m:List Nat) (L:Loc) (F:Nat->Nat) (st:St σ) (a:Act) (w:World),cP e st.env->Good cx r m L F st a w ->
    ∃ lx ly,a.eval x = .agg lx/\a.eval y = .agg ly/\(eqGuard op t x y (a.eval x) (a.eval y)).run P w = .ok () w/\(Op.equal t (a.eval x) (a.eval y)).run P w = .ok b w:=by
   intro b hs Ln σ cx r m L F st a w he hg;obtain⟨lx,hx,pf⟩:=hg.aD (az he hu);obtain⟨ly,hy,qR⟩:=hg.aD (az he hv);have h9:=qK (P:=P) (F:=F) (w:=w) hT 9 t xs ys b Ln;have PH:=(h9 P.depth Eh).1;obtain⟨ti,eC,EM⟩:=AJ hs;obtain⟨i,de,hi,fq,_,_,da,mF,_⟩:=hT t ti eC;have mF:ti.isAgg=true:=by
    rw[mF];rcases EM with⟨fs,EM⟩|⟨n,e,EM⟩
    ·rw[EM]at da
     obtain⟨fa,VZ,_⟩:=gh da.symm;subst VZ;rfl
    ·rw[EM]at da
     have:=er da.symm;subst this;rfl
   have sf:∀ (zs:List D) (l:Array Value),aN F w zs l.toList->mJ T F w t zs (.agg l):=fun zs l hl Ub tL=>by
    rw[eC]at tL;cases tL;rw[mF];exact⟨l,rfl,hl⟩
   refine⟨lx,ly,hx,hy,?_,?_⟩
   ·rw[hx,hy]
    unfold eqGuard;cases op<;>simp[PH]
   ·rw[hx,hy]
    exact(h9 Op.maxDepth (by decide)).2 _ _ (sf _ _ pf) (sf _ _ qR)
  split at hk
  ·rename_i hs
   obtain⟨b,Ln,hk⟩:=Bz hk;refine fin _ hk fun cx r m L F st a w he hg=>?_;obtain⟨lx,ly,hx,hy,h1,h2⟩:=key b hs Ln cx r m L F st a w he hg;refine⟨.bool b,h1,?_,rfl⟩;rw[hx,hy]at h2 ⊢;simp[binOp,h2]
  ·rename_i hs
   obtain⟨b,Ln,hk⟩:=Bz hk;obtain⟨c,SP,rfl⟩:=KT Ln;refine fin _ hk fun cx r m L F st a w he hg=>?_;obtain⟨lx,ly,hx,hy,h1,h2⟩:=key c hs SP cx r m L F st a w he hg;refine⟨.bool !c,h1,?_,rfl⟩;rw[hx,hy]at h2 ⊢;simp[binOp,h2]
  ·exact hk.elim
 ·exact hk.elim
theorem zx(hT:aY P T){op:BinOp}{t t':TypeId}{x y:Operand}{u:D}{b:Bool}(hu:aD e x=some (.d u))(hb:(u = .nili/\b=true)\/(∃ t v,u = .ifc t v)/\b=false)(xy:AI y=true)(hk:B6 T op t b fun v=>K (aS dst v)) :
  ∃ ws,K ws/\Out P e h ⟨dst,.binOp op t x y t',ty,pos,after,guard⟩ ws:=by
 have hy:y = .const .nilIface:=by
  unfold AI at xy;split at xy
  ·rfl
  ·cases xy
 subst hy;have key:isIface T t=true -> ∀ {σ:Type} (cx:Cx σ) (r:Option Nat) (m:List Nat) (L:Loc) (F:Nat->Nat) (st:St σ) (a:Act) (w:World),cP e st.env->Good cx r m L F st a w ->
   (eqGuard op t x (.const .nilIface) (a.eval x) .nilIface).run P w = .ok () w/\(Op.equal t (a.eval x) .nilIface).run P w = .ok b w/\((∃ t v,a.eval x = .iface t v)\/a.eval x = .nilIface):=by
  intro Kh σ cx r m L F st a w he hg;have hx:=hg.aD (az he hu);obtain⟨ms,UL⟩:=C6 hT Kh;have hE:∀ z,Op.equal t z .nilIface=Op.equalIn ((Op.maxDepth-1)+1) t z .nilIface:=fun _=>rfl;rw[hE];generalize Op.maxDepth-1=n;rcases hb with⟨rfl,rfl⟩|⟨⟨t1,v1,rfl⟩,rfl⟩
  ·have hx:a.eval x = .nilIface:=hx
   rw[hx];exact⟨by unfold eqGuard;cases op<;>simp,by simp only[Op.equalIn];simp[run_underlying UL],.inr rfl⟩
  ·obtain⟨y1,hx,_⟩:=hx
   rw[hx];exact⟨by unfold eqGuard;cases op<;>simp,by simp only[Op.equalIn];simp[run_underlying UL],.inl ⟨_,_,rfl⟩⟩
 have fin:∀ (c:Bool) (hd:K (aS dst (.d (.bool c)))) (_:isIface T t=true) (_:∀ (z:Value) (w:World),((∃ t v,z = .iface t v)\/z = .nilIface)->(Op.equal t z .nilIface).run P w = .ok b w->(binOp op t z .nilIface).run P w = .ok (.bool c) w),
   ∃ ws,K ws/\Out P e h ⟨dst,.binOp op t x (.const .nilIface) t',ty,pos,after,guard⟩ ws:=by
  intro c hd Kh hr;refine⟨_,hd,a6 (v:=.d (.bool c)) (o:=⟨dst,.binOp op t x (.const .nilIface) t',ty,pos,after,guard⟩) fun cx r m L F st a w he hh hg=>?_⟩;obtain⟨h1,h2,h3⟩:=key Kh cx r m L F st a w he hg;have h4:=hr _ w h3 h2;have hc:a.eval (.const .nilIface) = .nilIface:=rfl;exact⟨_,by simp[execOp,hc,h1,h4],rfl⟩
 unfold B6 at hk;split at hk
 ·rename_i Kh
  refine fin b hk Kh fun z w hz h2=>?_;rcases hz with⟨t1,v1,rfl⟩|rfl<;>simp[binOp,h2]
 ·rename_i Kh
  refine fin (!b) hk Kh fun z w hz h2=>?_;rcases hz with⟨t1,v1,rfl⟩|rfl<;>simp[binOp,h2]
 ·exact hk.elim
theorem De(hT:aY P T){op:BinOp}{t t':TypeId}{x y:Operand}(hk:eS T e h dst (.binOp op t x y t') K):∃ ws,K ws/\Out P e h ⟨dst,.binOp op t x y t',ty,pos,after,guard⟩ ws:=by
 simp only[eS]at hk;split at hk;case h_2=>exact hk.elim
 rename_i u v hu hv;split at hk
 ·rename_i hn
  exact zx hT hu (.inl ⟨rfl,rfl⟩) hn hk
 ·rename_i hn
  exact zx hT hu (.inr ⟨⟨_,_,rfl⟩,rfl⟩) hn hk
 ·exact Fm hT hu hv hk
end
end Go.PX
