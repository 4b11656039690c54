import Derived.Test.YtgpmlbbkfmkmkaaGreatDoorPxA
import Derived.ProofKit
import Derived.ChangeKeysEq
set_option linter.all false
namespace Go.PX
open Go.RowKit
theorem qI{α:Type}(t:Tab α)(s:Nat)(v:α)(x:Nat):get ((s,v)::t) x=if x=s then some v else get t x:=by
 by_cases h:x=s
 ·subst h;simp[get]
 ·have:Nat.beq s x=false:=by rw[Bool.eq_false_iff];intro e;exact h (Nat.eq_of_beq_eq_true e).symm
  simp[get,this,h]
theorem jq{α:Type}(t:Tab α)(s:Nat)(v:α)(x:Nat):get (put t s v) x=if x=s then some v else get t x:=by
 induction t with
 | nil=>
  simp only[put,get];by_cases h:x=s
  ·subst h;simp
  ·have:Nat.beq s x=false:=by rw[Bool.eq_false_iff];intro e;exact h (Nat.eq_of_beq_eq_true e).symm
   simp[this,h]
 | cons kv r ih=>
  obtain⟨k,u⟩:=kv;simp only[put]
  cases hk:Nat.beq k s with
  | true=>
   have:=Nat.eq_of_beq_eq_true hk;subst this;simp only[get];by_cases h:x=k
   ·subst h;simp
   ·have:Nat.beq k x=false:=by rw[Bool.eq_false_iff];intro e;exact h (Nat.eq_of_beq_eq_true e).symm
    simp[this,h]
  | false=>
   simp only[get]
   cases hx:Nat.beq k x with
   | true=>
    have:=Nat.eq_of_beq_eq_true hx;subst this;have:k≠s:=by rintro rfl;simp at hk
    simp[this]
   | false=>exact ih
theorem zZ{α:Type}(t:Tab α)(s:Nat)(x:Nat):get (cut t s) x=if x=s then none else get t x:=by
 induction t with
 | nil=>simp[cut,get]
 | cons kv r ih=>
  obtain⟨k,u⟩:=kv;simp only[cut]
  cases hk:Nat.beq k s with
  | true=>
   have:=Nat.eq_of_beq_eq_true hk;subst this;rw[ih];by_cases h:x=k
   ·simp[h]
   ·have:Nat.beq k x=false:=by rw[Bool.eq_false_iff];intro e;exact h (Nat.eq_of_beq_eq_true e).symm
    simp[h,get,this]
  | false=>
   simp only[get]
   cases hx:Nat.beq k x with
   | true=>
    have:=Nat.eq_of_beq_eq_true hx;subst this;have:k≠s:=by rintro rfl;simp at hk
    simp[this]
   | false=>exact ih
theorem qQ{α β:Type}(f:α->β)(t:Tab α)(x:Nat):get (jT f t) x=(get t x).map f:=by
 induction t with
 | nil=>rfl
 | cons kv r ih=>
  obtain⟨k,u⟩:=kv;simp only[jT,get]
  cases hx:Nat.beq k x with
  | true=>rfl
  | false=>exact ih
theorem RepDL.length{F:Nat->Nat}{w:World}:∀ {cs:List D} {l:List Value},RepDL F w cs l->l.length=cs.length
 | [],_,h=>by simp[show _ = [] from h]
 | _::_,_,h=>by
  obtain⟨x,l',rfl,_,hl⟩:=h;simp[RepDL.length hl]
theorem RepVL.length{yv:Option Nat}{L:Loc}{F:Nat->Nat}{w:World}:∀ {cs:List V} {l:List Value},RepVL yv L F w cs l->l.length=cs.length
 | [],_,h=>by simp[show _ = [] from h]
 | _::_,_,h=>by
  obtain⟨x,l',rfl,_,hl⟩:=h;simp[RepVL.length hl]
section
variable {yv : Option Nat} {L : Loc} {F : Nat -> Nat} {w : World}
theorem RepVL.inj:∀ {cs:List D} {l:List Value},RepVL yv L F w (inj cs) l↔RepDL F w cs l
 | [],l=>by simp[PX.inj,RepVL,RepDL]
 | c::r,l=>by
  simp only[PX.inj,RepVL,RepDL];constructor
  ·rintro ⟨x,l',rfl,hc,hl⟩;exact⟨x,l',rfl,hc,RepVL.inj.1 hl⟩
  ·rintro ⟨x,l',rfl,hc,hl⟩;exact⟨x,l',rfl,hc,RepVL.inj.2 hl⟩
theorem RepVL.get:∀ {cs:List V} {l:List Value} (i:Nat) {c:V},RepVL yv L F w cs l->cs[i]?=some c -> ∃ x,l[i]?=some x/\RepV yv L F w c x
 | [],_,i,c,_,hi=>by simp at hi
 | d::r,_,0,c,h,hi=>by
  obtain⟨x,l',rfl,hc,hl⟩:=h;simp at hi;subst hi;exact⟨x,by simp,hc⟩
 | d::r,_,i+1,c,h,hi=>by
  obtain⟨x,l',rfl,hc,hl⟩:=h;simpa using RepVL.get i hl (by simpa using hi)
theorem RepVL.of_get:∀ {cs:List V} {l:List Value},l.length=cs.length->(∀ (i:Nat) (c:V),cs[i]?=some c -> ∃ x,l[i]?=some x/\RepV yv L F w c x)->RepVL yv L F w cs l
 | [],l,hl,_=>(List.length_eq_zero_iff.1 (by simpa using hl):l = [])
 | c::r,[],hl,_=>by simp at hl
 | c::r,x::l,hl,h=>by
  refine⟨x,l,rfl,?_,RepVL.of_get (by simpa using hl) fun i d hd=>by simpa using h (i+1) d (by simpa using hd)⟩;obtain⟨y,hy,hr⟩:=h 0 c (by simp);simp at hy;exact hy▸hr
theorem RepVL.append:∀ {cs ds:List V} {l k:List Value},RepVL yv L F w cs l->RepVL yv L F w ds k->RepVL yv L F w (cs++ds) (l++k)
 | [],_,_,_,h,k=>by simpa[show _ = [] from h]using k
 | c::r,ds,_,m,h,k=>by
  obtain⟨x,l',rfl,hc,hl⟩:=h;exact⟨x,l'++m,by simp,hc,RepVL.append hl k⟩
theorem RepVL.take{cs:List V}{l:List Value}(n:Nat)(h:RepVL yv L F w cs l):RepVL yv L F w (cs.take n) (l.take n):=
 .of_get (by simp[h.length]) fun i c hc=>by
  rw[List.getElem?_take]at hc ⊢;split at hc
  ·rename_i hi;simp only[hi,if_true];exact h.get i hc
  ·simp at hc
theorem RepVL.drop{cs:List V}{l:List Value}(n:Nat)(h:RepVL yv L F w cs l):RepVL yv L F w (cs.drop n) (l.drop n):=
 .of_get (by simp[h.length]) fun i c hc=>by
  rw[List.getElem?_drop]at hc ⊢;exact h.get _ hc
theorem qjV(l:List D)(n:Nat):inj (l.take n)=(inj l).take n:=by
 induction l generalizing n with
 | nil=>simp[inj]
 | cons c r ih=>cases n<;>simp[inj,ih]
theorem qjW(l:List D)(n:Nat):inj (l.drop n)=(inj l).drop n:=by
 induction l generalizing n with
 | nil=>simp[inj]
 | cons c r ih=>cases n<;>simp[inj,ih]
theorem qbH(l m:List D):inj (l++m)=inj l++inj m:=by
 induction l with
 | nil=>rfl
 | cons c r ih=>simp[inj,ih]
theorem jl(l:List D):(inj l).length=l.length:=by
 induction l with
 | nil=>rfl
 | cons c r ih=>simp[inj,ih]
theorem qjX(l:List D)(i:Nat):(inj l)[i]?=(l[i]?).map .d:=by
 induction l generalizing i with
 | nil=>simp[inj]
 | cons c r ih=>cases i<;>simp[inj,ih]
theorem qZ(l:List (List D)):ze l=l.map inj:=by
 induction l with
 | nil=>rfl
 | cons c r ih=>simp[ze,ih]
mutual
def qbz:V->Nat->Prop
 | .agg cs,i=>zc cs i
 | .tup cs,i=>zc cs i
 | .clo _ cs,i=>zc cs i
 | .ptr j _,i=>j=i
 | .ep j _ _ _,i=>j=i
 | .sl j _ _ _,i=>j=i
 | .mp j,i=>j=i
 | .it j,i=>j=i
 | _,_=>False
def zc:List V->Nat->Prop
 | [],_=>False
 | v::r,i=>qbz v i\/zc r i
end
end
mutual
theorem RepV.mono{yv:Option Nat}{L L':Loc}{F F':Nat->Nat}{w w':World}(h:Tr F w F' w'):∀ (v:V) (x:Value),(∀ i,qbz v i->L'.ρ i=L.ρ i/\L'.κ i=L.κ i)->RepV yv L F w v x->RepV yv L' F' w' v x
 | .d v,_,_,hr=>RepD.mono h v _ hr
 | .agg cs,_,hn,hr=>by
  obtain⟨l,rfl,hl⟩:=hr;exact⟨l,rfl,RepVL.mono h cs _ hn hl⟩
 | .tup cs,_,hn,hr=>by
  obtain⟨l,rfl,hl⟩:=hr;exact⟨l,rfl,RepVL.mono h cs _ hn hl⟩
 | .ptr id off,x,hn,hr=>by
  have hr:x = .pointer (some ⟨L.ρ id,off,none⟩):=hr;show x = .pointer (some ⟨L'.ρ id,off,none⟩);rw[(hn id rfl).1];exact hr
 | .ep id sz i off,x,hn,hr=>by
  have hr:x = .pointer (some ⟨L.ρ id,i*sz+off,none⟩):=hr;show x = .pointer (some ⟨L'.ρ id,i*sz+off,none⟩);rw[(hn id rfl).1];exact hr
 | .sl id sz off len,_,hn,hr=>by
  obtain⟨a,cap,rfl,hl,hs,hc⟩:=hr;refine⟨a,cap,rfl,hl,hs,?_⟩;rw[(hn id rfl).1,(hn id rfl).2];exact hc
 | .mp id,x,hn,hr=>by
  have hr:x = .map (some (L.ρ id)):=hr;show x = .map (some (L'.ρ id));rw[(hn id rfl).1];exact hr
 | .it id,x,hn,hr=>by
  have hr:x = .pointer (some ⟨L.ρ id,0,none⟩):=hr;show x = .pointer (some ⟨L'.ρ id,0,none⟩);rw[(hn id rfl).1];exact hr
 | .clo f cs,_,hn,hr=>by
  obtain⟨l,rfl,hl⟩:=hr;exact⟨l,rfl,RepVL.mono h cs _ hn hl⟩
 | .yld,_,_,hr=>hr
 | .unk,_,_,hr=>hr
theorem RepVL.mono{yv:Option Nat}{L L':Loc}{F F':Nat->Nat}{w w':World}(h:Tr F w F' w'):∀ (vs:List V) (l:List Value),(∀ i,zc vs i->L'.ρ i=L.ρ i/\L'.κ i=L.κ i)->RepVL yv L F w vs l->RepVL yv L' F' w' vs l
 | [],_,_,hr=>hr
 | v::r,_,hn,hr=>by
  obtain⟨x,l',rfl,hv,hl⟩:=hr;exact⟨x,l',rfl,RepV.mono h v x (fun i hi=>hn i (.inl hi)) hv,RepVL.mono h r l' (fun i hi=>hn i (.inr hi)) hl⟩
end
mutual
theorem RepV.kill{yv:Option Nat}{L:Loc}{F:Nat->Nat}{w:World}(id:Nat):∀ (v:V) (x:Value),RepV yv L F w v x->RepV yv L F w (mapId (qz id) v) x
 | .d v,_,hr=>hr
 | .agg cs,_,hr=>by
  obtain⟨l,rfl,hl⟩:=hr;exact⟨l,rfl,RepVL.kill id cs _ hl⟩
 | .tup cs,_,hr=>by
  obtain⟨l,rfl,hl⟩:=hr;exact⟨l,rfl,RepVL.kill id cs _ hl⟩
 | .ptr i off,x,hr=>by
  have hr':x = .pointer (some ⟨L.ρ i,off,none⟩):=hr;simp only[mapId,qz,qdE];cases Nat.beq i id
  ·exact hr
  ·subst hr';exact rfl
 | .ep i sz j off,x,hr=>by
  have hr':x = .pointer (some ⟨L.ρ i,j*sz+off,none⟩):=hr;simp only[mapId,qz,qdE];cases Nat.beq i id
  ·exact hr
  ·subst hr';exact rfl
 | .sl i sz off len,x,hr=>by
  simp only[mapId,qz,qdE];cases Nat.beq i id
  ·exact hr
  ·obtain⟨a,cap,rfl,_⟩:=hr;exact rfl
 | .mp i,x,hr=>by
  have hr':x = .map (some (L.ρ i)):=hr;simp only[mapId,qz,qdE];cases Nat.beq i id
  ·exact hr
  ·subst hr';exact rfl
 | .it i,x,hr=>by
  have hr':x = .pointer (some ⟨L.ρ i,0,none⟩):=hr;simp only[mapId,qz,qdE];cases Nat.beq i id
  ·exact hr
  ·subst hr';exact rfl
 | .clo f cs,_,hr=>by
  obtain⟨l,rfl,hl⟩:=hr;exact⟨l,rfl,RepVL.kill id cs _ hl⟩
 | .yld,_,hr=>hr
 | .unk,_,hr=>hr
theorem RepVL.kill{yv:Option Nat}{L:Loc}{F:Nat->Nat}{w:World}(id:Nat):∀ (vs:List V) (l:List Value),RepVL yv L F w vs l->RepVL yv L F w (zH (qz id) vs) l
 | [],_,hr=>hr
 | v::r,_,hr=>by
  obtain⟨x,l',rfl,hv,hl⟩:=hr;exact⟨x,l',rfl,RepV.kill id v x hv,RepVL.kill id r l' hl⟩
end
mutual
theorem qcA(id:Nat):∀ (v:V),¬ qbz (mapId (qz id) v) id
 | .d _=>fun h=>h
 | .agg cs=>qar id cs
 | .tup cs=>qar id cs
 | .clo _ cs=>qar id cs
 | .ptr i off=>by
  simp only[mapId,qz,qdE];cases h:Nat.beq i id
  ·intro hn;have:i=id:=hn;subst this;simp at h
  ·exact fun h=>h
 | .ep i sz j off=>by
  simp only[mapId,qz,qdE];cases h:Nat.beq i id
  ·intro hn;have:i=id:=hn;subst this;simp at h
  ·exact fun h=>h
 | .sl i sz off len=>by
  simp only[mapId,qz,qdE];cases h:Nat.beq i id
  ·intro hn;have:i=id:=hn;subst this;simp at h
  ·exact fun h=>h
 | .mp i=>by
  simp only[mapId,qz,qdE];cases h:Nat.beq i id
  ·intro hn;have:i=id:=hn;subst this;simp at h
  ·exact fun h=>h
 | .it i=>by
  simp only[mapId,qz,qdE];cases h:Nat.beq i id
  ·intro hn;have:i=id:=hn;subst this;simp at h
  ·exact fun h=>h
 | .yld=>fun h=>h
 | .unk=>fun h=>h
theorem qar(id:Nat):∀ (vs:List V),¬ zc (zH (qz id) vs) id
 | []=>fun h=>h
 | v::r=>fun h=>h.elim (qcA id v) (qar id r)
end
def qdK:Obj->Nat->Prop
 | .box c,i=>zc c.toV i
 | .arr _ es,i=>zc es.toV.flatten i
 | .mit v _ _ _,i=>qbz v i
 | .tb _ l,i=>zc l i
 | _,_=>False
theorem qjY(f:V->V)(a b:List V):zH f (a++b)=zH f a++zH f b:=by
 induction a with
 | nil=>rfl
 | cons x r ih=>simp[zH,ih]
theorem jY(f:V->V)(a:List (List V)):(qr f a).flatten=zH f a.flatten:=by
 induction a with
 | nil=>rfl
 | cons x r ih=>simp[qr,qjY,ih]
theorem qbD(f:V->V)(a:List V):(zH f a).length=a.length:=by
 induction a with
 | nil=>rfl
 | cons x r ih=>simp[zH,ih]
theorem qao(f:V->V)(a:List (List V)):(qr f a).length=a.length:=by
 induction a with
 | nil=>rfl
 | cons x r ih=>simp[qr,ih]
theorem qhs(f:V->V)(a:List (List V))(e:List V)(h:e∈qr f a):∃ e0∈a,e=zH f e0:=by
 induction a with
 | nil=>cases h
 | cons x r ih=>
  simp only[qr,List.mem_cons]at h;rcases h with rfl|h
  ·exact⟨x,by simp,rfl⟩
  ·obtain⟨e0,h0,rfl⟩:=ih h;exact⟨e0,by simp[h0],rfl⟩
theorem qiV(f:V->V)(l:List D):zH f (inj l)=inj l:=by
 induction l with
 | nil=>rfl
 | cons x r ih=>simp[inj,zH,mapId,ih]
theorem jB(l:List D)(i:Nat):¬ zc (inj l) i:=by
 induction l with
 | nil=>exact fun h=>h
 | cons x r ih=>exact fun h=>h.elim (fun h=>h) ih
theorem qey(a b:List V)(i:Nat):zc (a++b) i↔zc a i\/zc b i:=by
 induction a with
 | nil=>simp[zc]
 | cons x r ih=>simp[zc,ih,or_assoc]
theorem RepO.kill{yv:Option Nat}{L:Loc}{F:Nat->Nat}{w:World}(k id:Nat)(o:Obj)(h:RepO yv L F w id o):RepO yv L F w id (Obj.mapId (qz k) o):=by
 cases o with
 | box c=>
  cases c with
  | dd l=>exact h
  | vv l=>
   obtain⟨c,T,hc,hr⟩:=h;exact⟨c,T,hc,RepVL.kill k _ _ hr⟩
 | arr sz es=>
  cases es with
  | dd l=>exact h
  | vv l=>
   obtain⟨hs,hl,h⟩:=h;refine⟨hs,?_,?_⟩
   ·intro e he
    obtain⟨e0,h0,rfl⟩:=qhs _ _ _ he;rw[qbD];exact hl e0 h0
   ·rcases h with⟨h,hk⟩|⟨c,T,hc,hk,hn,hr⟩
    ·left
     have h:l = []:=h;subst h;exact⟨rfl,hk⟩
    ·right
     refine⟨c,T,hc,hk,?_,?_⟩
     ·show(qr _ l).length*sz<=_
      rw[qao];exact hn
     ·show RepVL yv L F w (qr _ l).flatten (c.toList.take ((qr _ l).length*sz))
      rw[qao,jY];exact RepVL.kill k _ _ hr
 | map kvs=>exact h
 | iter s n=>exact h
 | buf t s=>exact h
 | tb t l=>
  obtain⟨c,hc,hr⟩:=h;exact⟨c,hc,RepVL.kill k _ _ hr⟩
 | mit v n l u=>
  obtain⟨r,seen,h1,h2⟩:=h;exact⟨r,seen,RepV.kill k v _ h1,h2⟩
theorem qeG(k:Nat)(o:Obj):¬ qdK (Obj.mapId (qz k) o) k:=by
 cases o with
 | box c=>
  cases c with
  | dd l=>exact jB l k
  | vv l=>exact qar k l
 | arr sz es=>
  cases es with
  | dd l=>
   show ¬ zc (ze l).flatten k
   induction l with
   | nil=>exact fun h=>h
   | cons x r ih=>
    simp only[ze,List.flatten_cons,qey];exact fun h=>h.elim (jB x k) ih
  | vv l=>
   show ¬ zc (qr _ l).flatten k;rw[jY];exact qar k _
 | map kvs=>exact fun h=>h
 | iter s n=>exact fun h=>h
 | buf t s=>exact fun h=>h
 | tb t l=>exact qar k l
 | mit v n l u=>exact qcA k v
theorem jr(L:Loc)(k id:Nat)(o:Obj):Backed L id (Obj.mapId (qz k) o)↔Backed L id o:=by
 cases o with
 | box c=>cases c<;>exact Iff.rfl
 | arr sz es=>cases es<;>exact Iff.rfl
 | map kvs=>exact Iff.rfl
 | iter s n=>exact Iff.rfl
 | buf t s=>exact Iff.rfl
 | tb t l=>exact Iff.rfl
 | mit v n l u=>exact Iff.rfl
theorem RepO.mono{yv:Option Nat}{L L':Loc}{F F':Nat->Nat}{w w':World}(h:Tr F w F' w')(id:Nat)(o:Obj)(hn:∀ i,qdK o i->L'.ρ i=L.ρ i/\L'.κ i=L.κ i)
  (hL:L'.ρ id=L.ρ id/\L'.κ id=L.κ id) (hb:Backed L id o->w'.heap[L.ρ id]?=w.heap[L.ρ id]?) (hr:RepO yv L F w id o):RepO yv L' F' w' id o:=by
 cases o with
 | box c=>
  obtain⟨c',T,hc,hr⟩:=hr;exact⟨c',T,by rw[hL.1,hb trivial];exact hc,RepVL.mono h _ _ hn hr⟩
 | arr sz es=>
  obtain⟨hs,hl,hr⟩:=hr;refine⟨hs,hl,?_⟩;rcases hr with⟨he,hk⟩|⟨c,T,hc,hk,hn',hr⟩
  ·exact .inl ⟨he,by rw[hL.2];exact hk⟩
  ·by_cases hz:L.κ id=0
   ·left
    refine⟨?_,by rw[hL.2];exact hz⟩;rw[hk,hz]at hn';have:es.toV.length=0:=by
     rcases Nat.eq_zero_or_pos es.toV.length with h0|h0
     ·exact h0
     ·have:=Nat.mul_pos h0 hs;omega
    exact List.length_eq_zero_iff.1 this
   ·right
    exact⟨c,T,by rw[hL.1,hb hz];exact hc,by rw[hL.2];exact hk,hn',RepVL.mono h _ _ hn hr⟩
 | map kvs=>
  obtain⟨en,c,hc,hr⟩:=hr;exact⟨en,c,by rw[hL.1,hb trivial];exact hc,RepKv.mono h _ _ hr.1,hr.2⟩
 | iter s n=>
  show w'.heap[L'.ρ id]?=_;rw[hL.1,hb trivial];exact hr
 | buf t s=>
  obtain⟨c,h1,h2,h3⟩:=hr;exact⟨c,by rw[hL.1,hb trivial];exact h1,by rw[hL.2];exact h2,h3⟩
 | tb t l=>
  obtain⟨c,hc,hr⟩:=hr;exact⟨c,by rw[hL.1,hb trivial];exact hc,RepVL.mono h _ _ hn hr⟩
 | mit v n l u=>
  obtain⟨r,seen,h1,h2,h3⟩:=hr;exact⟨r,seen,RepV.mono h v _ hn h1,by rw[hL.1,hb trivial];exact h2,h3⟩
theorem za{w:World}{b:Nat}{o:Go.Obj}(h:w.heap[b]?=some o):b<w.heap.size:=(Array.getElem?_eq_some_iff.1 h).1
theorem qbN{w w':World}{b o:Nat}(h:w'.heap[b]?=w.heap[b]?):w'.cell? ⟨b,o,none⟩=w.cell? ⟨b,o,none⟩:=by
 simp[World.cell?,h]
theorem RepO.lt{yv:Option Nat}{L:Loc}{F:Nat->Nat}{w:World}{id:Nat}{o:Obj}(h:RepO yv L F w id o)(hb:Backed L id o):L.ρ id<w.heap.size:=by
 cases o with
 | box c=>obtain⟨c',T,hc,_⟩:=h;exact za hc
 | arr sz es=>
  obtain⟨_,_,h⟩:=h;rcases h with⟨_,hk⟩|⟨c,T,hc,_⟩
  ·exact absurd hk hb
  ·exact za hc
 | map kvs=>obtain⟨en,c,hc,_⟩:=h;exact za hc
 | iter s n=>exact za (show w.heap[L.ρ id]?=_ from h)
 | buf t s=>obtain⟨c,h1,_⟩:=h;exact za h1
 | tb t l=>obtain⟨c,h1,_⟩:=h;exact za h1
 | mit v n l u=>obtain⟨r,seen,_,h2,_⟩:=h;exact za h2
theorem Tr.of_keep{F F':Nat->Nat}{w w':World}(ho:w'.os=w.os)(ht:w'.tape=w.tape)(hu:w'.output=w.output)(hs:w.heap.size<=w'.heap.size)(hle:∀ b,F b<=F' b)
    (hfresh:∀ b,w.heap.size<=b->F b=0) (hk:∀ b,b<w.heap.size->0<F b->w'.heap[b]?=w.heap[b]?):Tr F w F' w':=
  ⟨ho,ht,hu,hs,hle,
   fun b o h=>by
    rcases Nat.lt_or_ge b w.heap.size with hb|hb
    · exact qbN (hk b hb (by omega))
    · rw[hfresh b hb]at h;omega,
   fun b e c h hm=>by rw[hk b (za hm) h];exact hm⟩
theorem Tr.alloc{F:Nat->Nat}{w:World}(hfresh:∀ b,w.heap.size<=b->F b=0)(o:Go.Obj):Tr F w F (w.alloc o):=
 .of_keep rfl rfl rfl (by simp) (fun _=>Nat.le_refl _) hfresh fun b hb _=>heap_alloc_old _ _ _ hb
theorem Tr.drew{F:Nat->Nat}{w:World}(n:Nat):Tr F w F { w with drawn:=n }:=
 ⟨rfl,rfl,rfl,Nat.le_refl _,fun _=>Nat.le_refl _,fun _ _ _=>rfl,fun _ _ _ _ h=>h⟩
section
variable {σ : Type} {cx : Cx σ} {r : Option Nat} {m : List Nat} {L : Loc} {F : Nat -> Nat} {st : St σ} {a : Act} {w : World}
theorem HeapOk.same{h:Heap}{s:σ}(hh:HeapOk cx L F h s w){w':World}(he:w'.heap=w.heap)(ho:w'.os=w.os)(ht:w'.tape=w.tape)(hu:w'.output=w.output):HeapOk cx L F h s w':=by
 have tr:Tr F w F w':=⟨ho,ht,hu,by rw[he];exact Nat.le_refl _,fun _=>Nat.le_refl _,fun b o _=>qbN (by rw[he]),fun b e c _ hm=>by rw[he];exact hm⟩;refine⟨cx.stable hh.hg (.of_keep ho ht hu (by rw[he];exact Nat.le_refl _) (fun _=>Nat.le_refl _) hh.fresh fun b _ _=>by rw[he]) (fun b hb=>hh.fresh b (by rw[<- he];exact hb)) fun b _=>⟨by rw[he],rfl⟩,fun b hb=>by rw[he];exact hh.csz b hb,fun b hb=>hh.fresh b (by rw[<- he];exact hb),?_,hh.own,hh.inj⟩;intro id o hg;exact RepO.mono tr id o (fun _ _=>⟨rfl,rfl⟩) ⟨rfl,rfl⟩ (fun _=>by rw[he]) (hh.obj id o hg)
theorem Good.same(hh:Good cx r m L F st a w){w':World}(he:w'.heap=w.heap)(ho:w'.os=w.os)(ht:w'.tape=w.tape)(hu:w'.output=w.output):Good cx r m L F st a w':=by
 have tr:Tr F w F w':=⟨ho,ht,hu,by rw[he];exact Nat.le_refl _,fun _=>Nat.le_refl _,fun b o _=>qbN (by rw[he]),fun b e c _ hm=>by rw[he];exact hm⟩;refine⟨hh.heap.same he ho ht hu,?_,hh.dfr,fun b hb=>by rw[he];exact hh.mks b hb,hh.mnd,fun l hl=>by rw[he];exact hh.lk l hl,hh.pin,hh.tsz⟩;intro s v hs;obtain⟨x,hx,hr⟩:=hh.env s v hs;exact⟨x,hx,RepV.mono tr v x (fun _ _=>⟨rfl,rfl⟩) hr⟩
theorem Good.unpinned(hh:Good cx r m L F st a w){d:Nat}(hd:d<a.tmps.size):¬ pinned d:=fun h=>by
 have:=hh.tsz;unfold pinned at h;omega
theorem Good.set(hh:Good cx r m L F st a w){d:Nat}{v:V}{x:Value}(hd:d<a.tmps.size)(hv:RepV cx.yv L F w v x) :
  Good cx r m L F ⟨put st.env d v,st.heap,st.s⟩ (a.put (some d) x) w:=by
 refine⟨hh.heap,?_,hh.dfr,hh.mks,hh.mnd,hh.lk,hh.pin,by simpa[Act.put]using hh.tsz⟩;intro s u hs;simp only[jq]at hs;simp only[Act.put];split at hs
 ·rename_i e
  cases hs;subst e
  exact⟨x,by simp[Array.getElem?_setIfInBounds,hd],hv⟩
 ·rename_i e
  obtain⟨y,hy,hr⟩:=hh.env s u hs;exact⟨y,by rw[Array.getElem?_setIfInBounds_ne (Ne.symm e)];exact hy,hr⟩
theorem Good.wset(hh:Good cx r m L F st a w){d:Option Nat}{v:V}{x:Value}(hd:∀ k,d=some k->k<a.tmps.size)(hv:RepV cx.yv L F w v x) :
  Good cx r m L F (qx st (wset d v)) (a.put d x) w:=by
 cases d with
 | none=>exact hh
 | some d=>exact hh.set (hd d rfl) hv
theorem Good.sub(hh:Good cx r m L F st a w){e:Env}{h:Heap}(he:qaF e st.env)(hs:qaF h st.heap):Good cx r m L F ⟨e,h,st.s⟩ a w:=
 ⟨⟨hh.heap.hg,hh.heap.csz,hh.heap.fresh,fun id o hg=>hh.heap.obj id o (hs id o hg),fun id o hg=>hh.heap.own id o (hs id o hg),
  fun i j o p hi hj=>hh.heap.inj i j o p (hs i o hi) (hs j p hj)⟩,fun s v hg=>hh.env s v (he s v hg),hh.dfr,hh.mks,hh.mnd,hh.lk,hh.pin,hh.tsz⟩
theorem Good.new(hh:Good cx r m L F st a w)(id n:Nat)(o:Obj)(b:Go.Obj)(hid:¬ pinned id)
  (ho:RepO cx.yv ⟨fun i=>if i=id then w.heap.size else L.ρ i,fun i=>if i=id then n else L.κ i⟩ F (w.alloc b) id o) :
  Good cx r m ⟨fun i=>if i=id then w.heap.size else L.ρ i,fun i=>if i=id then n else L.κ i⟩ F (zf st (.new id o)) a (w.alloc b):=by
 have tr:Tr F w F (w.alloc b):=Tr.alloc hh.heap.fresh b;have hC:∀ c,cx.C st.s c->(w.alloc b).heap[c]?=w.heap[c]?:=fun c hc=>heap_alloc_old _ _ _ (hh.heap.csz c hc);have hg:∀ i o',get (zf st (.new id o)).heap i=some o'->(i=id/\o'=o)\/(i≠id /\ ∃ o0,get st.heap i=some o0/\o'=Obj.mapId (qz id) o0):=by
  intro i o' hi;simp only[zf,qI,jq,qQ,zZ]at hi;split at hi
  ·rename_i e;left;exact⟨e,by cases hi;rfl⟩
  ·rename_i e
   right;refine⟨e,?_⟩
   cases h0:get st.heap i with
   | none=>simp[h0]at hi
   | some o0=>simp[h0]at hi;exact⟨o0,rfl,hi.symm⟩
 refine⟨⟨cx.stable hh.heap.hg tr (fun c hc=>hh.heap.fresh c (by simp at hc;omega)) fun c hc=>⟨hC c hc,rfl⟩,fun c hc=>?_,fun c hc=>hh.heap.fresh c (by simp at hc;omega),?_,?_,?_⟩,?_,hh.dfr,?_,hh.mnd,?_,fun i hi=>?_,hh.tsz⟩
 ·have:=hh.heap.csz c hc;simp;omega
 ·intro i o' hi
  rcases hg i o' hi with⟨rfl,rfl⟩|⟨hne,o0,h0,rfl⟩
  ·exact ho
  ·refine RepO.mono tr i _ (fun j hj=>?_) ⟨by simp[hne],by simp[hne]⟩ (fun hb=>heap_alloc_old _ _ _ ?_) (RepO.kill id i o0 (hh.heap.obj i o0 h0))
   ·have:j≠id:=by rintro rfl;exact qeG j o0 hj
    simp[this]
   ·exact(hh.heap.obj i o0 h0).lt ((jr L id i o0).1 hb)
 ·intro i o' hi hb
  rcases hg i o' hi with⟨rfl,rfl⟩|⟨hne,o0,h0,rfl⟩
  ·simp only[if_true]
   refine⟨hh.heap.fresh _ (Nat.le_refl _),fun hc=>?_⟩;have:=hh.heap.csz _ hc;omega
  ·simp only[hne,if_false]
   have hb':Backed L i o0:=by
    have:=(jr _ id i o0).1 hb;cases o0<;>simp_all[Backed]
   exact hh.heap.own i o0 h0 hb'
 ·intro i j o' p hi hj hbi hbj e
  have key:∀ i o',get (zf st (.new id o)).heap i=some o'->i≠id->Backed ⟨fun i=>if i=id then w.heap.size else L.ρ i,fun i=>if i=id then n else L.κ i⟩ i o' -> ∃ o0,get st.heap i=some o0/\Backed L i o0:=by
   intro i o' hi hne hb;rcases hg i o' hi with⟨rfl,rfl⟩|⟨_,o0,h0,rfl⟩
   ·exact absurd rfl hne
   ·refine⟨o0,h0,?_⟩
    have:=(jr _ id i o0).1 hb;cases o0<;>simp_all[Backed]
  by_cases hie:i=id<;>by_cases hje:j=id
  ·rw[hie,hje]
  ·exfalso
   obtain⟨p0,hp0,hbp⟩:=key j p hj hje hbj;have:=(hh.heap.obj j p0 hp0).lt hbp;simp[hie,hje]at e;omega
  ·exfalso
   obtain⟨p0,hp0,hbp⟩:=key i o' hi hie hbi;have:=(hh.heap.obj i p0 hp0).lt hbp;simp[hie,hje]at e;omega
  ·obtain⟨o0,ho0,hb0⟩:=key i o' hi hie hbi
   obtain⟨p0,hp0,hbp⟩:=key j p hj hje hbj;simp only[hie,hje,if_false]at e;exact hh.heap.inj i j o0 p0 ho0 hp0 hb0 hbp e
 ·intro s v hs
  simp only[zf,qQ]at hs
  cases h0:get st.env s with
  | none=>simp[h0]at hs
  | some v0=>
   simp[h0]at hs;subst hs;obtain⟨x,hx,hr⟩:=hh.env s v0 h0;refine⟨x,hx,RepV.mono tr _ x (fun j hj=>?_) (RepV.kill id v0 x hr)⟩;have:j≠id:=by rintro rfl;exact qcA j v0 hj
   simp[this]
 ·intro b' hb'
  exact⟨by rw[heap_alloc_old _ _ _ (za (hh.mks b' hb').1)];exact(hh.mks b' hb').1,(hh.mks b' hb').2⟩
 ·intro l hl
  obtain⟨lp,hlp⟩:=hh.lk l hl;exact⟨lp,⟨by rw[heap_alloc_old _ _ _ (za hlp.1.1)];exact hlp.1.1,hlp.1.2⟩,hlp.2⟩
 ·have:i≠id:=by rintro rfl;exact hid hi
  simp only[this,if_false];exact hh.pin i hi
theorem Good.newEmpty(hh:Good cx r m L F st a w)(id sz:Nat)(hid:¬ pinned id)(hs:0<sz)(es:Els)(he:es.toV = []) :
  Good cx r m ⟨L.ρ,fun i=>if i=id then 0 else L.κ i⟩ F (zf st (.new id (.arr sz es))) a w:=by
 have tr:Tr F w F w:=Tr.refl F w;have hg:∀ i o',get (zf st (.new id (.arr sz es))).heap i=some o'->(i=id/\o' = .arr sz es)\/(i≠id /\ ∃ o0,get st.heap i=some o0/\o'=Obj.mapId (qz id) o0):=by
  intro i o' hi;simp only[zf,qI,jq,qQ,zZ]at hi;split at hi
  ·rename_i e;left;exact⟨e,by cases hi;rfl⟩
  ·rename_i e
   right;refine⟨e,?_⟩
   cases h0:get st.heap i with
   | none=>simp[h0]at hi
   | some o0=>simp[h0]at hi;exact⟨o0,rfl,hi.symm⟩
 have key:∀ i o',get (zf st (.new id (.arr sz es))).heap i=some o'->Backed ⟨L.ρ,fun i=>if i=id then 0 else L.κ i⟩ i o'->i≠id /\ ∃ o0,get st.heap i=some o0/\Backed L i o0:=by
  intro i o' hi hb;rcases hg i o' hi with⟨rfl,rfl⟩|⟨hne,o0,h0,rfl⟩
  ·simp[Backed]at hb
  ·refine⟨hne,o0,h0,?_⟩
   have:=(jr _ id i o0).1 hb;cases o0<;>simp_all[Backed]
 refine⟨⟨hh.heap.hg,hh.heap.csz,hh.heap.fresh,?_,?_,?_⟩,?_,hh.dfr,hh.mks,hh.mnd,hh.lk,fun i hi=>⟨(hh.pin i hi).1,by
  have:i≠id:=by rintro rfl;exact hid hi
  simp only[this,if_false];exact(hh.pin i hi).2⟩,hh.tsz⟩
 ·intro i o' hi
  rcases hg i o' hi with⟨rfl,rfl⟩|⟨hne,o0,h0,rfl⟩
  ·exact⟨hs,(by intro e h;rw[he]at h;cases h),.inl ⟨he,(by simp)⟩⟩
  ·refine RepO.mono (L:=L) tr i _ (fun j hj=>?_) ⟨rfl,by simp[hne]⟩ (fun _=>rfl) (RepO.kill id i o0 (hh.heap.obj i o0 h0))
   have:j≠id:=by rintro rfl;exact qeG j o0 hj
   simp[this]
 ·intro i o' hi hb
  obtain⟨_,o0,h0,hb0⟩:=key i o' hi hb;exact hh.heap.own i o0 h0 hb0
 ·intro i j o' p hi hj hbi hbj e
  obtain⟨_,o0,ho0,hb0⟩:=key i o' hi hbi;obtain⟨_,p0,hp0,hbp⟩:=key j p hj hbj;exact hh.heap.inj i j o0 p0 ho0 hp0 hb0 hbp e
 ·intro s v hs
  simp only[zf,qQ]at hs
  cases h0:get st.env s with
  | none=>simp[h0]at hs
  | some v0=>
   simp[h0]at hs;subst hs;obtain⟨x,hx,hr⟩:=hh.env s v0 h0;refine⟨x,hx,RepV.mono tr _ x (fun j hj=>?_) (RepV.kill id v0 x hr)⟩;have:j≠id:=by rintro rfl;exact qcA j v0 hj
   simp[this]
theorem Good.del(hh:Good cx r m L F st a w)(id:Nat):Good cx r m L F (zf st (.del id)) a w:=
 hh.sub (fun _ _ h=>h) fun i o h=>by
  simp only[zf,zZ]at h;split at h
  ·cases h
  ·exact h
theorem Good.obj(hh:Good cx r m L F st a w){id:Nat}{o0 o:Obj}(h0:get st.heap id=some o0)(hb0:Backed L id o0){w':World}
  (hos:w'.os=w.os) (ht:w'.tape=w.tape) (hu:w'.output=w.output) (hsz:w'.heap.size=w.heap.size) (hk:∀ b,b≠L.ρ id->w'.heap[b]?=w.heap[b]?)
  (hnd:∀ ds,w.heap[L.ρ id]?≠some (.deferred ds)) (hnl:∀ lp,w.heap[L.ρ id]?≠some (.loop lp))
  (ho:RepO cx.yv L F w' id o):Good cx r m L F (zf st (.obj id o)) a w'/\Tr F w F w':=by
 obtain⟨hF,hnC⟩:=hh.heap.own id o0 h0 hb0;have tr:Tr F w F w':=.of_keep hos ht hu (by omega) (fun _=>Nat.le_refl _) hh.heap.fresh fun b _ hF'=>hk b (by rintro rfl;omega);have hC:∀ c,cx.C st.s c->w'.heap[c]?=w.heap[c]?:=fun c hc=>hk c (by rintro rfl;exact hnC hc);have hg:∀ i o',get (zf st (.obj id o)).heap i=some o'->(i=id/\o'=o)\/(i≠id/\get st.heap i=some o'):=by
  intro i o' hi;simp only[zf,jq]at hi;split at hi
  ·rename_i e;left;exact⟨e,by cases hi;rfl⟩
  ·rename_i e;exact .inr ⟨e,hi⟩
 have hbk:∀ i o',get (zf st (.obj id o)).heap i=some o'->Backed L i o' -> ∃ o1,get st.heap i=some o1/\Backed L i o1:=by
  intro i o' hi hb;rcases hg i o' hi with⟨rfl,rfl⟩|⟨_,h⟩
  ·exact⟨o0,h0,hb0⟩
  ·exact⟨o',h,hb⟩
 refine⟨⟨⟨cx.stable hh.heap.hg tr (fun c hc=>hh.heap.fresh c (by omega)) fun c hc=>⟨hC c hc,rfl⟩,fun c hc=>by rw[hsz];exact hh.heap.csz c hc,fun c hc=>hh.heap.fresh c (by omega),?_,?_,?_⟩,?_,hh.dfr,?_,hh.mnd,?_,hh.pin,hh.tsz⟩,tr⟩
 ·intro i o' hi
  rcases hg i o' hi with⟨rfl,rfl⟩|⟨hne,h⟩
  ·exact ho
  ·refine RepO.mono tr i o' (fun _ _=>⟨rfl,rfl⟩) ⟨rfl,rfl⟩ (fun hb=>hk _ fun e=>hne (hh.heap.inj i id o' o0 h h0 hb hb0 e)) (hh.heap.obj i o' h)
 ·intro i o' hi hb
  obtain⟨o1,h1,hb1⟩:=hbk i o' hi hb;exact hh.heap.own i o1 h1 hb1
 ·intro i j o' p hi hj hbi hbj e
  obtain⟨o1,h1,hb1⟩:=hbk i o' hi hbi;obtain⟨o2,h2,hb2⟩:=hbk j p hj hbj;exact hh.heap.inj i j o1 o2 h1 h2 hb1 hb2 e
 ·intro s v hs
  obtain⟨x,hx,hr⟩:=hh.env s v hs;exact⟨x,hx,RepV.mono tr v x (fun _ _=>⟨rfl,rfl⟩) hr⟩
 ·intro b hb
  have:=(hh.mks b hb).1;exact⟨by rw[hk b (by rintro rfl;exact hnd _ this)];exact this,(hh.mks b hb).2⟩
 ·intro l hl
  obtain⟨lp,hlp⟩:=hh.lk l hl;exact⟨lp,⟨by rw[hk l (by rintro rfl;exact hnl _ hlp.1.1)];exact hlp.1.1,hlp.1.2⟩,hlp.2⟩
end
end Go.PX
namespace Go.PX
open Go.RowKit
theorem qdb{F:Nat->Nat}{w:World}{v:Value}{a:D}(h:qcZ v=some a):RepD F w a v:=by
 unfold qcZ at h;split at h<;>cases h<;>rfl
theorem qbO{F:Nat->Nat}{w:World}:∀ {l:List Value} {as:List D},qbh l=some as->RepDL F w as l
 | [],as,h=>by simp[qbh]at h;subst h;rfl
 | v::r,as,h=>by
  simp only[qbh]at h;split at h
  ·rename_i a l' ha hl'
   cases h;exact⟨v,r,rfl,qdb ha,qbO hl'⟩
  ·cases h
theorem qdL{F:Nat->Nat}{w:World}{v:Value}{a:D}(h:qeF v=some a):RepD F w a v:=by
 unfold qeF at h;split at h
 ·rename_i cs
  cases hs:qbh cs.toList with
  | none=>rw[hs]at h;cases h
  | some l=>rw[hs]at h;cases h;exact⟨cs,rfl,qbO hs⟩
 ·rename_i cs
  split at h
  ·rename_i h0
   cases h;exact⟨cs,rfl,h0⟩
  ·cases h
 ·exact qdb h
def qfZ(d:TypeDesc):Kd:=
 match d with
 | .bool=>.bool
 | .int k=>.int k
 | .string=>.str
 | .slice e=>.slice e
 | .struct fs => if fs.any (fun f => f.name == "_") then .other else .struct (fs.toList.map fun f => (f.offset, f.type))
 | .array n e=>.array n e
 | .map k e=>.map k e
 | .interface _=>.iface
 | _=>.other
def qjZ(d:TypeDesc):Bool:=
 match d with
 | .struct _=>true
 | .array _ _=>true
 | _=>false
def zeroCells(v:Value):Option (List D):=
 match qeF v with
 | some (.agg l)=>some l
 | some (.tup _)=>none
 | some v=>some [v]
 | none=>none
def qwl(v:Value):Bool:=
 match qeF v with
 | some (.agg _)=>true
 | _=>false
def qU(P:Program)(T:Tys):Prop:=
 ∀ t ti,T.get t=some ti -> ∃ i d,P.info? t=some i/\P.underlying t=some d/\ti.size=i.size/\ti.bytes=i.bytes/\ti.kd=qfZ d/\ti.isAgg=qjZ d /\
  (ti.held=false->P.stoodInHeld t=false /\ ∀ k,ti.kd = .int k->i.comparable=true)/\(∀ z,ti.zero=some z -> ∃ zv,i.zero=some zv/\zeroCells zv=some z/\qwl zv=ti.isAgg)
theorem qiW{d:TypeDesc}(h:qfZ d = .iface):∃ ms,d = .interface ms:=by
 unfold qfZ at h;split at h<;>first|exact⟨_,rfl⟩|(split at h<;>cases h)|cases h
theorem jI{d:TypeDesc}{e:TypeId}(h:qfZ d = .slice e):d = .slice e:=by
 unfold qfZ at h;split at h<;>first|(cases h;rfl)|(split at h<;>cases h)|cases h
theorem qbE{d:TypeDesc}(h:qfZ d = .str):d = .string:=by
 unfold qfZ at h;split at h<;>first|rfl|(split at h<;>cases h)|cases h
theorem qee{d:TypeDesc}{k:IntKind}(h:qfZ d = .int k):d = .int k:=by
 unfold qfZ at h;split at h<;>first|(cases h;rfl)|(split at h<;>cases h)|cases h
theorem qff{d:TypeDesc}(h:qfZ d = .bool):d = .bool:=by
 unfold qfZ at h;split at h<;>first|rfl|(split at h<;>cases h)|cases h
theorem qag{d:TypeDesc}{n:Nat}{e:TypeId}(h:qfZ d = .array n e):d = .array n e:=by
 unfold qfZ at h;split at h<;>first|(cases h;rfl)|(split at h<;>cases h)|cases h
theorem qgZ{d:TypeDesc}{k e:TypeId}(h:qfZ d = .map k e):d = .map k e:=by
 unfold qfZ at h;split at h<;>first|(cases h;rfl)|(split at h<;>cases h)|cases h
theorem qaX{d:TypeDesc}{fs:List (Nat×TypeId)}(h:qfZ d = .struct fs) :
  ∃ fa : Array Field, d = .struct fa /\ fs = fa.toList.map (fun f => (f.offset, f.type)) /\ ∀ f ∈ fa.toList, (f.name == "_") = false := by
 unfold qfZ at h;split at h<;>first|cases h|skip
 rename_i fa;split at h
 ·cases h
 ·rename_i hn
  cases h;refine⟨fa,rfl,rfl,fun f hf=>?_⟩
  have hn' : fa.any (fun f => f.name == "_") = false := by simpa using hn
  rw[Array.any_eq_false']at hn';simpa using hn' f (by simpa using hf)
section
variable {P : Program} {T : Tys} {w : World}
theorem qcB(hT:qU P T){t:TypeId}{ti:TyI}(h:T.get t=some ti):(isAgg t).run P w = .ok ti.isAgg w:=by
 obtain⟨i,d,hi,hd,hsz,hby,hkd,hag,hhe,hz⟩:=hT t ti h;unfold isAgg;rw[hag];cases d<;>simp[run_underlying hd,qjZ]
theorem jC(hT:qU P T){t:TypeId}{ti:TyI}(h:T.get t=some ti):(sizeOf t).run P w = .ok ti.size w:=by
 obtain⟨i,d,hi,hd,hsz,hby,hkd,hag,hhe,hz⟩:=hT t ti h;simp[sizeOf,typeInfo,hi,hsz]
end
theorem zw{b:Bool}{K:Prop}(h:chk b K):b=true/\K:=by
 cases b
 ·exact h.elim
 ·exact⟨rfl,h⟩
theorem qka{b:Bool}{X Y:Prop}(h:brk b X Y):(b=true/\X)\/(b=false/\Y):=by
 cases b
 ·exact .inr ⟨rfl,h⟩
 ·exact .inl ⟨rfl,h⟩
theorem qga{n m:Nat}(h:Nat.ble n m=true):n<=m:=Nat.le_of_ble_eq_true h
theorem qah{n m:Nat}(h:Nat.beq n m=true):n=m:=Nat.eq_of_beq_eq_true h
theorem qlk{n m:Nat}(h:(!Nat.beq n m)=true):n≠m:=by
 intro e;subst e;simp at h
section
variable {σ : Type} {cx : Cx σ} {r : Option Nat} {m : List Nat} {L : Loc} {F : Nat -> Nat} {st : St σ} {a : Act} {w : World}
theorem qo{e e':Env}(hs:qaF e e'){x:Operand}{v:V}(hx:opnd e x=some v):opnd e' x=some v:=by
 cases x with
 | tmp t=>exact hs t v hx
 | const c=>exact hx
 | func f=>exact hx
 | global g=>exact hx
theorem qcC{e e':Env}(hs:qaF e e'):∀ {l:List Operand} {vs:List V},opnds e l=some vs->opnds e' l=some vs
 | [],vs,h=>h
 | x::r,vs,h=>by
  simp only[opnds]at h ⊢
  cases hx:opnd e x with
  | none=>simp[hx]at h
  | some v=>
   cases hr:opnds e r with
   | none=>simp[hx,hr]at h
   | some l=>simp[hx,hr]at h;simp[qo hs hx,qcC hs hr,h]
theorem Good.opnd(h:Good cx r m L F st a w){x:Operand}{v:V}(hx:PX.opnd st.env x=some v):RepV cx.yv L F w v (a.eval x):=by
 cases x with
 | tmp t=>
  obtain⟨y,hy,hr⟩:=h.env t v hx;simpa[Act.eval,hy]using hr
 | const c=>
  simp only[PX.opnd]at hx;split at hx
  ·rename_i v' hv;cases hx;exact qdL hv
  ·cases hx
 | func f=>
  simp only[PX.opnd,Option.some.injEq]at hx;subst hx;exact⟨#[],rfl,rfl⟩
 | global g=>simp[PX.opnd]at hx
theorem Good.opnds(h:Good cx r m L F st a w):∀ {l:List Operand} {vs:List V},PX.opnds st.env l=some vs->RepVL cx.yv L F w vs (l.map a.eval)
 | [],vs,hx=>by simp[PX.opnds]at hx;subst hx;rfl
 | x::r,vs,hx=>by
  simp only[PX.opnds]at hx
  cases hv:PX.opnd st.env x with
  | none=>simp[hv]at hx
  | some v=>
   cases hr:PX.opnds st.env r with
   | none=>simp[hv,hr]at hx
   | some l=>simp[hv,hr]at hx;subst hx;exact⟨_,_,rfl,h.opnd hv,h.opnds hr⟩
end
theorem qR{P:Program}{e:Env}{h:Heap}{o:Oper}{v:V}
  (hr:∀ {σ:Type} (cx:Cx σ) (r:Option Nat) (m:List Nat) (L:Loc) (F:Nat->Nat) (st:St σ) (a:Act) (w:World),qaF e st.env->qaF h st.heap->Good cx r m L F st a w ->
   ∃ x,(execOp a.eval o).run P w = .ok (.value x) w/\RepV cx.yv L F w v x):Out P e h o (wset o.dst v):=by
 intro σ cx r m L F st a w he hh hg hd;obtain⟨x,hx,hv⟩:=hr cx r m L F st a w he hh hg;exact⟨x,w,_,hx,.inl rfl,L,F,hg.wset hd hv,Tr.refl F w⟩
section
variable {P : Program} {T : Tys} {e : Env} {h : Heap} {dst : Option Nat} {K : List Wr -> Prop} {ty : TypeId} {pos : String} {after : Array Edge} {guard : Option (Nat × Bool)}
theorem qtg{x:Operand}(hk:opK T e h dst (.move x) K):∃ ws,K ws/\Out P e h ⟨dst,.move x,ty,pos,after,guard⟩ ws:=by
 simp only[opK]at hk;split at hk
 ·rename_i v hv
  exact⟨_,hk,qR (o:=⟨dst,.move x,ty,pos,after,guard⟩) fun cx r m L F st a w he hh hg=>⟨_,by simp[execOp],hg.opnd (qo he hv)⟩⟩
 ·exact hk.elim
theorem qps{x:Operand}(hk:opK T e h dst (.assign x) K):∃ ws,K ws/\Out P e h ⟨dst,.assign x,ty,pos,after,guard⟩ ws:=by
 simp only[opK]at hk;split at hk
 ·rename_i v hv
  exact⟨_,hk,qR (o:=⟨dst,.assign x,ty,pos,after,guard⟩) fun cx r m L F st a w he hh hg=>⟨_,by simp[execOp],hg.opnd (qo he hv)⟩⟩
 ·exact hk.elim
theorem qfg{σ:Type}{cx:Cx σ}{r:Option Nat}{m:List Nat}{L:Loc}{F:Nat->Nat}{st:St σ}{a:Act}{w:World}(hg:Good cx r m L F st a w){x:Operand}{b:Bool}
  (he:qaF e st.env) (hx:opnd e x=some (.d (.bool b))):a.eval x = .bool b:=hg.opnd (qo he hx)
theorem qbF{σ:Type}{cx:Cx σ}{r:Option Nat}{m:List Nat}{L:Loc}{F:Nat->Nat}{st:St σ}{a:Act}{w:World}(hg:Good cx r m L F st a w){x:Operand}{k:IntKind}{n:Int}
  (he:qaF e st.env) (hx:opnd e x=some (.d (.int k n))):a.eval x = .int k n:=hg.opnd (qo he hx)
theorem qdc{σ:Type}{cx:Cx σ}{r:Option Nat}{m:List Nat}{L:Loc}{F:Nat->Nat}{st:St σ}{a:Act}{w:World}(hg:Good cx r m L F st a w){x:Operand}{s:ByteArray}
  (he:qaF e st.env) (hx:opnd e x=some (.d (.str s))):a.eval x = .string s:=hg.opnd (qo he hx)
theorem qth{c x y:Operand}(hk:opK T e h dst (.pick c x y) K):∃ ws,K ws/\Out P e h ⟨dst,.pick c x y,ty,pos,after,guard⟩ ws:=by
 simp only[opK]at hk;have key:∀ (t:Bool) (z:Operand) (v:V),opnd e c=some (.d (.bool t))->z=(if t then x else y)->opnd e z=some v->Out P e h ⟨dst,.pick c x y,ty,pos,after,guard⟩ (wset dst v):=by
  intro t z v hc hz hv;refine qR (o:=⟨dst,.pick c x y,ty,pos,after,guard⟩) fun cx r m L F st a w he hh hg=>⟨a.eval z,?_,hg.opnd (qo he hv)⟩;have:=qfg hg he hc;cases t<;>simp[execOp,this,asBool,hz]
 split at hk
 ·rename_i t va vb hc hx hy
  rcases qka hk with⟨rfl,hk⟩|⟨rfl,hk⟩
  ·exact⟨_,hk,key true x va hc rfl hx⟩
  ·exact⟨_,hk,key false y vb hc rfl hy⟩
 ·rename_i t va hc hx hy
  obtain⟨rfl,hk⟩:=zw hk;exact⟨_,hk,key true x va hc rfl hx⟩
 ·rename_i t vb hc hx hy
  obtain⟨hb,hk⟩:=zw hk;have hb:t=false:=by simpa using hb
  subst hb;exact⟨_,hk,key false y vb hc rfl hy⟩
 ·exact hk.elim
theorem qll{x:Operand}(hk:opK T e h dst (.nilCheck x) K):∃ ws,K ws/\Out P e h ⟨dst,.nilCheck x,ty,pos,after,guard⟩ ws:=by
 simp only[opK]at hk;split at hk;case h_2=>exact hk.elim
 rename_i v hv;have key:(∀ (yv:Option Nat) (L:Loc) (F:Nat->Nat) (w:World) (y:Value),RepV yv L F w v y->(∃ p,y = .pointer (some p))\/(∃ f l,y = .func (.func f) #[] l) \/ ∃ t u,y = .iface t u) ->
   Out P e h ⟨dst,.nilCheck x,ty,pos,after,guard⟩ (wset dst v):=by
  intro hy;refine qR (o:=⟨dst,.nilCheck x,ty,pos,after,guard⟩) fun cx r m L F st a w he hh hg=>⟨a.eval x,?_,hg.opnd (qo he hv)⟩;rcases hy _ _ _ _ _ (hg.opnd (qo he hv)) with⟨p,hp⟩|⟨f,l,hp⟩|⟨t,u,hp⟩<;>simp[execOp,hp]
 split at hk
 ·exact⟨_,hk,key fun yv L F w y hy=>by obtain⟨b,off,rfl,_⟩:=hy;exact .inl ⟨_,rfl⟩⟩
 ·exact⟨_,hk,key fun yv L F w y hy=>.inl ⟨_,hy⟩⟩
 ·exact⟨_,hk,key fun yv L F w y hy=>.inl ⟨_,hy⟩⟩
 ·exact⟨_,hk,key fun yv L F w y hy=>by obtain⟨l,rfl,_⟩:=hy;exact .inr (.inl ⟨_,_,rfl⟩)⟩
 ·exact⟨_,hk,key fun yv L F w y hy=>by obtain⟨l,rfl,_⟩:=hy;exact .inr (.inl ⟨_,_,rfl⟩)⟩
 ·exact⟨_,hk,key fun yv L F w y hy=>by obtain⟨l,rfl,_⟩:=hy;exact .inr (.inr ⟨_,_,rfl⟩)⟩
 ·exact hk.elim
theorem qeH{k:IntKind}{n:Int}{K:V->Prop}(h:arith k n K):K (.d (.int k (k.wrap n))):=by cases h;assumption
theorem qti{op:UnOp}{t:TypeId}{x:Operand}(hk:opK T e h dst (.unOp op t x) K):∃ ws,K ws/\Out P e h ⟨dst,.unOp op t x,ty,pos,after,guard⟩ ws:=by
 simp only[opK]at hk;split at hk
 ·rename_i b hv
  exact⟨_,hk,qR (v:=.d (.bool !b)) (o:=⟨dst,.unOp .not t x,ty,pos,after,guard⟩) fun cx r m L F st a w he hh hg=>⟨.bool !b,by simp[execOp,qfg hg he hv,Op.unary],rfl⟩⟩
 ·rename_i k n hv
  exact⟨_,qeH hk,qR (v:=.d (.int k (k.wrap (0-n)))) (o:=⟨dst,.unOp .neg t x,ty,pos,after,guard⟩) fun cx r m L F st a w he hh hg=>⟨.int k (k.wrap (0-n)),by simp[execOp,qbF hg he hv,Op.unary,Op.intArith],rfl⟩⟩
 ·exact hk.elim
theorem qna(hT:qU P T){s d:TypeId}{x:Operand}(hk:opK T e h dst (.convert s d x) K):∃ ws,K ws/\Out P e h ⟨dst,.convert s d x,ty,pos,after,guard⟩ ws:=by
 simp only[opK]at hk;split at hk;case h_2=>exact hk.elim
 rename_i si di v hs hd hv;obtain⟨i,dd,hi,hdd,_,_,hk1,_⟩:=hT s si hs;obtain⟨j,de,hj,hde,_,_,hk2,_⟩:=hT d di hd;split at hk
 ·rename_i k1 k k2 n e1 e2
  rw[e1]at hk1;rw[e2]at hk2;have e1:=qee hk1.symm;have e2:=qee hk2.symm;subst e1 e2;exact⟨_,qeH hk,qR (v:=.d (.int k (k.wrap n))) (o:=⟨dst,.convert s d x,ty,pos,after,guard⟩) fun cx r m L F st a w he hh hg=>
   ⟨.int k (k.wrap n),by simp[execOp,qbF hg he hv,convert,run_underlying hdd,run_underlying hde,Conv.intToInt],rfl⟩⟩
 ·rename_i sv e1 e2
  rw[e1]at hk1;rw[e2]at hk2;have e1:=qbE hk1.symm;have e2:=qbE hk2.symm;subst e1 e2;exact⟨_,hk,qR (v:=.d (.str sv)) (o:=⟨dst,.convert s d x,ty,pos,after,guard⟩) fun cx r m L F st a w he hh hg=>
   ⟨.string sv,by simp[execOp,qdc hg he hv,convert,run_underlying hdd,run_underlying hde],rfl⟩⟩
 ·exact hk.elim
theorem qeI{α:Type}{cs:List α}{n:Nat}{K:α->Prop}(h:qhl cs n K):∃ v,cs[n]?=some v/\K v:=by
 unfold qhl at h;split at h
 ·rename_i v hv;exact⟨v,hv,h⟩
 ·exact h.elim
theorem RepDL.get{F:Nat->Nat}{w:World}{cs:List D}{l:List Value}(i:Nat){c:D}(h:RepDL F w cs l)(hi:cs[i]?=some c):∃ x,l[i]?=some x/\RepD F w c x:=by
 have:=RepVL.get (yv:=none) (L:=⟨fun _=>0,fun _=>0⟩) (c:=.d c) i (RepVL.inj.2 h) (by rw[qjX,hi];rfl);exact this
theorem qnb{x:Operand}{i:Nat}(hk:opK T e h dst (.extract x i) K):∃ ws,K ws/\Out P e h ⟨dst,.extract x i,ty,pos,after,guard⟩ ws:=by
 simp only[opK]at hk;split at hk
 ·rename_i l hv
  obtain⟨v,hi,hk⟩:=qeI hk;refine⟨_,hk,qR (o:=⟨dst,.extract x i,ty,pos,after,guard⟩) fun cx r m L F st a w he hh hg=>?_⟩;obtain⟨vs,hev,hl⟩:=hg.opnd (qo he hv);obtain⟨y,hy,hry⟩:=RepDL.get i hl hi;have hy':vs[i]?=some y:=by simpa using hy
  exact⟨y,by simp[execOp,hev,Instr.extract,hy'],hry⟩
 ·rename_i l hv
  obtain⟨v,hi,hk⟩:=qeI hk;refine⟨_,hk,qR (o:=⟨dst,.extract x i,ty,pos,after,guard⟩) fun cx r m L F st a w he hh hg=>?_⟩;obtain⟨vs,hev,hl⟩:=hg.opnd (qo he hv);obtain⟨y,hy,hry⟩:=RepVL.get i hl hi;have hy':vs[i]?=some y:=by simpa using hy
  exact⟨y,by simp[execOp,hev,Instr.extract,hy'],hry⟩
 ·exact hk.elim
end
theorem qnc(b c:ByteArray):(b.toList ==c.toList)=decide (b=c):=by
 rw[<- beq_toListBytes,Bool.eq_iff_iff,decide_eq_true_eq];constructor
 ·intro h
  have h:(b.data ==c.data)=true:=h;cases b;cases c;simp only[beq_iff_eq]at h;rw[h]
 ·rintro rfl
  show(b.data ==b.data)=true;simp
theorem qqP(b c:Int):(b ==c)=decide (b=c):=rfl
theorem qlm{P:Program}{w:World}(b c:ByteArray):(Op.stringOp .eql b c).run P w = .ok (.bool (decide (b=c))) w:=by
 simp[Op.stringOp,qnc]
theorem qln{P:Program}{w:World}(b c:ByteArray):(Op.stringOp .neq b c).run P w = .ok (.bool (!decide (b=c))) w:=by
 simp[Op.stringOp,bne,qnc]
theorem RepDL.take{F:Nat->Nat}{w:World}{cs:List D}{l:List Value}(n:Nat)(h:RepDL F w cs l):RepDL F w (cs.take n) (l.take n):=by
 have:=RepVL.take (yv:=none) (L:=⟨fun _=>0,fun _=>0⟩) n (RepVL.inj.2 h);rw[<- qjV]at this;exact RepVL.inj.1 this
theorem RepDL.drop{F:Nat->Nat}{w:World}{cs:List D}{l:List Value}(n:Nat)(h:RepDL F w cs l):RepDL F w (cs.drop n) (l.drop n):=by
 have:=RepVL.drop (yv:=none) (L:=⟨fun _=>0,fun _=>0⟩) n (RepVL.inj.2 h);rw[<- qjW]at this;exact RepVL.inj.1 this
section
variable {P : Program} {T : Tys} {F : Nat -> Nat} {w : World}
def qht(T:Tys)(F:Nat->Nat)(w:World)(t:TypeId)(xs:List D)(x:Value):Prop:=
 ∀ ti,T.get t=some ti->if ti.isAgg then ∃ l:Array Value,x = .agg l/\RepDL F w xs l.toList else ∀ c,xs = [c]->RepD F w c x
theorem qck(hT:qU P T){t:TypeId}{ti:TyI}(ht:T.get t=some ti){cs:Array Value}{xs:List D}{off:Nat}(hx:RepDL F w xs cs.toList)(h:off+ti.size<=xs.length)(h1:0<ti.size) :
  ∃ x,(part t cs off).run P w = .ok x w/\qht T F w t ((xs.drop off).take ti.size) x:=by
 unfold part;have hs:=jC (w:=w) hT ht;have hl:cs.size=xs.length:=by simpa using hx.length
 cases hA:ti.isAgg
 ·have hlt:off<cs.size:=by omega
  refine⟨cs[off],?_,fun ti' hti'=>?_⟩
  ·simp[qcB hT ht,hA,hlt]
  ·rw[ht]at hti';cases hti'
   simp only[hA,Bool.false_eq_true,if_false];intro c hc;have hc':xs[off]?=some c:=by
    have:((xs.drop off).take ti.size)[0]?=some c:=by rw[hc];rfl
    rw[List.getElem?_take_of_lt h1,List.getElem?_drop]at this;simpa using this
   obtain⟨y,hy,hr⟩:=RepDL.get off hx hc';have:cs[off]=y:=by
    have:=(List.getElem?_eq_some_iff.1 hy).2;simpa using this
   rw[this];exact hr
 ·refine⟨.agg (cs.extract off (off+ti.size)),?_,fun ti' hti'=>?_⟩
  ·simp[qcB hT ht,hA,hs]
  ·rw[ht]at hti';cases hti'
   simp only[hA,if_true];refine⟨_,rfl,?_⟩;have:(cs.extract off (off+ti.size)).toList=(cs.toList.drop off).take ti.size:=by simp[List.extract_eq_take_drop]
   rw[this];exact RepDL.take _ (RepDL.drop off hx)
theorem qiX(hT:qU P T){eq:TypeId->List D->List D->Option Bool}{N:Nat}
  (heq:∀ (t:TypeId) (xs ys:List D) (r:Bool),eq t xs ys=some r ->
   P.eqGuardType N t=false /\ ∀ (x y:Value),qht T F w t xs x->qht T F w t ys y->(Op.equalIn N t x y).run P w = .ok r w) :
  ∀ (fs : List Field), (∀ f ∈ fs, (f.name == "_") = false) -> ∀ (xs ys : List D) (r : Bool), qwt T eq (fs.map fun f => (f.offset, f.type)) xs ys = some r ->
  (∀ f∈fs,P.eqGuardType N f.type=false) /\ ∀ (lx ly:Array Value),RepDL F w xs lx.toList->RepDL F w ys ly.toList->(Op.eqFields N lx ly fs).run P w = .ok r w
 | [],_,xs,ys,r,h=>by
  simp only[List.map_nil,qwt,Option.some.injEq]at h;subst h;exact⟨by simp,fun _ _ _ _=>by simp[Op.eqFields]⟩
 | f::fs,hnm,xs,ys,r,h=>by
  simp only[List.map_cons,qwt]at h;split at h
  ·cases h
  rename_i ti hti;split at h;case h_2=>cases h
  rename_i hn0 hxl hyl;have hn0:ti.size≠0:=by intro e;rw[e]at hn0;simp at hn0
  have hxl:=qga hxl;have hyl:=qga hyl;split at h
  ·rename_i b c hb hc'
   cases h;have h1:=heq f.type _ _ b hb;have h2:=qiX hT heq fs (fun g hg=>hnm g (List.mem_cons_of_mem _ hg)) xs ys c hc';refine⟨fun g hg=>?_,fun lx ly hlx hly=>?_⟩
   ·rcases List.mem_cons.1 hg with rfl|hg
    ·exact h1.1
    ·exact h2.1 g hg
   ·obtain⟨x,hx,hvx⟩:=qck (F:=F) (w:=w) hT hti hlx hxl (by omega)
    obtain⟨y,hy,hvy⟩:=qck (F:=F) (w:=w) hT hti hly hyl (by omega)
    have hnf : f.name ≠ "_" := by
     have:=hnm f (List.mem_cons_self ..);simpa using this
    simp only[Op.eqFields,hnf,ne_eq,not_false_eq_true,if_true,Sem.run_bind,hx,hy,Result.andThen_ok,h1.2 x y hvx hvy];cases b
    ·simp
    ·simp[h2.2 lx ly hlx hly]
  ·cases h
theorem qiY(hT:qU P T){e:TypeId}{ei:TyI}(hei:T.get e=some ei)(h0:0<ei.size){eq:List D->List D->Option Bool}{N:Nat}
  (heq:∀ (xs ys:List D) (r:Bool),eq xs ys=some r->P.eqGuardType N e=false /\ ∀ (x y:Value),qht T F w e xs x->qht T F w e ys y->(Op.equalIn N e x y).run P w = .ok r w) :
  ∀ (n i:Nat) (xs ys:List D) (r:Bool) (lx ly:Array Value),RepDL F w xs lx.toList->RepDL F w ys ly.toList->qwi eq ei.size n (xs.drop (i*ei.size)) (ys.drop (i*ei.size))=some r ->
   (Op.eqItems N e ei.size lx ly (List.range' i n)).run P w = .ok r w
 | 0,i,xs,ys,r,lx,ly,hlx,hly,h=>by
  simp only[qwi,Option.some.injEq]at h;subst h;simp[Op.eqItems]
 | n+1,i,xs,ys,r,lx,ly,hlx,hly,h=>by
  simp only[qwi]at h;split at h;case h_2=>cases h
  rename_i hxl hyl;have hxl:=qga hxl;have hyl:=qga hyl;split at h;case h_2=>cases h
  rename_i a b ha hb;cases h;rw[List.length_drop]at hxl hyl;obtain⟨x,hx,hvx⟩:=qck (F:=F) (w:=w) hT hei hlx (off:=i*ei.size) (by omega) h0;obtain⟨y,hy,hvy⟩:=qck (F:=F) (w:=w) hT hei hly (off:=i*ei.size) (by omega) h0;have h1:=(heq _ _ _ ha).2 x y hvx hvy;have h2:=qiY hT hei h0 heq n (i+1) xs ys b lx ly hlx hly (by
   have e1:(i+1)*ei.size=i*ei.size+ei.size:=Nat.succ_mul _ _;rw[e1,<- List.drop_drop,<- List.drop_drop];exact hb)
  simp only[List.range'_succ,Op.eqItems,Sem.run_bind,hx,hy,Result.andThen_ok,h1];cases a
  ·simp
  ·simp[h2]
theorem qhu(hT:qU P T):∀ (d:Nat) (t:TypeId) (xs ys:List D) (r:Bool),eqV T d t xs ys=some r -> ∀ (N:Nat),d<=N ->
  P.eqGuardType N t=false /\ ∀ (x y:Value),qht T F w t xs x->qht T F w t ys y->(Op.equalIn N t x y).run P w = .ok r w
 | 0,_,_,_,_,h,_,_=>by simp[eqV]at h
 | d+1,t,xs,ys,r,h,0,hN=>by omega
 | d+1,t,xs,ys,r,h,N+1,hN=>by
  simp only[eqV]at h;split at h
  ·cases h
  rename_i ti hti;obtain⟨i,de,hi,hde,_,_,hkd,hag,hhe,_⟩:=hT t ti hti;split at h
  ·rename_i hk
   have e:=qff (hkd▸hk);subst e;split at h
   ·rename_i b c;cases h
    refine⟨by simp[Program.eqGuardType,hde],fun x y hx hy=>?_⟩;have hx':=hx ti hti;have hy':=hy ti hti;rw[hag]at hx' hy';have ex:x = .bool b:=hx' _ rfl;have ey:y = .bool c:=hy' _ rfl;subst ex ey;exact run_equalIn_bool' w N t b c hde
   ·cases h
  ·rename_i k hk
   have e:=qee (hkd▸hk);subst e;split at h
   ·rename_i k1 b k2 c
    split at h
    ·rename_i hkk;have hkk:=of_decide_eq_true hkk;subst hkk;cases h
     refine⟨by simp[Program.eqGuardType,hde],fun x y hx hy=>?_⟩;have hx':=hx ti hti;have hy':=hy ti hti;rw[hag]at hx' hy';have ex:x = .int k1 b:=hx' _ rfl;have ey:y = .int k1 c:=hy' _ rfl;subst ex ey;exact run_equalIn_int w N t k1 k b c hde
    ·cases h
   ·cases h
  ·rename_i hk
   have e:=qbE (hkd▸hk);subst e;split at h
   ·rename_i b c;cases h
    refine⟨by simp[Program.eqGuardType,hde],fun x y hx hy=>?_⟩;have hx':=hx ti hti;have hy':=hy ti hti;rw[hag]at hx' hy';have ex:x = .string b:=hx' _ rfl;have ey:y = .string c:=hy' _ rfl;subst ex ey;rw[run_equalIn_string w N t b c hde,qnc]
   ·cases h
  ·rename_i fs hk
   obtain⟨fa,rfl,rfl,hnm⟩:=qaX (hkd▸hk);split at h
   ·cases h
   rename_i hheld;have hheld':P.stoodInHeld t=false:=(hhe hheld).1;have hF:=qiX (P:=P) (F:=F) (w:=w) hT (fun t xs ys r h=>qhu hT d t xs ys r h N (by omega)) fa.toList hnm xs ys r h;refine⟨?_,fun x y hx hy=>?_⟩
   ·simp only[Program.eqGuardType,hde]
    rw[Array.any_eq_false'];intro f hf;have:=hF.1 f (by simpa using hf);simp[this]
   ·have hx':=hx ti hti;have hy':=hy ti hti
    rw[hag]at hx' hy';simp only[qjZ,if_true]at hx' hy';obtain⟨lx,rfl,hlx⟩:=hx';obtain⟨ly,rfl,hly⟩:=hy';have hfo:P.fieldsOf t=fa:=by simp[Program.fieldsOf,hde]
    rw[run_equalIn_struct w N t lx ly (by rw[hfo];exact hde) hheld',hfo];exact hF.2 lx ly hlx hly
  ·rename_i n e hk
   have e':=qag (hkd▸hk);subst e';split at h;case h_2=>cases h
   rename_i ei hei;split at h;case h_2=>cases h
   rename_i hsz hn0;have hsz:ei.size≠0:=by intro e;rw[e]at hsz;simp at hsz
   obtain⟨ie,_,hie,_,hsize,_⟩:=hT e ei hei;have hce:P.cellsOf e=ei.size:=by simp[Program.cellsOf,hie,hsize]
   have heq:=fun xs ys r h=>qhu (xs:=xs) (ys:=ys) (r:=r) hT d e h N (by omega);have hI:=qiY (P:=P) (F:=F) (w:=w) (T:=T) hT hei (Nat.pos_of_ne_zero hsz) (N:=N) (eq:=fun xs ys=>eqV T d e xs ys) (fun xs ys r h=>heq xs ys r h);refine⟨?_,fun x y hx hy=>?_⟩
   ·simp only[Program.eqGuardType,hde]
    cases n with
    | zero=>simp at hn0
    | succ n=>
     simp only[qwi]at h;split at h;case h_2=>cases h
     split at h;case h_2=>cases h
     rename_i a b ha _;exact(heq _ _ _ ha).1
   ·have hx':=hx ti hti;have hy':=hy ti hti
    rw[hag]at hx' hy';simp only[qjZ,if_true]at hx' hy';obtain⟨lx,rfl,hlx⟩:=hx';obtain⟨ly,rfl,hly⟩:=hy';rw[run_equalIn_array w N lx ly hde hie,hce,List.range_eq_range'];exact hI n 0 xs ys r lx ly hlx hly (by simpa using h)
  ·cases h
theorem qtj:9<=P.depth:=by unfold Program.depth Made.depth;omega
theorem qdd{op:BinOp}{t:TypeId}{x y:Operand}{u v:Value}(h:∀ l,u ≠ .agg l)(h2:u ≠ .nilIface):(eqGuard op t x y u v).run P w = .ok () w:=by
 have key:∀ (m1:Sem Unit) (m2:Sem Unit),(match u,v with
   | .nilIface,.nilIface=>m1
   | .agg _,.agg _=>m2
   | _,_=>pure ()).run P w = .ok () w:=by
  intro m1 m2;cases u<;>first|exact absurd rfl h2|exact absurd rfl (h _)|(cases v<;>rfl)
 unfold eqGuard;cases op<;>first|(simp;done)|skip
 ·exact key _ _
 ·exact key _ _
end
theorem qoi{P:Program}{T:Tys}(hT:qU P T){t:TypeId}(h:qqH T t=true):P.underlying t=some .bool:=by
 unfold qqH at h;split at h
 ·rename_i ti hti
  split at h
  ·rename_i hk
   obtain⟨i,de,hi,hde,_,_,hkd,_⟩:=hT t ti hti;rw[hk]at hkd;rw[hde,qff hkd.symm]
  ·cases h
 ·cases h
theorem qpt{T:Tys}{t:TypeId}(h:qgX T t=true):∃ ti,T.get t=some ti/\((∃ fs,ti.kd = .struct fs) \/ ∃ n e,ti.kd = .array n e):=by
 unfold qgX at h;split at h
 ·rename_i ti hti
  split at h
  ·rename_i fs hk;exact⟨ti,hti,.inl ⟨fs,hk⟩⟩
  ·rename_i n e hk;exact⟨ti,hti,.inr ⟨n,e,hk⟩⟩
  ·cases h
 ·cases h
theorem qqQ{x:Option Bool}{K:V->Prop}(h:qtc x K):∃ b,x=some b/\K (.d (.bool b)):=by
 unfold qtc at h;split at h
 ·exact⟨_,rfl,h⟩
 ·exact h.elim
theorem qww{x:Option Bool}{b:Bool}(h:qxG x=some b):∃ c,x=some c/\b = !c:=by
 unfold qxG at h;split at h
 ·cases h;exact⟨_,rfl,rfl⟩
 ·cases h
section
variable {P : Program} {T : Tys} {e : Env} {h : Heap} {dst : Option Nat} {K : List Wr -> Prop} {ty : TypeId} {pos : String} {after : Array Edge} {guard : Option (Nat × Bool)}
theorem qqR(hT:qU P T){t:TypeId}(h:qhm T t=true):∃ ms,P.underlying t=some (.interface ms):=by
 unfold qhm at h;split at h;case h_2=>cases h
 rename_i ti ht;split at h;case h_2=>cases h
 rename_i he;obtain⟨_,de,_,hde,_,_,hk1,_⟩:=hT t ti ht;rw[he]at hk1;obtain⟨ms,rfl⟩:=qiW hk1.symm;exact⟨ms,hde⟩
theorem qtk(hT:qU P T){op:BinOp}{t t':TypeId}{x y:Operand}{u v:V}(hu:opnd e x=some u)(hv:opnd e y=some v)(hk:qxH T op t u v fun v=>K (wset dst v)):∃ ws,K ws/\Out P e h ⟨dst,.binOp op t x y t',ty,pos,after,guard⟩ ws:=by
 have fin:∀ (d:D) (hd:K (wset dst (.d d))),(∀ {σ:Type} (cx:Cx σ) (r:Option Nat) (m:List Nat) (L:Loc) (F:Nat->Nat) (st:St σ) (a:Act) (w:World),qaF e st.env->Good cx r m L F st a w ->
   ∃ s,(eqGuard op t x y (a.eval x) (a.eval y)).run P w = .ok () w/\(binOp op t (a.eval x) (a.eval y)).run P w = .ok s w/\RepD F w d s) -> ∃ ws,K ws/\Out P e h ⟨dst,.binOp op t x y t',ty,pos,after,guard⟩ ws:=by
  intro d hd hr;refine⟨_,hd,qR (v:=.d d) (o:=⟨dst,.binOp op t x y t',ty,pos,after,guard⟩) fun cx r m L F st a w he hh hg=>?_⟩;obtain⟨s,h1,h2,h3⟩:=hr cx r m L F st a w he hg;exact⟨s,by simp[execOp,h1,h2],h3⟩
 unfold qxH at hk;split at hk
 ·rename_i k b k' c
  have ints:∀ {σ:Type} (cx:Cx σ) (r:Option Nat) (m:List Nat) (L:Loc) (F:Nat->Nat) (st:St σ) (a:Act) (w:World),qaF e st.env->Good cx r m L F st a w ->
    a.eval x = .int k b/\a.eval y = .int k' c/\(eqGuard op t x y (a.eval x) (a.eval y)).run P w = .ok () w:=by
   intro σ cx r m L F st a w he hg;have hx:=qbF hg he hu;have hy:=qbF hg he hv;exact⟨hx,hy,by rw[hx,hy];exact qdd (fun l e=>by cases e) (fun e=>by cases e)⟩
  split at hk
  ·obtain⟨hc,hk⟩:=zw hk
   have hc:0<=c:=of_decide_eq_true hc;refine fin _ (qeH hk) fun cx r m L F st a w he hg=>?_;obtain⟨hx,hy,h1⟩:=ints cx r m L F st a w he hg;exact⟨_,h1,by rw[hx,hy];simp[binOp,Op.shift,show ¬ c<0 by omega],rfl⟩
  ·obtain⟨hc,hk⟩:=zw hk
   have hc:0<=c:=of_decide_eq_true hc;refine fin _ hk fun cx r m L F st a w he hg=>?_;obtain⟨hx,hy,h1⟩:=ints cx r m L F st a w he hg;exact⟨_,h1,by rw[hx,hy];simp[binOp,Op.shift,show ¬ c<0 by omega],rfl⟩
  ·split at hk
   case h_2=>exact hk.elim
   rename_i hkk;have hkk:=of_decide_eq_true hkk;subst hkk;have:∃ d,K (wset dst (.d d)) /\ ∀ F w,∃ s,((binOp op t (.int k b) (.int k c)).run P w = .ok s w)/\RepD F w d s:=by
    clear ints fin;cases op<;>simp only[qyN]at hk;case add=>exact⟨_,qeH hk,fun F w=>⟨_,by simp[binOp,Op.intArith],rfl⟩⟩
    case sub=>exact⟨_,qeH hk,fun F w=>⟨_,by simp[binOp,Op.intArith],rfl⟩⟩
    case mul=>exact⟨_,qeH hk,fun F w=>⟨_,by simp[binOp,Op.intArith],rfl⟩⟩
    case quo=>
     obtain⟨hc,hb⟩:=zw hk;have hc:c≠0:=of_decide_eq_true hc;exact⟨_,qeH hb,fun F w=>⟨_,by simp[binOp,Op.intDiv,hc],rfl⟩⟩
    case rem=>
     obtain⟨hc,hb⟩:=zw hk;have hc:c≠0:=of_decide_eq_true hc;exact⟨_,hb,fun F w=>⟨_,by simp[binOp,Op.intDiv,hc],rfl⟩⟩
    case eql=>exact⟨_,hk,fun F w=>⟨.bool (decide (b=c)),by simp[binOp,Op.intCmp,qqP],rfl⟩⟩
    case neq=>exact⟨_,hk,fun F w=>⟨.bool (!decide (b=c)),by simp[binOp,Op.intCmp,bne,qqP],rfl⟩⟩
    case lss=>exact⟨_,hk,fun F w=>⟨_,by simp[binOp,Op.intCmp],rfl⟩⟩
    case leq=>exact⟨_,hk,fun F w=>⟨_,by simp[binOp,Op.intCmp],rfl⟩⟩
    case gtr=>exact⟨_,hk,fun F w=>⟨_,by simp[binOp,Op.intCmp],rfl⟩⟩
    case geq=>exact⟨_,hk,fun F w=>⟨_,by simp[binOp,Op.intCmp],rfl⟩⟩
    case and=>exact⟨_,hk,fun F w=>⟨_,by simp[binOp,Op.intBits,qlh],rfl⟩⟩
    case or=>exact⟨_,hk,fun F w=>⟨_,by simp[binOp,Op.intBits,qlh],rfl⟩⟩
    case xor=>exact⟨_,hk,fun F w=>⟨_,by simp[binOp,Op.intBits,qlh],rfl⟩⟩
    case andNot=>exact⟨_,hk,fun F w=>⟨_,by simp[binOp,Op.intBits,qlh],rfl⟩⟩
    all_goals exact hk.elim
   obtain⟨d,hd,hrun⟩:=this;refine fin d hd fun cx r m L F st a w he hg=>?_;obtain⟨hx,hy,h1⟩:=ints cx r m L F st a w he hg;obtain⟨s,h2,h3⟩:=hrun F w;exact⟨s,h1,by rw[hx,hy];exact h2,h3⟩
 ·rename_i b c
  have bools:∀ {σ:Type} (cx:Cx σ) (r:Option Nat) (m:List Nat) (L:Loc) (F:Nat->Nat) (st:St σ) (a:Act) (w:World),qaF e st.env->Good cx r m L F st a w ->
    a.eval x = .bool b/\a.eval y = .bool c/\(eqGuard op t x y (a.eval x) (a.eval y)).run P w = .ok () w:=by
   intro σ cx r m L F st a w he hg;have hx:=qfg hg he hu;have hy:=qfg hg he hv;exact⟨hx,hy,by rw[hx,hy];exact qdd (fun l e=>by cases e) (fun e=>by cases e)⟩
  split at hk
  ·rename_i hb
   have hde:=qoi hT hb;refine fin _ hk fun cx r m L F st a w he hg=>?_;obtain⟨hx,hy,h1⟩:=bools cx r m L F st a w he hg;exact⟨_,h1,by rw[hx,hy];exact run_eql_bool w t b c hde,rfl⟩
  ·rename_i hb
   have hde:=qoi hT hb;refine fin _ hk fun cx r m L F st a w he hg=>?_;obtain⟨hx,hy,h1⟩:=bools cx r m L F st a w he hg;exact⟨_,h1,by rw[hx,hy];exact run_neq_bool w t b c hde,rfl⟩
  ·exact hk.elim
 ·rename_i b c
  have strs:∀ {σ:Type} (cx:Cx σ) (r:Option Nat) (m:List Nat) (L:Loc) (F:Nat->Nat) (st:St σ) (a:Act) (w:World),qaF e st.env->Good cx r m L F st a w ->
    a.eval x = .string b/\a.eval y = .string c/\(eqGuard op t x y (a.eval x) (a.eval y)).run P w = .ok () w:=by
   intro σ cx r m L F st a w he hg;have hx:=qdc hg he hu;have hy:=qdc hg he hv;exact⟨hx,hy,by rw[hx,hy];exact qdd (fun l e=>by cases e) (fun e=>by cases e)⟩
  split at hk
  ·refine fin _ hk fun cx r m L F st a w he hg=>?_
   obtain⟨hx,hy,h1⟩:=strs cx r m L F st a w he hg;exact⟨.bool (decide (b=c)),h1,by rw[hx,hy];simpa[binOp]using qlm b c,rfl⟩
  ·refine fin _ hk fun cx r m L F st a w he hg=>?_
   obtain⟨hx,hy,h1⟩:=strs cx r m L F st a w he hg;exact⟨.bool (!decide (b=c)),h1,by rw[hx,hy];simpa[binOp]using qln b c,rfl⟩
  ·obtain⟨hsz,hk⟩:=zw hk
   have hsz:=of_decide_eq_true hsz;refine fin _ hk fun cx r m L F st a w he hg=>?_;obtain⟨hx,hy,h1⟩:=strs cx r m L F st a w he hg;refine⟨.string (b++c),h1,?_,rfl⟩;have hmax:IntKind.i64.max=9223372036854775807:=rfl;have hsz':¬ (((b.size+c.size:Nat):Int)>9223372036854775807):=by omega
   rw[hx,hy];show(Op.stringOp .add b c).run P w=_;simp only[Op.stringOp,hmax];rw[if_neg hsz'];rfl
  ·exact hk.elim
 ·rename_i xs ys
  have key:∀ (b:Bool) (hs:qgX T t=true) (hbv:eqV T 9 t xs ys=some b) {σ:Type} (cx:Cx σ) (r:Option Nat) (m:List Nat) (L:Loc) (F:Nat->Nat) (st:St σ) (a:Act) (w:World),qaF e st.env->Good cx r m L F st a w ->
    ∃ lx ly,a.eval x = .agg lx/\a.eval y = .agg ly/\(eqGuard op t x y (a.eval x) (a.eval y)).run P w = .ok () w/\(Op.equal t (a.eval x) (a.eval y)).run P w = .ok b w:=by
   intro b hs hbv σ cx r m L F st a w he hg;obtain⟨lx,hx,hlx⟩:=hg.opnd (qo he hu);obtain⟨ly,hy,hly⟩:=hg.opnd (qo he hv);have h9:=qhu (P:=P) (F:=F) (w:=w) hT 9 t xs ys b hbv;have hgt:=(h9 P.depth qtj).1;obtain⟨ti,hti,hkd'⟩:=qpt hs;obtain⟨i,de,hi,hde,_,_,hkd,hag,_⟩:=hT t ti hti;have hag:ti.isAgg=true:=by
    rw[hag];rcases hkd' with⟨fs,hkd'⟩|⟨n,e,hkd'⟩
    ·rw[hkd']at hkd
     obtain⟨fa,hfa,_⟩:=qaX hkd.symm;subst hfa;rfl
    ·rw[hkd']at hkd
     have:=qag hkd.symm;subst this;rfl
   have hval:∀ (zs:List D) (l:Array Value),RepDL F w zs l.toList->qht T F w t zs (.agg l):=fun zs l hl ti' hti'=>by
    rw[hti]at hti';cases hti';rw[hag];exact⟨l,rfl,hl⟩
   refine⟨lx,ly,hx,hy,?_,?_⟩
   ·rw[hx,hy]
    unfold eqGuard;cases op<;>simp[hgt]
   ·rw[hx,hy]
    exact(h9 Op.maxDepth (by decide)).2 _ _ (hval _ _ hlx) (hval _ _ hly)
  split at hk
  ·rename_i hs
   obtain⟨b,hbv,hk⟩:=qqQ hk;refine fin _ hk fun cx r m L F st a w he hg=>?_;obtain⟨lx,ly,hx,hy,h1,h2⟩:=key b hs hbv cx r m L F st a w he hg;refine⟨.bool b,h1,?_,rfl⟩;rw[hx,hy]at h2 ⊢;simp[binOp,h2]
  ·rename_i hs
   obtain⟨b,hbv,hk⟩:=qqQ hk;obtain⟨c,hbv',rfl⟩:=qww hbv;refine fin _ hk fun cx r m L F st a w he hg=>?_;obtain⟨lx,ly,hx,hy,h1,h2⟩:=key c hs hbv' cx r m L F st a w he hg;refine⟨.bool !c,h1,?_,rfl⟩;rw[hx,hy]at h2 ⊢;simp[binOp,h2]
  ·exact hk.elim
 ·exact hk.elim
theorem qoj(hT:qU P T){op:BinOp}{t t':TypeId}{x y:Operand}{u:D}{b:Bool}(hu:opnd e x=some (.d u))(hb:(u = .nili/\b=true)\/(∃ t v,u = .ifc t v)/\b=false)(hnil:qqI y=true)(hk:qtd T op t b fun v=>K (wset dst v)) :
  ∃ ws,K ws/\Out P e h ⟨dst,.binOp op t x y t',ty,pos,after,guard⟩ ws:=by
 have hy:y = .const .nilIface:=by
  unfold qqI at hnil;split at hnil
  ·rfl
  ·cases hnil
 subst hy;have key:qhm T t=true -> ∀ {σ:Type} (cx:Cx σ) (r:Option Nat) (m:List Nat) (L:Loc) (F:Nat->Nat) (st:St σ) (a:Act) (w:World),qaF e st.env->Good cx r m L F st a w ->
   (eqGuard op t x (.const .nilIface) (a.eval x) .nilIface).run P w = .ok () w/\(Op.equal t (a.eval x) .nilIface).run P w = .ok b w/\((∃ t v,a.eval x = .iface t v)\/a.eval x = .nilIface):=by
  intro hif σ cx r m L F st a w he hg;have hx:=hg.opnd (qo he hu);obtain⟨ms,hms⟩:=qqR hT hif;have hE:∀ z,Op.equal t z .nilIface=Op.equalIn ((Op.maxDepth-1)+1) t z .nilIface:=fun _=>rfl;rw[hE];generalize Op.maxDepth-1=n;rcases hb with⟨rfl,rfl⟩|⟨⟨t1,v1,rfl⟩,rfl⟩
  ·have hx:a.eval x = .nilIface:=hx
   rw[hx];exact⟨by unfold eqGuard;cases op<;>simp,by simp only[Op.equalIn];simp[run_underlying hms],.inr rfl⟩
  ·obtain⟨y1,hx,_⟩:=hx
   rw[hx];exact⟨by unfold eqGuard;cases op<;>simp,by simp only[Op.equalIn];simp[run_underlying hms],.inl ⟨_,_,rfl⟩⟩
 have fin:∀ (c:Bool) (hd:K (wset dst (.d (.bool c)))) (_:qhm T t=true) (_:∀ (z:Value) (w:World),((∃ t v,z = .iface t v)\/z = .nilIface)->(Op.equal t z .nilIface).run P w = .ok b w->(binOp op t z .nilIface).run P w = .ok (.bool c) w),
   ∃ ws,K ws/\Out P e h ⟨dst,.binOp op t x (.const .nilIface) t',ty,pos,after,guard⟩ ws:=by
  intro c hd hif hr;refine⟨_,hd,qR (v:=.d (.bool c)) (o:=⟨dst,.binOp op t x (.const .nilIface) t',ty,pos,after,guard⟩) fun cx r m L F st a w he hh hg=>?_⟩;obtain⟨h1,h2,h3⟩:=key hif cx r m L F st a w he hg;have h4:=hr _ w h3 h2;have hc:a.eval (.const .nilIface) = .nilIface:=rfl;exact⟨_,by simp[execOp,hc,h1,h4],rfl⟩
 unfold qtd at hk;split at hk
 ·rename_i hif
  refine fin b hk hif fun z w hz h2=>?_;rcases hz with⟨t1,v1,rfl⟩|rfl<;>simp[binOp,h2]
 ·rename_i hif
  refine fin (!b) hk hif fun z w hz h2=>?_;rcases hz with⟨t1,v1,rfl⟩|rfl<;>simp[binOp,h2]
 ·exact hk.elim
theorem qqS(hT:qU P T){op:BinOp}{t t':TypeId}{x y:Operand}(hk:opK T e h dst (.binOp op t x y t') K):∃ ws,K ws/\Out P e h ⟨dst,.binOp op t x y t',ty,pos,after,guard⟩ ws:=by
 simp only[opK]at hk;split at hk;case h_2=>exact hk.elim
 rename_i u v hu hv;split at hk
 ·rename_i hn
  exact qoj hT hu (.inl ⟨rfl,rfl⟩) hn hk
 ·rename_i hn
  exact qoj hT hu (.inr ⟨⟨_,_,rfl⟩,rfl⟩) hn hk
 ·exact qtk hT hu hv hk
end
end Go.PX
