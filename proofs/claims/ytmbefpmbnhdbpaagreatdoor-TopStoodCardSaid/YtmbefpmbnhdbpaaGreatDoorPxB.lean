import Derived.Test.YtmbefpmbnhdbpaaGreatDoorPxA
import Derived.ProofKit
import Derived.ChangeKeysEq
set_option linter.all false
namespace Go.PX
open Go.RowKit
theorem gd{α:Type}(t:wy α)(s:Nat)(v:α)(x:Nat):get ((s,v)::t) x=if x=s then some v else get t x:=by
 by_cases h:x=s
 ·subst h;simp[get]
 ·have:Nat.beq s x=false:=by rw[Bool.eq_false_iff];intro e;exact h (Nat.eq_of_beq_eq_true e).symm
  simp[get,this,h]
theorem eM{α:Type}(t:wy α)(s:Nat)(v:α)(x:Nat):get (put t s v) x=if x=s then some v else get t x:=by
 induction t with
 | nil=>
  simp only[put,get];by_cases h:x=s
  ·subst h;simp
  ·have:Nat.beq s x=false:=by rw[Bool.eq_false_iff];intro e;exact h (Nat.eq_of_beq_eq_true e).symm
   simp[this,h]
 | cons kv r ih=>
  obtain⟨k,u⟩:=kv;simp only[put]
  cases hk:Nat.beq k s with
  | true=>
   have:=Nat.eq_of_beq_eq_true hk;subst this;simp only[get];by_cases h:x=k
   ·subst h;simp
   ·have:Nat.beq k x=false:=by rw[Bool.eq_false_iff];intro e;exact h (Nat.eq_of_beq_eq_true e).symm
    simp[this,h]
  | false=>
   simp only[get]
   cases hx:Nat.beq k x with
   | true=>
    have:=Nat.eq_of_beq_eq_true hx;subst this;have:k≠s:=by rintro rfl;simp at hk
    simp[this]
   | false=>exact ih
theorem e6{α:Type}(t:wy α)(s:Nat)(x:Nat):get (cut t s) x=if x=s then none else get t x:=by
 induction t with
 | nil=>simp[cut,get]
 | cons kv r ih=>
  obtain⟨k,u⟩:=kv;simp only[cut]
  cases hk:Nat.beq k s with
  | true=>
   have:=Nat.eq_of_beq_eq_true hk;subst this;rw[ih];by_cases h:x=k
   ·simp[h]
   ·have:Nat.beq k x=false:=by rw[Bool.eq_false_iff];intro e;exact h (Nat.eq_of_beq_eq_true e).symm
    simp[h,get,this]
  | false=>
   simp only[get]
   cases hx:Nat.beq k x with
   | true=>
    have:=Nat.eq_of_beq_eq_true hx;subst this;have:k≠s:=by rintro rfl;simp at hk
    simp[this]
   | false=>exact ih
theorem bY{α β:Type}(f:α->β)(t:wy α)(x:Nat):get (cZ f t) x=(get t x).map f:=by
 induction t with
 | nil=>rfl
 | cons kv r ih=>
  obtain⟨k,u⟩:=kv;simp only[cZ,get]
  cases hx:Nat.beq k x with
  | true=>rfl
  | false=>exact ih
theorem bc.length{F:Nat->Nat}{w:World}:∀ {cs:List D} {l:List Value},bc F w cs l->l.length=cs.length
 | [],_,h=>by simp[show _ = [] from h]
 | _::_,_,h=>by
  obtain⟨x,l',rfl,_,hl⟩:=h;simp[bc.length hl]
theorem aq.length{yv:Option Nat}{L:Loc}{F:Nat->Nat}{w:World}:∀ {cs:List V} {l:List Value},aq yv L F w cs l->l.length=cs.length
 | [],_,h=>by simp[show _ = [] from h]
 | _::_,_,h=>by
  obtain⟨x,l',rfl,_,hl⟩:=h;simp[aq.length hl]
section
variable {yv : Option Nat} {L : Loc} {F : Nat -> Nat} {w : World}
theorem aq.inj:∀ {cs:List D} {l:List Value},aq yv L F w (inj cs) l↔bc F w cs l
 | [],l=>by simp[PX.inj,aq,bc]
 | c::r,l=>by
  simp only[PX.inj,aq,bc];constructor
  ·rintro ⟨x,l',rfl,hc,hl⟩;exact⟨x,l',rfl,hc,aq.inj.1 hl⟩
  ·rintro ⟨x,l',rfl,hc,hl⟩;exact⟨x,l',rfl,hc,aq.inj.2 hl⟩
theorem aq.get:∀ {cs:List V} {l:List Value} (i:Nat) {c:V},aq yv L F w cs l->cs[i]?=some c -> ∃ x,l[i]?=some x/\bg yv L F w c x
 | [],_,i,c,_,hi=>by simp at hi
 | d::r,_,0,c,h,hi=>by
  obtain⟨x,l',rfl,hc,hl⟩:=h;simp at hi;subst hi;exact⟨x,by simp,hc⟩
 | d::r,_,i+1,c,h,hi=>by
  obtain⟨x,l',rfl,hc,hl⟩:=h;simpa using aq.get i hl (by simpa using hi)
theorem aq.kD:∀ {cs:List V} {l:List Value},l.length=cs.length->(∀ (i:Nat) (c:V),cs[i]?=some c -> ∃ x,l[i]?=some x/\bg yv L F w c x)->aq yv L F w cs l
 | [],l,hl,_=>(List.length_eq_zero_iff.1 (by simpa using hl):l = [])
 | c::r,[],hl,_=>by simp at hl
 | c::r,x::l,hl,h=>by
  refine⟨x,l,rfl,?_,aq.kD (by simpa using hl) fun i d hd=>by simpa using h (i+1) d (by simpa using hd)⟩;obtain⟨y,hy,hr⟩:=h 0 c (by simp);simp at hy;exact hy▸hr
theorem aq.append:∀ {cs ds:List V} {l k:List Value},aq yv L F w cs l->aq yv L F w ds k->aq yv L F w (cs++ds) (l++k)
 | [],_,_,_,h,k=>by simpa[show _ = [] from h]using k
 | c::r,ds,_,m,h,k=>by
  obtain⟨x,l',rfl,hc,hl⟩:=h;exact⟨x,l'++m,by simp,hc,aq.append hl k⟩
theorem aq.take{cs:List V}{l:List Value}(n:Nat)(h:aq yv L F w cs l):aq yv L F w (cs.take n) (l.take n):=
 .kD (by simp[h.length]) fun i c hc=>by
  rw[List.getElem?_take]at hc ⊢;split at hc
  ·rename_i hi;simp only[hi,if_true];exact h.get i hc
  ·simp at hc
theorem aq.drop{cs:List V}{l:List Value}(n:Nat)(h:aq yv L F w cs l):aq yv L F w (cs.drop n) (l.drop n):=
 .kD (by simp[h.length]) fun i c hc=>by
  rw[List.getElem?_drop]at hc ⊢;exact h.get _ hc
theorem yt(l:List D)(n:Nat):inj (l.take n)=(inj l).take n:=by
 induction l generalizing n with
 | nil=>simp[inj]
 | cons c r ih=>cases n<;>simp[inj,ih]
theorem yr(l:List D)(n:Nat):inj (l.drop n)=(inj l).drop n:=by
 induction l generalizing n with
 | nil=>simp[inj]
 | cons c r ih=>cases n<;>simp[inj,ih]
theorem jL(l m:List D):inj (l++m)=inj l++inj m:=by
 induction l with
 | nil=>rfl
 | cons c r ih=>simp[inj,ih]
theorem eC(l:List D):(inj l).length=l.length:=by
 induction l with
 | nil=>rfl
 | cons c r ih=>simp[inj,ih]
theorem wL(l:List D)(i:Nat):(inj l)[i]?=(l[i]?).map .d:=by
 induction l generalizing i with
 | nil=>simp[inj]
 | cons c r ih=>cases i<;>simp[inj,ih]
theorem bV(l:List (List D)):aG l=l.map inj:=by
 induction l with
 | nil=>rfl
 | cons c r ih=>simp[aG,ih]
mutual
def iC:V->Nat->Prop
 | .agg cs,i=>bZ cs i
 | .tup cs,i=>bZ cs i
 | .clo _ cs,i=>bZ cs i
 | .ptr j _,i=>j=i
 | .ep j _ _ _,i=>j=i
 | .sl j _ _ _,i=>j=i
 | .mp j,i=>j=i
 | .it j,i=>j=i
 | _,_=>False
def bZ:List V->Nat->Prop
 | [],_=>False
 | v::r,i=>iC v i\/bZ r i
end
end
mutual
theorem bg.mono{yv:Option Nat}{L L':Loc}{F F':Nat->Nat}{w w':World}(h:Tr F w F' w'):∀ (v:V) (x:Value),(∀ i,iC v i->L'.ρ i=L.ρ i/\L'.κ i=L.κ i)->bg yv L F w v x->bg yv L' F' w' v x
 | .d v,_,_,hr=>bM.mono h v _ hr
 | .agg cs,_,hn,hr=>by
  obtain⟨l,rfl,hl⟩:=hr;exact⟨l,rfl,aq.mono h cs _ hn hl⟩
 | .tup cs,_,hn,hr=>by
  obtain⟨l,rfl,hl⟩:=hr;exact⟨l,rfl,aq.mono h cs _ hn hl⟩
 | .ptr id off,x,hn,hr=>by
  have hr:x = .pointer (some ⟨L.ρ id,off,none⟩):=hr;show x = .pointer (some ⟨L'.ρ id,off,none⟩);rw[(hn id rfl).1];exact hr
 | .ep id sz i off,x,hn,hr=>by
  have hr:x = .pointer (some ⟨L.ρ id,i*sz+off,none⟩):=hr;show x = .pointer (some ⟨L'.ρ id,i*sz+off,none⟩);rw[(hn id rfl).1];exact hr
 | .sl id sz off len,_,hn,hr=>by
  obtain⟨a,cap,rfl,hl,hs,hc⟩:=hr;refine⟨a,cap,rfl,hl,hs,?_⟩;rw[(hn id rfl).1,(hn id rfl).2];exact hc
 | .mp id,x,hn,hr=>by
  have hr:x = .map (some (L.ρ id)):=hr;show x = .map (some (L'.ρ id));rw[(hn id rfl).1];exact hr
 | .it id,x,hn,hr=>by
  have hr:x = .pointer (some ⟨L.ρ id,0,none⟩):=hr;show x = .pointer (some ⟨L'.ρ id,0,none⟩);rw[(hn id rfl).1];exact hr
 | .clo f cs,_,hn,hr=>by
  obtain⟨l,rfl,hl⟩:=hr;exact⟨l,rfl,aq.mono h cs _ hn hl⟩
 | .yld,_,_,hr=>hr
 | .unk,_,_,hr=>hr
theorem aq.mono{yv:Option Nat}{L L':Loc}{F F':Nat->Nat}{w w':World}(h:Tr F w F' w'):∀ (vs:List V) (l:List Value),(∀ i,bZ vs i->L'.ρ i=L.ρ i/\L'.κ i=L.κ i)->aq yv L F w vs l->aq yv L' F' w' vs l
 | [],_,_,hr=>hr
 | v::r,_,hn,hr=>by
  obtain⟨x,l',rfl,hv,hl⟩:=hr;exact⟨x,l',rfl,bg.mono h v x (fun i hi=>hn i (.inl hi)) hv,aq.mono h r l' (fun i hi=>hn i (.inr hi)) hl⟩
end
mutual
theorem bg.kill{yv:Option Nat}{L:Loc}{F:Nat->Nat}{w:World}(id:Nat):∀ (v:V) (x:Value),bg yv L F w v x->bg yv L F w (aL (bf id) v) x
 | .d v,_,hr=>hr
 | .agg cs,_,hr=>by
  obtain⟨l,rfl,hl⟩:=hr;exact⟨l,rfl,aq.kill id cs _ hl⟩
 | .tup cs,_,hr=>by
  obtain⟨l,rfl,hl⟩:=hr;exact⟨l,rfl,aq.kill id cs _ hl⟩
 | .ptr i off,x,hr=>by
  have FG:x = .pointer (some ⟨L.ρ i,off,none⟩):=hr;simp only[aL,bf,mR];cases Nat.beq i id
  ·exact hr
  ·subst FG;exact rfl
 | .ep i sz j off,x,hr=>by
  have FG:x = .pointer (some ⟨L.ρ i,j*sz+off,none⟩):=hr;simp only[aL,bf,mR];cases Nat.beq i id
  ·exact hr
  ·subst FG;exact rfl
 | .sl i sz off len,x,hr=>by
  simp only[aL,bf,mR];cases Nat.beq i id
  ·exact hr
  ·obtain⟨a,cap,rfl,_⟩:=hr;exact rfl
 | .mp i,x,hr=>by
  have FG:x = .map (some (L.ρ i)):=hr;simp only[aL,bf,mR];cases Nat.beq i id
  ·exact hr
  ·subst FG;exact rfl
 | .it i,x,hr=>by
  have FG:x = .pointer (some ⟨L.ρ i,0,none⟩):=hr;simp only[aL,bf,mR];cases Nat.beq i id
  ·exact hr
  ·subst FG;exact rfl
 | .clo f cs,_,hr=>by
  obtain⟨l,rfl,hl⟩:=hr;exact⟨l,rfl,aq.kill id cs _ hl⟩
 | .yld,_,hr=>hr
 | .unk,_,hr=>hr
theorem aq.kill{yv:Option Nat}{L:Loc}{F:Nat->Nat}{w:World}(id:Nat):∀ (vs:List V) (l:List Value),aq yv L F w vs l->aq yv L F w (dE (bf id) vs) l
 | [],_,hr=>hr
 | v::r,_,hr=>by
  obtain⟨x,l',rfl,hv,hl⟩:=hr;exact⟨x,l',rfl,bg.kill id v x hv,aq.kill id r l' hl⟩
end
mutual
theorem lX(id:Nat):∀ (v:V),¬ iC (aL (bf id) v) id
 | .d _=>fun h=>h
 | .agg cs=>gU id cs
 | .tup cs=>gU id cs
 | .clo _ cs=>gU id cs
 | .ptr i off=>by
  simp only[aL,bf,mR];cases h:Nat.beq i id
  ·intro hn;have:i=id:=hn;subst this;simp at h
  ·exact fun h=>h
 | .ep i sz j off=>by
  simp only[aL,bf,mR];cases h:Nat.beq i id
  ·intro hn;have:i=id:=hn;subst this;simp at h
  ·exact fun h=>h
 | .sl i sz off len=>by
  simp only[aL,bf,mR];cases h:Nat.beq i id
  ·intro hn;have:i=id:=hn;subst this;simp at h
  ·exact fun h=>h
 | .mp i=>by
  simp only[aL,bf,mR];cases h:Nat.beq i id
  ·intro hn;have:i=id:=hn;subst this;simp at h
  ·exact fun h=>h
 | .it i=>by
  simp only[aL,bf,mR];cases h:Nat.beq i id
  ·intro hn;have:i=id:=hn;subst this;simp at h
  ·exact fun h=>h
 | .yld=>fun h=>h
 | .unk=>fun h=>h
theorem gU(id:Nat):∀ (vs:List V),¬ bZ (dE (bf id) vs) id
 | []=>fun h=>h
 | v::r=>fun h=>h.elim (lX id v) (gU id r)
end
def lW:Obj->Nat->Prop
 | .box c,i=>bZ c.bm i
 | .arr _ es,i=>bZ es.bm.flatten i
 | .mit v _ _ _,i=>iC v i
 | .tb _ l,i=>bZ l i
 | _,_=>False
theorem zN(f:V->V)(a b:List V):dE f (a++b)=dE f a++dE f b:=by
 induction a with
 | nil=>rfl
 | cons x r ih=>simp[dE,ih]
theorem gw(f:V->V)(a:List (List V)):(aU f a).flatten=dE f a.flatten:=by
 induction a with
 | nil=>rfl
 | cons x r ih=>simp[aU,zN,ih]
theorem jU(f:V->V)(a:List V):(dE f a).length=a.length:=by
 induction a with
 | nil=>rfl
 | cons x r ih=>simp[dE,ih]
theorem gT(f:V->V)(a:List (List V)):(aU f a).length=a.length:=by
 induction a with
 | nil=>rfl
 | cons x r ih=>simp[aU,ih]
theorem vB(f:V->V)(a:List (List V))(e:List V)(h:e∈aU f a):∃ e0∈a,e=dE f e0:=by
 induction a with
 | nil=>cases h
 | cons x r ih=>
  simp only[aU,List.mem_cons]at h;rcases h with rfl|h
  ·exact⟨x,by simp,rfl⟩
  ·obtain⟨e0,h0,rfl⟩:=ih h;exact⟨e0,by simp[h0],rfl⟩
theorem yF(f:V->V)(l:List D):dE f (inj l)=inj l:=by
 induction l with
 | nil=>rfl
 | cons x r ih=>simp[inj,dE,aL,ih]
theorem fv(l:List D)(i:Nat):¬ bZ (inj l) i:=by
 induction l with
 | nil=>exact fun h=>h
 | cons x r ih=>exact fun h=>h.elim (fun h=>h) ih
theorem qc(a b:List V)(i:Nat):bZ (a++b) i↔bZ a i\/bZ b i:=by
 induction a with
 | nil=>simp[bZ]
 | cons x r ih=>simp[bZ,ih,or_assoc]
theorem cb.kill{yv:Option Nat}{L:Loc}{F:Nat->Nat}{w:World}(k id:Nat)(o:Obj)(h:cb yv L F w id o):cb yv L F w id (Obj.aL (bf k) o):=by
 cases o with
 | box c=>
  cases c with
  | dd l=>exact h
  | vv l=>
   obtain⟨c,T,hc,hr⟩:=h;exact⟨c,T,hc,aq.kill k _ _ hr⟩
 | arr sz es=>
  cases es with
  | dd l=>exact h
  | vv l=>
   obtain⟨hs,hl,h⟩:=h;refine⟨hs,?_,?_⟩
   ·intro e he
    obtain⟨e0,h0,rfl⟩:=vB _ _ _ he;rw[jU];exact hl e0 h0
   ·rcases h with⟨h,hk⟩|⟨c,T,hc,hk,hn,hr⟩
    ·left
     have h:l = []:=h;subst h;exact⟨rfl,hk⟩
    ·right
     refine⟨c,T,hc,hk,?_,?_⟩
     ·show(aU _ l).length*sz<=_
      rw[gT];exact hn
     ·show aq yv L F w (aU _ l).flatten (c.toList.take ((aU _ l).length*sz))
      rw[gT,gw];exact aq.kill k _ _ hr
 | map cJ=>exact h
 | iter s n=>exact h
 | buf t s=>exact h
 | tb t l=>
  obtain⟨c,hc,hr⟩:=h;exact⟨c,hc,aq.kill k _ _ hr⟩
 | mit v n l u=>
  obtain⟨r,seen,h1,h2⟩:=h;exact⟨r,seen,bg.kill k v _ h1,h2⟩
theorem qb(k:Nat)(o:Obj):¬ lW (Obj.aL (bf k) o) k:=by
 cases o with
 | box c=>
  cases c with
  | dd l=>exact fv l k
  | vv l=>exact gU k l
 | arr sz es=>
  cases es with
  | dd l=>
   show ¬ bZ (aG l).flatten k
   induction l with
   | nil=>exact fun h=>h
   | cons x r ih=>
    simp only[aG,List.flatten_cons,qc];exact fun h=>h.elim (fv x k) ih
  | vv l=>
   show ¬ bZ (aU _ l).flatten k;rw[gw];exact gU k _
 | map cJ=>exact fun h=>h
 | iter s n=>exact fun h=>h
 | buf t s=>exact fun h=>h
 | tb t l=>exact gU k l
 | mit v n l u=>exact lX k v
theorem eT(L:Loc)(k id:Nat)(o:Obj):aV L id (Obj.aL (bf k) o)↔aV L id o:=by
 cases o with
 | box c=>cases c<;>exact Iff.rfl
 | arr sz es=>cases es<;>exact Iff.rfl
 | map cJ=>exact Iff.rfl
 | iter s n=>exact Iff.rfl
 | buf t s=>exact Iff.rfl
 | tb t l=>exact Iff.rfl
 | mit v n l u=>exact Iff.rfl
theorem cb.mono{yv:Option Nat}{L L':Loc}{F F':Nat->Nat}{w w':World}(h:Tr F w F' w')(id:Nat)(o:Obj)(hn:∀ i,lW o i->L'.ρ i=L.ρ i/\L'.κ i=L.κ i)
  (hL:L'.ρ id=L.ρ id/\L'.κ id=L.κ id) (hb:aV L id o->w'.heap[L.ρ id]?=w.heap[L.ρ id]?) (hr:cb yv L F w id o):cb yv L' F' w' id o:=by
 cases o with
 | box c=>
  obtain⟨c',T,hc,hr⟩:=hr;exact⟨c',T,by rw[hL.1,hb trivial];exact hc,aq.mono h _ _ hn hr⟩
 | arr sz es=>
  obtain⟨hs,hl,hr⟩:=hr;refine⟨hs,hl,?_⟩;rcases hr with⟨he,hk⟩|⟨c,T,hc,hk,CJ,hr⟩
  ·exact .inl ⟨he,by rw[hL.2];exact hk⟩
  ·by_cases hz:L.κ id=0
   ·left
    refine⟨?_,by rw[hL.2];exact hz⟩;rw[hk,hz]at CJ;have:es.bm.length=0:=by
     rcases Nat.eq_zero_or_pos es.bm.length with h0|h0
     ·exact h0
     ·have:=Nat.mul_pos h0 hs;omega
    exact List.length_eq_zero_iff.1 this
   ·right
    exact⟨c,T,by rw[hL.1,hb hz];exact hc,by rw[hL.2];exact hk,CJ,aq.mono h _ _ hn hr⟩
 | map cJ=>
  obtain⟨en,c,hc,hr⟩:=hr;exact⟨en,c,by rw[hL.1,hb trivial];exact hc,bW.mono h _ _ hr.1,hr.2⟩
 | iter s n=>
  show w'.heap[L'.ρ id]?=_;rw[hL.1,hb trivial];exact hr
 | buf t s=>
  obtain⟨c,h1,h2,h3⟩:=hr;exact⟨c,by rw[hL.1,hb trivial];exact h1,by rw[hL.2];exact h2,h3⟩
 | tb t l=>
  obtain⟨c,hc,hr⟩:=hr;exact⟨c,by rw[hL.1,hb trivial];exact hc,aq.mono h _ _ hn hr⟩
 | mit v n l u=>
  obtain⟨r,seen,h1,h2,h3⟩:=hr;exact⟨r,seen,bg.mono h v _ hn h1,by rw[hL.1,hb trivial];exact h2,h3⟩
theorem cf{w:World}{b:Nat}{o:Go.Obj}(h:w.heap[b]?=some o):b<w.heap.size:=(Array.getElem?_eq_some_iff.1 h).1
theorem jH{w w':World}{b o:Nat}(h:w'.heap[b]?=w.heap[b]?):w'.cell? ⟨b,o,none⟩=w.cell? ⟨b,o,none⟩:=by
 simp[World.cell?,h]
theorem cb.lt{yv:Option Nat}{L:Loc}{F:Nat->Nat}{w:World}{id:Nat}{o:Obj}(h:cb yv L F w id o)(hb:aV L id o):L.ρ id<w.heap.size:=by
 cases o with
 | box c=>obtain⟨c',T,hc,_⟩:=h;exact cf hc
 | arr sz es=>
  obtain⟨_,_,h⟩:=h;rcases h with⟨_,hk⟩|⟨c,T,hc,_⟩
  ·exact absurd hk hb
  ·exact cf hc
 | map cJ=>obtain⟨en,c,hc,_⟩:=h;exact cf hc
 | iter s n=>exact cf (show w.heap[L.ρ id]?=_ from h)
 | buf t s=>obtain⟨c,h1,_⟩:=h;exact cf h1
 | tb t l=>obtain⟨c,h1,_⟩:=h;exact cf h1
 | mit v n l u=>obtain⟨r,seen,_,h2,_⟩:=h;exact cf h2
theorem Tr.iI{F F':Nat->Nat}{w w':World}(ho:w'.os=w.os)(ht:w'.tape=w.tape)(hu:w'.output=w.output)(hs:w.heap.size<=w'.heap.size)(hle:∀ b,F b<=F' b)
    (yi:∀ b,w.heap.size<=b->F b=0) (hk:∀ b,b<w.heap.size->0<F b->w'.heap[b]?=w.heap[b]?):Tr F w F' w':=
  ⟨ho,ht,hu,hs,hle,
   fun b o h=>by
    rcases Nat.lt_or_ge b w.heap.size with hb|hb
    · exact jH (hk b hb (by omega))
    · rw[yi b hb]at h;omega,
   fun b e c h hm=>by rw[hk b (cf hm) h];exact hm⟩
theorem Tr.alloc{F:Nat->Nat}{w:World}(yi:∀ b,w.heap.size<=b->F b=0)(o:Go.Obj):Tr F w F (w.alloc o):=
 .iI rfl rfl rfl (by simp) (fun _=>Nat.le_refl _) yi fun b hb _=>heap_alloc_old _ _ _ hb
theorem Tr.drew{F:Nat->Nat}{w:World}(n:Nat):Tr F w F { w with drawn:=n }:=
 ⟨rfl,rfl,rfl,Nat.le_refl _,fun _=>Nat.le_refl _,fun _ _ _=>rfl,fun _ _ _ _ h=>h⟩
section
variable {σ : Type} {cx : Cx σ} {r : Option Nat} {m : List Nat} {L : Loc} {F : Nat -> Nat} {st : St σ} {a : Act} {w : World}
theorem aZ.same{h:Heap}{s:σ}(hh:aZ cx L F h s w){w':World}(he:w'.heap=w.heap)(ho:w'.os=w.os)(ht:w'.tape=w.tape)(hu:w'.output=w.output):aZ cx L F h s w':=by
 have tr:Tr F w F w':=⟨ho,ht,hu,by rw[he];exact Nat.le_refl _,fun _=>Nat.le_refl _,fun b o _=>jH (by rw[he]),fun b e c _ hm=>by rw[he];exact hm⟩;refine⟨cx.fS hh.hg (.iI ho ht hu (by rw[he];exact Nat.le_refl _) (fun _=>Nat.le_refl _) hh.fresh fun b _ _=>by rw[he]) (fun b hb=>hh.fresh b (by rw[<- he];exact hb)) fun b _=>⟨by rw[he],rfl⟩,fun b hb=>by rw[he];exact hh.iw b hb,fun b hb=>hh.fresh b (by rw[<- he];exact hb),?_,hh.own,hh.inj⟩;intro id o hg;exact cb.mono tr id o (fun _ _=>⟨rfl,rfl⟩) ⟨rfl,rfl⟩ (fun _=>by rw[he]) (hh.obj id o hg)
theorem Good.same(hh:Good cx r m L F st a w){w':World}(he:w'.heap=w.heap)(ho:w'.os=w.os)(ht:w'.tape=w.tape)(hu:w'.output=w.output):Good cx r m L F st a w':=by
 have tr:Tr F w F w':=⟨ho,ht,hu,by rw[he];exact Nat.le_refl _,fun _=>Nat.le_refl _,fun b o _=>jH (by rw[he]),fun b e c _ hm=>by rw[he];exact hm⟩;refine⟨hh.heap.same he ho ht hu,?_,hh.sR,fun b hb=>by rw[he];exact hh.pg b hb,hh.vD,fun l hl=>by rw[he];exact hh.lk l hl,hh.jy,hh.ud⟩;intro s v hs;obtain⟨x,hx,hr⟩:=hh.env s v hs;exact⟨x,hx,bg.mono tr v x (fun _ _=>⟨rfl,rfl⟩) hr⟩
theorem Good.fy(hh:Good cx r m L F st a w){d:Nat}(hd:d<a.tmps.size):¬ pinned d:=fun h=>by
 have:=hh.ud;unfold pinned at h;omega
theorem Good.set(hh:Good cx r m L F st a w){d:Nat}{v:V}{x:Value}(hd:d<a.tmps.size)(hv:bg cx.yv L F w v x) :
  Good cx r m L F ⟨put st.env d v,st.heap,st.s⟩ (a.put (some d) x) w:=by
 refine⟨hh.heap,?_,hh.sR,hh.pg,hh.vD,hh.lk,hh.jy,by simpa[Act.put]using hh.ud⟩;intro s u hs;simp only[eM]at hs;simp only[Act.put];split at hs
 ·rename_i e
  cases hs;subst e
  exact⟨x,by simp[Array.getElem?_setIfInBounds,hd],hv⟩
 ·rename_i e
  obtain⟨y,hy,hr⟩:=hh.env s u hs;exact⟨y,by rw[Array.getElem?_setIfInBounds_ne (Ne.symm e)];exact hy,hr⟩
theorem Good.bz(hh:Good cx r m L F st a w){d:Option Nat}{v:V}{x:Value}(hd:∀ k,d=some k->k<a.tmps.size)(hv:bg cx.yv L F w v x) :
  Good cx r m L F (aR st (bz d v)) (a.put d x) w:=by
 cases d with
 | none=>exact hh
 | some d=>exact hh.set (hd d rfl) hv
theorem Good.sub(hh:Good cx r m L F st a w){e:Env}{h:Heap}(he:dB e st.env)(hs:dB h st.heap):Good cx r m L F ⟨e,h,st.s⟩ a w:=
 ⟨⟨hh.heap.hg,hh.heap.iw,hh.heap.fresh,fun id o hg=>hh.heap.obj id o (hs id o hg),fun id o hg=>hh.heap.own id o (hs id o hg),
  fun i j o p hi hj=>hh.heap.inj i j o p (hs i o hi) (hs j p hj)⟩,fun s v hg=>hh.env s v (he s v hg),hh.sR,hh.pg,hh.vD,hh.lk,hh.jy,hh.ud⟩
theorem Good.new(hh:Good cx r m L F st a w)(id n:Nat)(o:Obj)(b:Go.Obj)(hid:¬ pinned id)
  (ho:cb cx.yv ⟨fun i=>if i=id then w.heap.size else L.ρ i,fun i=>if i=id then n else L.κ i⟩ F (w.alloc b) id o) :
  Good cx r m ⟨fun i=>if i=id then w.heap.size else L.ρ i,fun i=>if i=id then n else L.κ i⟩ F (bP st (.new id o)) a (w.alloc b):=by
 have tr:Tr F w F (w.alloc b):=Tr.alloc hh.heap.fresh b;have hC:∀ c,cx.C st.s c->(w.alloc b).heap[c]?=w.heap[c]?:=fun c hc=>heap_alloc_old _ _ _ (hh.heap.iw c hc);have hg:∀ i o',get (bP st (.new id o)).heap i=some o'->(i=id/\o'=o)\/(i≠id /\ ∃ o0,get st.heap i=some o0/\o'=Obj.aL (bf id) o0):=by
  intro i o' hi;simp only[bP,gd,eM,bY,e6]at hi;split at hi
  ·rename_i e;left;exact⟨e,by cases hi;rfl⟩
  ·rename_i e
   right;refine⟨e,?_⟩
   cases h0:get st.heap i with
   | none=>simp[h0]at hi
   | some o0=>simp[h0]at hi;exact⟨o0,rfl,hi.symm⟩
 refine⟨⟨cx.fS hh.heap.hg tr (fun c hc=>hh.heap.fresh c (by simp at hc;omega)) fun c hc=>⟨hC c hc,rfl⟩,fun c hc=>?_,fun c hc=>hh.heap.fresh c (by simp at hc;omega),?_,?_,?_⟩,?_,hh.sR,?_,hh.vD,?_,fun i hi=>?_,hh.ud⟩
 ·have:=hh.heap.iw c hc;simp;omega
 ·intro i o' hi
  rcases hg i o' hi with⟨rfl,rfl⟩|⟨eW,o0,h0,rfl⟩
  ·exact ho
  ·refine cb.mono tr i _ (fun j hj=>?_) ⟨by simp[eW],by simp[eW]⟩ (fun hb=>heap_alloc_old _ _ _ ?_) (cb.kill id i o0 (hh.heap.obj i o0 h0))
   ·have:j≠id:=by rintro rfl;exact qb j o0 hj
    simp[this]
   ·exact(hh.heap.obj i o0 h0).lt ((eT L id i o0).1 hb)
 ·intro i o' hi hb
  rcases hg i o' hi with⟨rfl,rfl⟩|⟨eW,o0,h0,rfl⟩
  ·simp only[if_true]
   refine⟨hh.heap.fresh _ (Nat.le_refl _),fun hc=>?_⟩;have:=hh.heap.iw _ hc;omega
  ·simp only[eW,if_false]
   have kS:aV L i o0:=by
    have:=(eT _ id i o0).1 hb;cases o0<;>simp_all[aV]
   exact hh.heap.own i o0 h0 kS
 ·intro i j o' p hi hj mq jx e
  have key:∀ i o',get (bP st (.new id o)).heap i=some o'->i≠id->aV ⟨fun i=>if i=id then w.heap.size else L.ρ i,fun i=>if i=id then n else L.κ i⟩ i o' -> ∃ o0,get st.heap i=some o0/\aV L i o0:=by
   intro i o' hi eW hb;rcases hg i o' hi with⟨rfl,rfl⟩|⟨_,o0,h0,rfl⟩
   ·exact absurd rfl eW
   ·refine⟨o0,h0,?_⟩
    have:=(eT _ id i o0).1 hb;cases o0<;>simp_all[aV]
  by_cases mQ:i=id<;>by_cases IS:j=id
  ·rw[mQ,IS]
  ·exfalso
   obtain⟨p0,wb,IN⟩:=key j p hj IS jx;have:=(hh.heap.obj j p0 wb).lt IN;simp[mQ,IS]at e;omega
  ·exfalso
   obtain⟨p0,wb,IN⟩:=key i o' hi mQ mq;have:=(hh.heap.obj i p0 wb).lt IN;simp[mQ,IS]at e;omega
  ·obtain⟨o0,ZQ,iN⟩:=key i o' hi mQ mq
   obtain⟨p0,wb,IN⟩:=key j p hj IS jx;simp only[mQ,IS,if_false]at e;exact hh.heap.inj i j o0 p0 ZQ wb iN IN e
 ·intro s v hs
  simp only[bP,bY]at hs
  cases h0:get st.env s with
  | none=>simp[h0]at hs
  | some v0=>
   simp[h0]at hs;subst hs;obtain⟨x,hx,hr⟩:=hh.env s v0 h0;refine⟨x,hx,bg.mono tr _ x (fun j hj=>?_) (bg.kill id v0 x hr)⟩;have:j≠id:=by rintro rfl;exact lX j v0 hj
   simp[this]
 ·intro b' kS
  exact⟨by rw[heap_alloc_old _ _ _ (cf (hh.pg b' kS).1)];exact(hh.pg b' kS).1,(hh.pg b' kS).2⟩
 ·intro l hl
  obtain⟨lp,E0⟩:=hh.lk l hl;exact⟨lp,⟨by rw[heap_alloc_old _ _ _ (cf E0.1.1)];exact E0.1.1,E0.1.2⟩,E0.2⟩
 ·have:i≠id:=by rintro rfl;exact hid hi
  simp only[this,if_false];exact hh.jy i hi
theorem Good.kb(hh:Good cx r m L F st a w)(id sz:Nat)(hid:¬ pinned id)(hs:0<sz)(es:aK)(he:es.bm = []) :
  Good cx r m ⟨L.ρ,fun i=>if i=id then 0 else L.κ i⟩ F (bP st (.new id (.arr sz es))) a w:=by
 have tr:Tr F w F w:=Tr.refl F w;have hg:∀ i o',get (bP st (.new id (.arr sz es))).heap i=some o'->(i=id/\o' = .arr sz es)\/(i≠id /\ ∃ o0,get st.heap i=some o0/\o'=Obj.aL (bf id) o0):=by
  intro i o' hi;simp only[bP,gd,eM,bY,e6]at hi;split at hi
  ·rename_i e;left;exact⟨e,by cases hi;rfl⟩
  ·rename_i e
   right;refine⟨e,?_⟩
   cases h0:get st.heap i with
   | none=>simp[h0]at hi
   | some o0=>simp[h0]at hi;exact⟨o0,rfl,hi.symm⟩
 have key:∀ i o',get (bP st (.new id (.arr sz es))).heap i=some o'->aV ⟨L.ρ,fun i=>if i=id then 0 else L.κ i⟩ i o'->i≠id /\ ∃ o0,get st.heap i=some o0/\aV L i o0:=by
  intro i o' hi hb;rcases hg i o' hi with⟨rfl,rfl⟩|⟨eW,o0,h0,rfl⟩
  ·simp[aV]at hb
  ·refine⟨eW,o0,h0,?_⟩
   have:=(eT _ id i o0).1 hb;cases o0<;>simp_all[aV]
 refine⟨⟨hh.heap.hg,hh.heap.iw,hh.heap.fresh,?_,?_,?_⟩,?_,hh.sR,hh.pg,hh.vD,hh.lk,fun i hi=>⟨(hh.jy i hi).1,by
  have:i≠id:=by rintro rfl;exact hid hi
  simp only[this,if_false];exact(hh.jy i hi).2⟩,hh.ud⟩
 ·intro i o' hi
  rcases hg i o' hi with⟨rfl,rfl⟩|⟨eW,o0,h0,rfl⟩
  ·exact⟨hs,(by intro e h;rw[he]at h;cases h),.inl ⟨he,(by simp)⟩⟩
  ·refine cb.mono (L:=L) tr i _ (fun j hj=>?_) ⟨rfl,by simp[eW]⟩ (fun _=>rfl) (cb.kill id i o0 (hh.heap.obj i o0 h0))
   have:j≠id:=by rintro rfl;exact qb j o0 hj
   simp[this]
 ·intro i o' hi hb
  obtain⟨_,o0,h0,iN⟩:=key i o' hi hb;exact hh.heap.own i o0 h0 iN
 ·intro i j o' p hi hj mq jx e
  obtain⟨_,o0,ZQ,iN⟩:=key i o' hi mq;obtain⟨_,p0,wb,IN⟩:=key j p hj jx;exact hh.heap.inj i j o0 p0 ZQ wb iN IN e
 ·intro s v hs
  simp only[bP,bY]at hs
  cases h0:get st.env s with
  | none=>simp[h0]at hs
  | some v0=>
   simp[h0]at hs;subst hs;obtain⟨x,hx,hr⟩:=hh.env s v0 h0;refine⟨x,hx,bg.mono tr _ x (fun j hj=>?_) (bg.kill id v0 x hr)⟩;have:j≠id:=by rintro rfl;exact lX j v0 hj
   simp[this]
theorem Good.del(hh:Good cx r m L F st a w)(id:Nat):Good cx r m L F (bP st (.del id)) a w:=
 hh.sub (fun _ _ h=>h) fun i o h=>by
  simp only[bP,e6]at h;split at h
  ·cases h
  ·exact h
theorem Good.obj(hh:Good cx r m L F st a w){id:Nat}{o0 o:Obj}(h0:get st.heap id=some o0)(iN:aV L id o0){w':World}
  (SJ:w'.os=w.os) (ht:w'.tape=w.tape) (hu:w'.output=w.output) (dc:w'.heap.size=w.heap.size) (hk:∀ b,b≠L.ρ id->w'.heap[b]?=w.heap[b]?)
  (tZ:∀ ds,w.heap[L.ρ id]?≠some (.deferred ds)) (nt:∀ lp,w.heap[L.ρ id]?≠some (.loop lp))
  (ho:cb cx.yv L F w' id o):Good cx r m L F (bP st (.obj id o)) a w'/\Tr F w F w':=by
 obtain⟨hF,Rl⟩:=hh.heap.own id o0 h0 iN;have tr:Tr F w F w':=.iI SJ ht hu (by omega) (fun _=>Nat.le_refl _) hh.heap.fresh fun b _ YO=>hk b (by rintro rfl;omega);have hC:∀ c,cx.C st.s c->w'.heap[c]?=w.heap[c]?:=fun c hc=>hk c (by rintro rfl;exact Rl hc);have hg:∀ i o',get (bP st (.obj id o)).heap i=some o'->(i=id/\o'=o)\/(i≠id/\get st.heap i=some o'):=by
  intro i o' hi;simp only[bP,eM]at hi;split at hi
  ·rename_i e;left;exact⟨e,by cases hi;rfl⟩
  ·rename_i e;exact .inr ⟨e,hi⟩
 have jn:∀ i o',get (bP st (.obj id o)).heap i=some o'->aV L i o' -> ∃ o1,get st.heap i=some o1/\aV L i o1:=by
  intro i o' hi hb;rcases hg i o' hi with⟨rfl,rfl⟩|⟨_,h⟩
  ·exact⟨o0,h0,iN⟩
  ·exact⟨o',h,hb⟩
 refine⟨⟨⟨cx.fS hh.heap.hg tr (fun c hc=>hh.heap.fresh c (by omega)) fun c hc=>⟨hC c hc,rfl⟩,fun c hc=>by rw[dc];exact hh.heap.iw c hc,fun c hc=>hh.heap.fresh c (by omega),?_,?_,?_⟩,?_,hh.sR,?_,hh.vD,?_,hh.jy,hh.ud⟩,tr⟩
 ·intro i o' hi
  rcases hg i o' hi with⟨rfl,rfl⟩|⟨eW,h⟩
  ·exact ho
  ·refine cb.mono tr i o' (fun _ _=>⟨rfl,rfl⟩) ⟨rfl,rfl⟩ (fun hb=>hk _ fun e=>eW (hh.heap.inj i id o' o0 h h0 hb iN e)) (hh.heap.obj i o' h)
 ·intro i o' hi hb
  obtain⟨o1,h1,pa⟩:=jn i o' hi hb;exact hh.heap.own i o1 h1 pa
 ·intro i j o' p hi hj mq jx e
  obtain⟨o1,h1,pa⟩:=jn i o' hi mq;obtain⟨o2,h2,mn⟩:=jn j p hj jx;exact hh.heap.inj i j o1 o2 h1 h2 pa mn e
 ·intro s v hs
  obtain⟨x,hx,hr⟩:=hh.env s v hs;exact⟨x,hx,bg.mono tr v x (fun _ _=>⟨rfl,rfl⟩) hr⟩
 ·intro b hb
  have:=(hh.pg b hb).1;exact⟨by rw[hk b (by rintro rfl;exact tZ _ this)];exact this,(hh.pg b hb).2⟩
 ·intro l hl
  obtain⟨lp,E0⟩:=hh.lk l hl;exact⟨lp,⟨by rw[hk l (by rintro rfl;exact nt _ E0.1.1)];exact E0.1.1,E0.1.2⟩,E0.2⟩
end
end Go.PX
namespace Go.PX
open Go.RowKit
theorem mF{F:Nat->Nat}{w:World}{v:Value}{a:D}(h:lZ v=some a):bM F w a v:=by
 unfold lZ at h;split at h<;>cases h<;>rfl
theorem kq{F:Nat->Nat}{w:World}:∀ {l:List Value} {as:List D},je l=some as->bc F w as l
 | [],as,h=>by simp[je]at h;subst h;rfl
 | v::r,as,h=>by
  simp only[je]at h;split at h
  ·rename_i a l' ha kM
   cases h;exact⟨v,r,rfl,mF ha,kq kM⟩
  ·cases h
theorem nX{F:Nat->Nat}{w:World}{v:Value}{a:D}(h:ofConst v=some a):bM F w a v:=by
 unfold ofConst at h;split at h
 ·rename_i cs
  cases hs:je cs.toList with
  | none=>rw[hs]at h;cases h
  | some l=>rw[hs]at h;cases h;exact⟨cs,rfl,kq hs⟩
 ·rename_i cs
  split at h
  ·rename_i h0
   cases h;exact⟨cs,rfl,h0⟩
  ·cases h
 ·exact mF h
def jM(d:TypeDesc):Kd:=
 match d with
 | .bool=>.bool
 | .int k=>.int k
 | .string=>.str
 | .slice e=>.slice e
 | .struct fs => if fs.any (fun f => f.name == "_") then .other else .struct (fs.toList.map fun f => (f.offset, f.type))
 | .array n e=>.array n e
 | .map k e=>.map k e
 | .interface _=>.iface
 | _=>.other
def sG(d:TypeDesc):Bool:=
 match d with
 | .struct _=>true
 | .array _ _=>true
 | _=>false
def zeroCells(v:Value):Option (List D):=
 match ofConst v with
 | some (.agg l)=>some l
 | some (.tup _)=>none
 | some v=>some [v]
 | none=>none
def Ik(v:Value):Bool:=
 match ofConst v with
 | some (.agg _)=>true
 | _=>false
def bA(P:Program)(T:e7):Prop:=
 ∀ t ti,T.get t=some ti -> ∃ i d,P.info? t=some i/\P.underlying t=some d/\ti.size=i.size/\ti.bytes=i.bytes/\ti.kd=jM d/\ti.isAgg=sG d /\
  (ti.held=false->P.stoodInHeld t=false /\ ∀ k,ti.kd = .int k->i.comparable=true)/\(∀ z,ti.zero=some z -> ∃ zv,i.zero=some zv/\zeroCells zv=some z/\Ik zv=ti.isAgg)
theorem yx{d:TypeDesc}(h:jM d = .iface):∃ ms,d = .interface ms:=by
 unfold jM at h;split at h<;>first|exact⟨_,rfl⟩|(split at h<;>cases h)|cases h
theorem fC{d:TypeDesc}{e:TypeId}(h:jM d = .slice e):d = .slice e:=by
 unfold jM at h;split at h<;>first|(cases h;rfl)|(split at h<;>cases h)|cases h
theorem jo{d:TypeDesc}(h:jM d = .str):d = .string:=by
 unfold jM at h;split at h<;>first|rfl|(split at h<;>cases h)|cases h
theorem nz{d:TypeDesc}{k:IntKind}(h:jM d = .int k):d = .int k:=by
 unfold jM at h;split at h<;>first|(cases h;rfl)|(split at h<;>cases h)|cases h
theorem qC{d:TypeDesc}(h:jM d = .bool):d = .bool:=by
 unfold jM at h;split at h<;>first|rfl|(split at h<;>cases h)|cases h
theorem gi{d:TypeDesc}{n:Nat}{e:TypeId}(h:jM d = .array n e):d = .array n e:=by
 unfold jM at h;split at h<;>first|(cases h;rfl)|(split at h<;>cases h)|cases h
theorem tp{d:TypeDesc}{k e:TypeId}(h:jM d = .map k e):d = .map k e:=by
 unfold jM at h;split at h<;>first|(cases h;rfl)|(split at h<;>cases h)|cases h
theorem jc{d:TypeDesc}{fs:List (Nat×TypeId)}(h:jM d = .struct fs) :
  ∃ fa : Array Field, d = .struct fa /\ fs = fa.toList.map (fun f => (f.offset, f.type)) /\ ∀ f ∈ fa.toList, (f.name == "_") = false := by
 unfold jM at h;split at h<;>first|cases h|skip
 rename_i fa;split at h
 ·cases h
 ·rename_i hn
  cases h;refine⟨fa,rfl,rfl,fun f hf=>?_⟩
  have CJ : fa.any (fun f => f.name == "_") = false := by simpa using hn
  rw[Array.any_eq_false']at CJ;simpa using CJ f (by simpa using hf)
section
variable {P : Program} {T : e7} {w : World}
theorem lj(hT:bA P T){t:TypeId}{ti:rE}(h:T.get t=some ti):(isAgg t).run P w = .ok ti.isAgg w:=by
 obtain⟨i,d,hi,hd,dc,Hr,eP,pd,UP,hz⟩:=hT t ti h;unfold isAgg;rw[pd];cases d<;>simp[run_underlying hd,sG]
theorem e5(hT:bA P T){t:TypeId}{ti:rE}(h:T.get t=some ti):(sizeOf t).run P w = .ok ti.size w:=by
 obtain⟨i,d,hi,hd,dc,Hr,eP,pd,UP,hz⟩:=hT t ti h;simp[sizeOf,typeInfo,hi,dc]
end
theorem ca{b:Bool}{K:Prop}(h:gH b K):b=true/\K:=by
 cases b
 ·exact h.elim
 ·exact⟨rfl,h⟩
theorem sM{b:Bool}{X Y:Prop}(h:Pn b X Y):(b=true/\X)\/(b=false/\Y):=by
 cases b
 ·exact .inr ⟨rfl,h⟩
 ·exact .inl ⟨rfl,h⟩
theorem ng{n m:Nat}(h:Nat.ble n m=true):n<=m:=Nat.le_of_ble_eq_true h
theorem er{n m:Nat}(h:Nat.beq n m=true):n=m:=Nat.eq_of_beq_eq_true h
theorem yJ{n m:Nat}(h:(!Nat.beq n m)=true):n≠m:=by
 intro e;subst e;simp at h
section
variable {σ : Type} {cx : Cx σ} {r : Option Nat} {m : List Nat} {L : Loc} {F : Nat -> Nat} {st : St σ} {a : Act} {w : World}
theorem aF{e e':Env}(hs:dB e e'){x:Operand}{v:V}(hx:aS e x=some v):aS e' x=some v:=by
 cases x with
 | tmp t=>exact hs t v hx
 | const c=>exact hx
 | func f=>exact hx
 | global g=>exact hx
theorem lh{e e':Env}(hs:dB e e'):∀ {l:List Operand} {vs:List V},dR e l=some vs->dR e' l=some vs
 | [],vs,h=>h
 | x::r,vs,h=>by
  simp only[dR]at h ⊢
  cases hx:aS e x with
  | none=>simp[hx]at h
  | some v=>
   cases hr:dR e r with
   | none=>simp[hx,hr]at h
   | some l=>simp[hx,hr]at h;simp[aF hs hx,lh hs hr,h]
theorem Good.aS(h:Good cx r m L F st a w){x:Operand}{v:V}(hx:PX.aS st.env x=some v):bg cx.yv L F w v (a.eval x):=by
 cases x with
 | tmp t=>
  obtain⟨y,hy,hr⟩:=h.env t v hx;simpa[Act.eval,hy]using hr
 | const c=>
  simp only[PX.aS]at hx;split at hx
  ·rename_i v' hv;cases hx;exact nX hv
  ·cases hx
 | func f=>
  simp only[PX.aS,Option.some.injEq]at hx;subst hx;exact⟨#[],rfl,rfl⟩
 | global g=>simp[PX.aS]at hx
theorem Good.dR(h:Good cx r m L F st a w):∀ {l:List Operand} {vs:List V},PX.dR st.env l=some vs->aq cx.yv L F w vs (l.map a.eval)
 | [],vs,hx=>by simp[PX.dR]at hx;subst hx;rfl
 | x::r,vs,hx=>by
  simp only[PX.dR]at hx
  cases hv:PX.aS st.env x with
  | none=>simp[hv]at hx
  | some v=>
   cases hr:PX.dR st.env r with
   | none=>simp[hv,hr]at hx
   | some l=>simp[hv,hr]at hx;subst hx;exact⟨_,_,rfl,h.aS hv,h.dR hr⟩
end
theorem bI{P:Program}{e:Env}{h:Heap}{o:Oper}{v:V}
  (hr:∀ {σ:Type} (cx:Cx σ) (r:Option Nat) (m:List Nat) (L:Loc) (F:Nat->Nat) (st:St σ) (a:Act) (w:World),dB e st.env->dB h st.heap->Good cx r m L F st a w ->
   ∃ x,(execOp a.eval o).run P w = .ok (.value x) w/\bg cx.yv L F w v x):Out P e h o (bz o.dst v):=by
 intro σ cx r m L F st a w he hh hg hd;obtain⟨x,hx,hv⟩:=hr cx r m L F st a w he hh hg;exact⟨x,w,_,hx,.inl rfl,L,F,hg.bz hd hv,Tr.refl F w⟩
section
variable {P : Program} {T : e7} {e : Env} {h : Heap} {dst : Option Nat} {K : List Wr -> Prop} {ty : TypeId} {pos : String} {after : Array Edge} {guard : Option (Nat × Bool)}
theorem Mq{x:Operand}(hk:gL T e h dst (.move x) K):∃ ws,K ws/\Out P e h ⟨dst,.move x,ty,pos,after,guard⟩ ws:=by
 simp only[gL]at hk;split at hk
 ·rename_i v hv
  exact⟨_,hk,bI (o:=⟨dst,.move x,ty,pos,after,guard⟩) fun cx r m L F st a w he hh hg=>⟨_,by simp[execOp],hg.aS (aF he hv)⟩⟩
 ·exact hk.elim
theorem Gf{x:Operand}(hk:gL T e h dst (.assign x) K):∃ ws,K ws/\Out P e h ⟨dst,.assign x,ty,pos,after,guard⟩ ws:=by
 simp only[gL]at hk;split at hk
 ·rename_i v hv
  exact⟨_,hk,bI (o:=⟨dst,.assign x,ty,pos,after,guard⟩) fun cx r m L F st a w he hh hg=>⟨_,by simp[execOp],hg.aS (aF he hv)⟩⟩
 ·exact hk.elim
theorem qz{σ:Type}{cx:Cx σ}{r:Option Nat}{m:List Nat}{L:Loc}{F:Nat->Nat}{st:St σ}{a:Act}{w:World}(hg:Good cx r m L F st a w){x:Operand}{b:Bool}
  (he:dB e st.env) (hx:aS e x=some (.d (.bool b))):a.eval x = .bool b:=hg.aS (aF he hx)
theorem jm{σ:Type}{cx:Cx σ}{r:Option Nat}{m:List Nat}{L:Loc}{F:Nat->Nat}{st:St σ}{a:Act}{w:World}(hg:Good cx r m L F st a w){x:Operand}{k:IntKind}{n:Int}
  (he:dB e st.env) (hx:aS e x=some (.d (.int k n))):a.eval x = .int k n:=hg.aS (aF he hx)
theorem lE{σ:Type}{cx:Cx σ}{r:Option Nat}{m:List Nat}{L:Loc}{F:Nat->Nat}{st:St σ}{a:Act}{w:World}(hg:Good cx r m L F st a w){x:Operand}{s:ByteArray}
  (he:dB e st.env) (hx:aS e x=some (.d (.str s))):a.eval x = .string s:=hg.aS (aF he hx)
theorem Ms{c x y:Operand}(hk:gL T e h dst (.pick c x y) K):∃ ws,K ws/\Out P e h ⟨dst,.pick c x y,ty,pos,after,guard⟩ ws:=by
 simp only[gL]at hk;have key:∀ (t:Bool) (z:Operand) (v:V),aS e c=some (.d (.bool t))->z=(if t then x else y)->aS e z=some v->Out P e h ⟨dst,.pick c x y,ty,pos,after,guard⟩ (bz dst v):=by
  intro t z v hc hz hv;refine bI (o:=⟨dst,.pick c x y,ty,pos,after,guard⟩) fun cx r m L F st a w he hh hg=>⟨a.eval z,?_,hg.aS (aF he hv)⟩;have:=qz hg he hc;cases t<;>simp[execOp,this,asBool,hz]
 split at hk
 ·rename_i t va vb hc hx hy
  rcases sM hk with⟨rfl,hk⟩|⟨rfl,hk⟩
  ·exact⟨_,hk,key true x va hc rfl hx⟩
  ·exact⟨_,hk,key false y vb hc rfl hy⟩
 ·rename_i t va hc hx hy
  obtain⟨rfl,hk⟩:=ca hk;exact⟨_,hk,key true x va hc rfl hx⟩
 ·rename_i t vb hc hx hy
  obtain⟨hb,hk⟩:=ca hk;have hb:t=false:=by simpa using hb
  subst hb;exact⟨_,hk,key false y vb hc rfl hy⟩
 ·exact hk.elim
theorem Ci{x:Operand}(hk:gL T e h dst (.nilCheck x) K):∃ ws,K ws/\Out P e h ⟨dst,.nilCheck x,ty,pos,after,guard⟩ ws:=by
 simp only[gL]at hk;split at hk;case h_2=>exact hk.elim
 rename_i v hv;have key:(∀ (yv:Option Nat) (L:Loc) (F:Nat->Nat) (w:World) (y:Value),bg yv L F w v y->(∃ p,y = .pointer (some p))\/(∃ f l,y = .func (.func f) #[] l) \/ ∃ t u,y = .iface t u) ->
   Out P e h ⟨dst,.nilCheck x,ty,pos,after,guard⟩ (bz dst v):=by
  intro hy;refine bI (o:=⟨dst,.nilCheck x,ty,pos,after,guard⟩) fun cx r m L F st a w he hh hg=>⟨a.eval x,?_,hg.aS (aF he hv)⟩;rcases hy _ _ _ _ _ (hg.aS (aF he hv)) with⟨p,hp⟩|⟨f,l,hp⟩|⟨t,u,hp⟩<;>simp[execOp,hp]
 split at hk
 ·exact⟨_,hk,key fun yv L F w y hy=>by obtain⟨b,off,rfl,_⟩:=hy;exact .inl ⟨_,rfl⟩⟩
 ·exact⟨_,hk,key fun yv L F w y hy=>.inl ⟨_,hy⟩⟩
 ·exact⟨_,hk,key fun yv L F w y hy=>.inl ⟨_,hy⟩⟩
 ·exact⟨_,hk,key fun yv L F w y hy=>by obtain⟨l,rfl,_⟩:=hy;exact .inr (.inl ⟨_,_,rfl⟩)⟩
 ·exact⟨_,hk,key fun yv L F w y hy=>by obtain⟨l,rfl,_⟩:=hy;exact .inr (.inl ⟨_,_,rfl⟩)⟩
 ·exact⟨_,hk,key fun yv L F w y hy=>by obtain⟨l,rfl,_⟩:=hy;exact .inr (.inr ⟨_,_,rfl⟩)⟩
 ·exact hk.elim
theorem n8{k:IntKind}{n:Int}{K:V->Prop}(h:arith k n K):K (.d (.int k (k.wrap n))):=by cases h;assumption
theorem Mt{op:UnOp}{t:TypeId}{x:Operand}(hk:gL T e h dst (.unOp op t x) K):∃ ws,K ws/\Out P e h ⟨dst,.unOp op t x,ty,pos,after,guard⟩ ws:=by
 simp only[gL]at hk;split at hk
 ·rename_i b hv
  exact⟨_,hk,bI (v:=.d (.bool !b)) (o:=⟨dst,.unOp .not t x,ty,pos,after,guard⟩) fun cx r m L F st a w he hh hg=>⟨.bool !b,by simp[execOp,qz hg he hv,Op.unary],rfl⟩⟩
 ·rename_i k n hv
  exact⟨_,n8 hk,bI (v:=.d (.int k (k.wrap (0-n)))) (o:=⟨dst,.unOp .neg t x,ty,pos,after,guard⟩) fun cx r m L F st a w he hh hg=>⟨.int k (k.wrap (0-n)),by simp[execOp,jm hg he hv,Op.unary,Op.intArith],rfl⟩⟩
 ·exact hk.elim
theorem Ef(hT:bA P T){s d:TypeId}{x:Operand}(hk:gL T e h dst (.convert s d x) K):∃ ws,K ws/\Out P e h ⟨dst,.convert s d x,ty,pos,after,guard⟩ ws:=by
 simp only[gL]at hk;split at hk;case h_2=>exact hk.elim
 rename_i si di v hs hd hv;obtain⟨i,dd,hi,BT,_,_,eI,_⟩:=hT s si hs;obtain⟨j,de,hj,gP,_,_,gu,_⟩:=hT d di hd;split at hk
 ·rename_i k1 k k2 n e1 e2
  rw[e1]at eI;rw[e2]at gu;have e1:=nz eI.symm;have e2:=nz gu.symm;subst e1 e2;exact⟨_,n8 hk,bI (v:=.d (.int k (k.wrap n))) (o:=⟨dst,.convert s d x,ty,pos,after,guard⟩) fun cx r m L F st a w he hh hg=>
   ⟨.int k (k.wrap n),by simp[execOp,jm hg he hv,convert,run_underlying BT,run_underlying gP,Conv.intToInt],rfl⟩⟩
 ·rename_i sv e1 e2
  rw[e1]at eI;rw[e2]at gu;have e1:=jo eI.symm;have e2:=jo gu.symm;subst e1 e2;exact⟨_,hk,bI (v:=.d (.str sv)) (o:=⟨dst,.convert s d x,ty,pos,after,guard⟩) fun cx r m L F st a w he hh hg=>
   ⟨.string sv,by simp[execOp,lE hg he hv,convert,run_underlying BT,run_underlying gP],rfl⟩⟩
 ·exact hk.elim
theorem oe{α:Type}{cs:List α}{n:Nat}{K:α->Prop}(h:pD cs n K):∃ v,cs[n]?=some v/\K v:=by
 unfold pD at h;split at h
 ·rename_i v hv;exact⟨v,hv,h⟩
 ·exact h.elim
theorem bc.get{F:Nat->Nat}{w:World}{cs:List D}{l:List Value}(i:Nat){c:D}(h:bc F w cs l)(hi:cs[i]?=some c):∃ x,l[i]?=some x/\bM F w c x:=by
 have:=aq.get (yv:=none) (L:=⟨fun _=>0,fun _=>0⟩) (c:=.d c) i (aq.inj.2 h) (by rw[wL,hi];rfl);exact this
theorem Eg{x:Operand}{i:Nat}(hk:gL T e h dst (.extract x i) K):∃ ws,K ws/\Out P e h ⟨dst,.extract x i,ty,pos,after,guard⟩ ws:=by
 simp only[gL]at hk;split at hk
 ·rename_i l hv
  obtain⟨v,hi,hk⟩:=oe hk;refine⟨_,hk,bI (o:=⟨dst,.extract x i,ty,pos,after,guard⟩) fun cx r m L F st a w he hh hg=>?_⟩;obtain⟨vs,dC,hl⟩:=hg.aS (aF he hv);obtain⟨y,hy,DN⟩:=bc.get i hl hi;have oz:vs[i]?=some y:=by simpa using hy
  exact⟨y,by simp[execOp,dC,Instr.extract,oz],DN⟩
 ·rename_i l hv
  obtain⟨v,hi,hk⟩:=oe hk;refine⟨_,hk,bI (o:=⟨dst,.extract x i,ty,pos,after,guard⟩) fun cx r m L F st a w he hh hg=>?_⟩;obtain⟨vs,dC,hl⟩:=hg.aS (aF he hv);obtain⟨y,hy,DN⟩:=aq.get i hl hi;have oz:vs[i]?=some y:=by simpa using hy
  exact⟨y,by simp[execOp,dC,Instr.extract,oz],DN⟩
 ·exact hk.elim
end
theorem BB(b c:ByteArray):(b.toList ==c.toList)=decide (b=c):=by
 rw[<- beq_toListBytes,Bool.eq_iff_iff,decide_eq_true_eq];constructor
 ·intro h
  have h:(b.data ==c.data)=true:=h;cases b;cases c
  simp only[beq_iff_eq]at h;rw[h]
 ·rintro rfl
  show(b.data ==b.data)=true;simp
theorem HL(b c:Int):(b ==c)=decide (b=c):=rfl
theorem Cq{P:Program}{w:World}(b c:ByteArray):(Op.stringOp .eql b c).run P w = .ok (.bool (decide (b=c))) w:=by
 simp[Op.stringOp,BB]
theorem Cr{P:Program}{w:World}(b c:ByteArray):(Op.stringOp .neq b c).run P w = .ok (.bool (!decide (b=c))) w:=by
 simp[Op.stringOp,bne,BB]
theorem bc.take{F:Nat->Nat}{w:World}{cs:List D}{l:List Value}(n:Nat)(h:bc F w cs l):bc F w (cs.take n) (l.take n):=by
 have:=aq.take (yv:=none) (L:=⟨fun _=>0,fun _=>0⟩) n (aq.inj.2 h);rw[<- yt]at this;exact aq.inj.1 this
theorem bc.drop{F:Nat->Nat}{w:World}{cs:List D}{l:List Value}(n:Nat)(h:bc F w cs l):bc F w (cs.drop n) (l.drop n):=by
 have:=aq.drop (yv:=none) (L:=⟨fun _=>0,fun _=>0⟩) n (aq.inj.2 h);rw[<- yr]at this;exact aq.inj.1 this
section
variable {P : Program} {T : e7} {F : Nat -> Nat} {w : World}
def px(T:e7)(F:Nat->Nat)(w:World)(t:TypeId)(xs:List D)(x:Value):Prop:=
 ∀ ti,T.get t=some ti->if ti.isAgg then ∃ l:Array Value,x = .agg l/\bc F w xs l.toList else ∀ c,xs = [c]->bM F w c x
theorem kj(hT:bA P T){t:TypeId}{ti:rE}(ht:T.get t=some ti){cs:Array Value}{xs:List D}{off:Nat}(hx:bc F w xs cs.toList)(h:off+ti.size<=xs.length)(h1:0<ti.size) :
  ∃ x,(part t cs off).run P w = .ok x w/\px T F w t ((xs.drop off).take ti.size) x:=by
 unfold part;have hs:=e5 (w:=w) hT ht;have hl:cs.size=xs.length:=by simpa using hx.length
 cases hA:ti.isAgg
 ·have dN:off<cs.size:=by omega
  refine⟨cs[off],?_,fun ti' yp=>?_⟩
  ·simp[lj hT ht,hA,dN]
  ·rw[ht]at yp;cases yp
   simp only[hA,Bool.false_eq_true,if_false];intro c hc;have pb:xs[off]?=some c:=by
    have:((xs.drop off).take ti.size)[0]?=some c:=by rw[hc];rfl
    rw[List.getElem?_take_of_lt h1,List.getElem?_drop]at this;simpa using this
   obtain⟨y,hy,hr⟩:=bc.get off hx pb;have:cs[off]=y:=by
    have:=(List.getElem?_eq_some_iff.1 hy).2;simpa using this
   rw[this];exact hr
 ·refine⟨.agg (cs.extract off (off+ti.size)),?_,fun ti' yp=>?_⟩
  ·simp[lj hT ht,hA,hs]
  ·rw[ht]at yp;cases yp
   simp only[hA,if_true];refine⟨_,rfl,?_⟩;have:(cs.extract off (off+ti.size)).toList=(cs.toList.drop off).take ti.size:=by simp[List.extract_eq_take_drop]
   rw[this];exact bc.take _ (bc.drop off hx)
theorem xJ(hT:bA P T){eq:TypeId->List D->List D->Option Bool}{N:Nat}
  (heq:∀ (t:TypeId) (xs ys:List D) (r:Bool),eq t xs ys=some r ->
   P.eqGuardType N t=false /\ ∀ (x y:Value),px T F w t xs x->px T F w t ys y->(Op.equalIn N t x y).run P w = .ok r w) :
  ∀ (fs : List Field), (∀ f ∈ fs, (f.name == "_") = false) -> ∀ (xs ys : List D) (r : Bool), KO T eq (fs.map fun f => (f.offset, f.type)) xs ys = some r ->
  (∀ f∈fs,P.eqGuardType N f.type=false) /\ ∀ (lx ly:Array Value),bc F w xs lx.toList->bc F w ys ly.toList->(Op.eqFields N lx ly fs).run P w = .ok r w
 | [],_,xs,ys,r,h=>by
  simp only[List.map_nil,KO,Option.some.injEq]at h;subst h;exact⟨by simp,fun _ _ _ _=>by simp[Op.eqFields]⟩
 | f::fs,ym,xs,ys,r,h=>by
  simp only[List.map_cons,KO]at h;split at h
  ·cases h
  rename_i ti ic;split at h;case h_2=>cases h
  rename_i su HF LO;have su:ti.size≠0:=by intro e;rw[e]at su;simp at su
  have HF:=ng HF;have LO:=ng LO;split at h
  ·rename_i b c hb pb
   cases h;have h1:=heq f.type _ _ b hb;have h2:=xJ hT heq fs (fun g hg=>ym g (List.mem_cons_of_mem _ hg)) xs ys c pb;refine⟨fun g hg=>?_,fun lx ly ss uE=>?_⟩
   ·rcases List.mem_cons.1 hg with rfl|hg
    ·exact h1.1
    ·exact h2.1 g hg
   ·obtain⟨x,hx,Oi⟩:=kj (F:=F) (w:=w) hT ic ss HF (by omega)
    obtain⟨y,hy,Oj⟩:=kj (F:=F) (w:=w) hT ic uE LO (by omega)
    have Xh : f.name ≠ "_" := by
     have:=ym f (List.mem_cons_self ..);simpa using this
    simp only[Op.eqFields,Xh,ne_eq,not_false_eq_true,if_true,Sem.run_bind,hx,hy,Result.andThen_ok,h1.2 x y Oi Oj];cases b
    ·simp
    ·simp[h2.2 lx ly ss uE]
  ·cases h
theorem xK(hT:bA P T){e:TypeId}{ei:rE}(jS:T.get e=some ei)(h0:0<ei.size){eq:List D->List D->Option Bool}{N:Nat}
  (heq:∀ (xs ys:List D) (r:Bool),eq xs ys=some r->P.eqGuardType N e=false /\ ∀ (x y:Value),px T F w e xs x->px T F w e ys y->(Op.equalIn N e x y).run P w = .ok r w) :
  ∀ (n i:Nat) (xs ys:List D) (r:Bool) (lx ly:Array Value),bc F w xs lx.toList->bc F w ys ly.toList->Iz eq ei.size n (xs.drop (i*ei.size)) (ys.drop (i*ei.size))=some r ->
   (Op.eqItems N e ei.size lx ly (List.range' i n)).run P w = .ok r w
 | 0,i,xs,ys,r,lx,ly,ss,uE,h=>by
  simp only[Iz,Option.some.injEq]at h;subst h;simp[Op.eqItems]
 | n+1,i,xs,ys,r,lx,ly,ss,uE,h=>by
  simp only[Iz]at h;split at h;case h_2=>cases h
  rename_i HF LO;have HF:=ng HF;have LO:=ng LO;split at h;case h_2=>cases h
  rename_i a b ha hb;cases h;rw[List.length_drop]at HF LO;obtain⟨x,hx,Oi⟩:=kj (F:=F) (w:=w) hT jS ss (off:=i*ei.size) (by omega) h0;obtain⟨y,hy,Oj⟩:=kj (F:=F) (w:=w) hT jS uE (off:=i*ei.size) (by omega) h0;have h1:=(heq _ _ _ ha).2 x y Oi Oj;have h2:=xK hT jS h0 heq n (i+1) xs ys b lx ly ss uE (by
   have e1:(i+1)*ei.size=i*ei.size+ei.size:=Nat.succ_mul _ _;rw[e1,<- List.drop_drop,<- List.drop_drop];exact hb)
  simp only[List.range'_succ,Op.eqItems,Sem.run_bind,hx,hy,Result.andThen_ok,h1];cases a
  ·simp
  ·simp[h2]
theorem um(hT:bA P T):∀ (d:Nat) (t:TypeId) (xs ys:List D) (r:Bool),NQ T d t xs ys=some r -> ∀ (N:Nat),d<=N ->
  P.eqGuardType N t=false /\ ∀ (x y:Value),px T F w t xs x->px T F w t ys y->(Op.equalIn N t x y).run P w = .ok r w
 | 0,_,_,_,_,h,_,_=>by simp[NQ]at h
 | d+1,t,xs,ys,r,h,0,hN=>by omega
 | d+1,t,xs,ys,r,h,N+1,hN=>by
  simp only[NQ]at h;split at h
  ·cases h
  rename_i ti ic;obtain⟨i,de,hi,gP,_,_,eP,pd,UP,_⟩:=hT t ti ic;split at h
  ·rename_i hk
   have e:=qC (eP▸hk);subst e;split at h
   ·rename_i b c;cases h
    refine⟨by simp[Program.eqGuardType,gP],fun x y hx hy=>?_⟩;have jT:=hx ti ic;have oz:=hy ti ic;rw[pd]at jT oz;have ex:x = .bool b:=jT _ rfl;have ey:y = .bool c:=oz _ rfl;subst ex ey;exact run_equalIn_bool' w N t b c gP
   ·cases h
  ·rename_i k hk
   have e:=nz (eP▸hk);subst e;split at h
   ·rename_i k1 b k2 c
    split at h
    ·rename_i wI;have wI:=of_decide_eq_true wI;subst wI;cases h
     refine⟨by simp[Program.eqGuardType,gP],fun x y hx hy=>?_⟩;have jT:=hx ti ic;have oz:=hy ti ic;rw[pd]at jT oz;have ex:x = .int k1 b:=jT _ rfl;have ey:y = .int k1 c:=oz _ rfl;subst ex ey;exact run_equalIn_int w N t k1 k b c gP
    ·cases h
   ·cases h
  ·rename_i hk
   have e:=jo (eP▸hk);subst e;split at h
   ·rename_i b c;cases h
    refine⟨by simp[Program.eqGuardType,gP],fun x y hx hy=>?_⟩;have jT:=hx ti ic;have oz:=hy ti ic;rw[pd]at jT oz;have ex:x = .string b:=jT _ rfl;have ey:y = .string c:=oz _ rfl;subst ex ey;rw[run_equalIn_string w N t b c gP,BB]
   ·cases h
  ·rename_i fs hk
   obtain⟨fa,rfl,rfl,ym⟩:=jc (eP▸hk);split at h
   ·cases h
   rename_i Lo;have FA:P.stoodInHeld t=false:=(UP Lo).1;have hF:=xJ (P:=P) (F:=F) (w:=w) hT (fun t xs ys r h=>um hT d t xs ys r h N (by omega)) fa.toList ym xs ys r h;refine⟨?_,fun x y hx hy=>?_⟩
   ·simp only[Program.eqGuardType,gP]
    rw[Array.any_eq_false'];intro f hf;have:=hF.1 f (by simpa using hf);simp[this]
   ·have jT:=hx ti ic;have oz:=hy ti ic
    rw[pd]at jT oz;simp only[sG,if_true]at jT oz;obtain⟨lx,rfl,ss⟩:=jT;obtain⟨ly,rfl,uE⟩:=oz;have BW:P.fieldsOf t=fa:=by simp[Program.fieldsOf,gP]
    rw[run_equalIn_struct w N t lx ly (by rw[BW];exact gP) FA,BW];exact hF.2 lx ly ss uE
  ·rename_i n e hk
   have e':=gi (eP▸hk);subst e';split at h;case h_2=>cases h
   rename_i ei jS;split at h;case h_2=>cases h
   rename_i dc su;have dc:ei.size≠0:=by intro e;rw[e]at dc;simp at dc
   obtain⟨ie,_,mQ,_,fo,_⟩:=hT e ei jS;have Dy:P.cellsOf e=ei.size:=by simp[Program.cellsOf,mQ,fo]
   have heq:=fun xs ys r h=>um (xs:=xs) (ys:=ys) (r:=r) hT d e h N (by omega);have hI:=xK (P:=P) (F:=F) (w:=w) (T:=T) hT jS (Nat.pos_of_ne_zero dc) (N:=N) (eq:=fun xs ys=>NQ T d e xs ys) (fun xs ys r h=>heq xs ys r h);refine⟨?_,fun x y hx hy=>?_⟩
   ·simp only[Program.eqGuardType,gP]
    cases n with
    | zero=>simp at su
    | succ n=>
     simp only[Iz]at h;split at h;case h_2=>cases h
     split at h;case h_2=>cases h
     rename_i a b ha _;exact(heq _ _ _ ha).1
   ·have jT:=hx ti ic;have oz:=hy ti ic
    rw[pd]at jT oz;simp only[sG,if_true]at jT oz;obtain⟨lx,rfl,ss⟩:=jT;obtain⟨ly,rfl,uE⟩:=oz;rw[run_equalIn_array w N lx ly gP mQ,Dy,List.range_eq_range'];exact hI n 0 xs ys r lx ly ss uE (by simpa using h)
  ·cases h
theorem KG:9<=P.depth:=by unfold Program.depth Made.depth;omega
theorem mK{op:BinOp}{t:TypeId}{x y:Operand}{u v:Value}(h:∀ l,u ≠ .agg l)(h2:u ≠ .nilIface):(eqGuard op t x y u v).run P w = .ok () w:=by
 have key:∀ (m1:Sem Unit) (m2:Sem Unit),(match u,v with
   | .nilIface,.nilIface=>m1
   | .agg _,.agg _=>m2
   | _,_=>pure ()).run P w = .ok () w:=by
  intro m1 m2;cases u<;>first|exact absurd rfl h2|exact absurd rfl (h _)|(cases v<;>rfl)
 unfold eqGuard;cases op<;>first|(simp;done)|skip
 ·exact key _ _
 ·exact key _ _
end
theorem DT{P:Program}{T:e7}(hT:bA P T){t:TypeId}(h:isBool T t=true):P.underlying t=some .bool:=by
 unfold isBool at h;split at h
 ·rename_i ti ic
  split at h
  ·rename_i hk
   obtain⟨i,de,hi,gP,_,_,eP,_⟩:=hT t ti ic;rw[hk]at eP;rw[gP,qC eP.symm]
  ·cases h
 ·cases h
theorem FR{T:e7}{t:TypeId}(h:tn T t=true):∃ ti,T.get t=some ti/\((∃ fs,ti.kd = .struct fs) \/ ∃ n e,ti.kd = .array n e):=by
 unfold tn at h;split at h
 ·rename_i ti ic
  split at h
  ·rename_i fs hk;exact⟨ti,ic,.inl ⟨fs,hk⟩⟩
  ·rename_i n e hk;exact⟨ti,ic,.inr ⟨n,e,hk⟩⟩
  ·cases h
 ·cases h
theorem G5{x:Option Bool}{K:V->Prop}(h:G4 x K):∃ b,x=some b/\K (.d (.bool b)):=by
 unfold G4 at h;split at h
 ·exact⟨_,rfl,h⟩
 ·exact h.elim
theorem R5{x:Option Bool}{b:Bool}(h:R4 x=some b):∃ c,x=some c/\b = !c:=by
 unfold R4 at h;split at h
 ·cases h;exact⟨_,rfl,rfl⟩
 ·cases h
section
variable {P : Program} {T : e7} {e : Env} {h : Heap} {dst : Option Nat} {K : List Wr -> Prop} {ty : TypeId} {pos : String} {after : Array Edge} {guard : Option (Nat × Bool)}
theorem I4(hT:bA P T){t:TypeId}(h:isIface T t=true):∃ ms,P.underlying t=some (.interface ms):=by
 unfold isIface at h;split at h;case h_2=>cases h
 rename_i ti ht;split at h;case h_2=>cases h
 rename_i he;obtain⟨_,de,_,gP,_,_,eI,_⟩:=hT t ti ht;rw[he]at eI;obtain⟨ms,rfl⟩:=yx eI.symm;exact⟨ms,gP⟩
theorem Mn(hT:bA P T){op:BinOp}{t t':TypeId}{x y:Operand}{u v:V}(hu:aS e x=some u)(hv:aS e y=some v)(hk:QA T op t u v fun v=>K (bz dst v)):∃ ws,K ws/\Out P e h ⟨dst,.binOp op t x y t',ty,pos,after,guard⟩ ws:=by
 have fin:∀ (d:D) (hd:K (bz dst (.d d))),(∀ {σ:Type} (cx:Cx σ) (r:Option Nat) (m:List Nat) (L:Loc) (F:Nat->Nat) (st:St σ) (a:Act) (w:World),dB e st.env->Good cx r m L F st a w ->
   ∃ s,(eqGuard op t x y (a.eval x) (a.eval y)).run P w = .ok () w/\(binOp op t (a.eval x) (a.eval y)).run P w = .ok s w/\bM F w d s) -> ∃ ws,K ws/\Out P e h ⟨dst,.binOp op t x y t',ty,pos,after,guard⟩ ws:=by
  intro d hd hr;refine⟨_,hd,bI (v:=.d d) (o:=⟨dst,.binOp op t x y t',ty,pos,after,guard⟩) fun cx r m L F st a w he hh hg=>?_⟩;obtain⟨s,h1,h2,h3⟩:=hr cx r m L F st a w he hg;exact⟨s,by simp[execOp,h1,h2],h3⟩
 unfold QA at hk;split at hk
 ·rename_i k b k' c
  have ints:∀ {σ:Type} (cx:Cx σ) (r:Option Nat) (m:List Nat) (L:Loc) (F:Nat->Nat) (st:St σ) (a:Act) (w:World),dB e st.env->Good cx r m L F st a w ->
    a.eval x = .int k b/\a.eval y = .int k' c/\(eqGuard op t x y (a.eval x) (a.eval y)).run P w = .ok () w:=by
   intro σ cx r m L F st a w he hg;have hx:=jm hg he hu;have hy:=jm hg he hv;exact⟨hx,hy,by rw[hx,hy];exact mK (fun l e=>by cases e) (fun e=>by cases e)⟩
  split at hk
  ·obtain⟨hc,hk⟩:=ca hk
   have hc:0<=c:=of_decide_eq_true hc;refine fin _ (n8 hk) fun cx r m L F st a w he hg=>?_;obtain⟨hx,hy,h1⟩:=ints cx r m L F st a w he hg;exact⟨_,h1,by rw[hx,hy];simp[binOp,Op.shift,show ¬ c<0 by omega],rfl⟩
  ·obtain⟨hc,hk⟩:=ca hk
   have hc:0<=c:=of_decide_eq_true hc;refine fin _ hk fun cx r m L F st a w he hg=>?_;obtain⟨hx,hy,h1⟩:=ints cx r m L F st a w he hg;exact⟨_,h1,by rw[hx,hy];simp[binOp,Op.shift,show ¬ c<0 by omega],rfl⟩
  ·split at hk
   case h_2=>exact hk.elim
   rename_i wI;have wI:=of_decide_eq_true wI;subst wI;have:∃ d,K (bz dst (.d d)) /\ ∀ F w,∃ s,((binOp op t (.int k b) (.int k c)).run P w = .ok s w)/\bM F w d s:=by
    clear ints fin;cases op<;>simp only[Vn]at hk
    case add=>exact⟨_,n8 hk,fun F w=>⟨_,by simp[binOp,Op.intArith],rfl⟩⟩
    case sub=>exact⟨_,n8 hk,fun F w=>⟨_,by simp[binOp,Op.intArith],rfl⟩⟩
    case mul=>exact⟨_,n8 hk,fun F w=>⟨_,by simp[binOp,Op.intArith],rfl⟩⟩
    case quo=>
     obtain⟨hc,hb⟩:=ca hk;have hc:c≠0:=of_decide_eq_true hc;exact⟨_,n8 hb,fun F w=>⟨_,by simp[binOp,Op.intDiv,hc],rfl⟩⟩
    case rem=>
     obtain⟨hc,hb⟩:=ca hk;have hc:c≠0:=of_decide_eq_true hc;exact⟨_,hb,fun F w=>⟨_,by simp[binOp,Op.intDiv,hc],rfl⟩⟩
    case eql=>exact⟨_,hk,fun F w=>⟨.bool (decide (b=c)),by simp[binOp,Op.intCmp,HL],rfl⟩⟩
    case neq=>exact⟨_,hk,fun F w=>⟨.bool (!decide (b=c)),by simp[binOp,Op.intCmp,bne,HL],rfl⟩⟩
    case lss=>exact⟨_,hk,fun F w=>⟨_,by simp[binOp,Op.intCmp],rfl⟩⟩
    case leq=>exact⟨_,hk,fun F w=>⟨_,by simp[binOp,Op.intCmp],rfl⟩⟩
    case gtr=>exact⟨_,hk,fun F w=>⟨_,by simp[binOp,Op.intCmp],rfl⟩⟩
    case geq=>exact⟨_,hk,fun F w=>⟨_,by simp[binOp,Op.intCmp],rfl⟩⟩
    case and=>exact⟨_,hk,fun F w=>⟨_,by simp[binOp,Op.intBits,gF],rfl⟩⟩
    case or=>exact⟨_,hk,fun F w=>⟨_,by simp[binOp,Op.intBits,gF],rfl⟩⟩
    case xor=>exact⟨_,hk,fun F w=>⟨_,by simp[binOp,Op.intBits,gF],rfl⟩⟩
    case andNot=>exact⟨_,hk,fun F w=>⟨_,by simp[binOp,Op.intBits,gF],rfl⟩⟩
    all_goals exact hk.elim
   obtain⟨d,hd,bN⟩:=this;refine fin d hd fun cx r m L F st a w he hg=>?_;obtain⟨hx,hy,h1⟩:=ints cx r m L F st a w he hg;obtain⟨s,h2,h3⟩:=bN F w;exact⟨s,h1,by rw[hx,hy];exact h2,h3⟩
 ·rename_i b c
  have Pm:∀ {σ:Type} (cx:Cx σ) (r:Option Nat) (m:List Nat) (L:Loc) (F:Nat->Nat) (st:St σ) (a:Act) (w:World),dB e st.env->Good cx r m L F st a w ->
    a.eval x = .bool b/\a.eval y = .bool c/\(eqGuard op t x y (a.eval x) (a.eval y)).run P w = .ok () w:=by
   intro σ cx r m L F st a w he hg;have hx:=qz hg he hu;have hy:=qz hg he hv;exact⟨hx,hy,by rw[hx,hy];exact mK (fun l e=>by cases e) (fun e=>by cases e)⟩
  split at hk
  ·rename_i hb
   have gP:=DT hT hb;refine fin _ hk fun cx r m L F st a w he hg=>?_;obtain⟨hx,hy,h1⟩:=Pm cx r m L F st a w he hg;exact⟨_,h1,by rw[hx,hy];exact run_eql_bool w t b c gP,rfl⟩
  ·rename_i hb
   have gP:=DT hT hb;refine fin _ hk fun cx r m L F st a w he hg=>?_;obtain⟨hx,hy,h1⟩:=Pm cx r m L F st a w he hg;exact⟨_,h1,by rw[hx,hy];exact run_neq_bool w t b c gP,rfl⟩
  ·exact hk.elim
 ·rename_i b c
  have strs:∀ {σ:Type} (cx:Cx σ) (r:Option Nat) (m:List Nat) (L:Loc) (F:Nat->Nat) (st:St σ) (a:Act) (w:World),dB e st.env->Good cx r m L F st a w ->
    a.eval x = .string b/\a.eval y = .string c/\(eqGuard op t x y (a.eval x) (a.eval y)).run P w = .ok () w:=by
   intro σ cx r m L F st a w he hg;have hx:=lE hg he hu;have hy:=lE hg he hv;exact⟨hx,hy,by rw[hx,hy];exact mK (fun l e=>by cases e) (fun e=>by cases e)⟩
  split at hk
  ·refine fin _ hk fun cx r m L F st a w he hg=>?_
   obtain⟨hx,hy,h1⟩:=strs cx r m L F st a w he hg;exact⟨.bool (decide (b=c)),h1,by rw[hx,hy];simpa[binOp]using Cq b c,rfl⟩
  ·refine fin _ hk fun cx r m L F st a w he hg=>?_
   obtain⟨hx,hy,h1⟩:=strs cx r m L F st a w he hg;exact⟨.bool (!decide (b=c)),h1,by rw[hx,hy];simpa[binOp]using Cr b c,rfl⟩
  ·obtain⟨dc,hk⟩:=ca hk
   have dc:=of_decide_eq_true dc;refine fin _ hk fun cx r m L F st a w he hg=>?_;obtain⟨hx,hy,h1⟩:=strs cx r m L F st a w he hg;refine⟨.string (b++c),h1,?_,rfl⟩;have Rk:IntKind.i64.max=9223372036854775807:=rfl;have Og:¬ (((b.size+c.size:Nat):Int)>9223372036854775807):=by omega
   rw[hx,hy];show(Op.stringOp .add b c).run P w=_;simp only[Op.stringOp,Rk];rw[if_neg Og];rfl
  ·exact hk.elim
 ·rename_i xs ys
  have key:∀ (b:Bool) (hs:tn T t=true) (SE:NQ T 9 t xs ys=some b) {σ:Type} (cx:Cx σ) (r:Option Nat) (m:List Nat) (L:Loc) (F:Nat->Nat) (st:St σ) (a:Act) (w:World),dB e st.env->Good cx r m L F st a w ->
    ∃ lx ly,a.eval x = .agg lx/\a.eval y = .agg ly/\(eqGuard op t x y (a.eval x) (a.eval y)).run P w = .ok () w/\(Op.equal t (a.eval x) (a.eval y)).run P w = .ok b w:=by
   intro b hs SE σ cx r m L F st a w he hg;obtain⟨lx,hx,ss⟩:=hg.aS (aF he hu);obtain⟨ly,hy,uE⟩:=hg.aS (aF he hv);have h9:=um (P:=P) (F:=F) (w:=w) hT 9 t xs ys b SE;have SG:=(h9 P.depth KG).1;obtain⟨ti,ic,Lp⟩:=FR hs;obtain⟨i,de,hi,gP,_,_,eP,pd,_⟩:=hT t ti ic;have pd:ti.isAgg=true:=by
    rw[pd];rcases Lp with⟨fs,Lp⟩|⟨n,e,Lp⟩
    ·rw[Lp]at eP
     obtain⟨fa,Zp,_⟩:=jc eP.symm;subst Zp;rfl
    ·rw[Lp]at eP
     have:=gi eP.symm;subst this;rfl
   have th:∀ (zs:List D) (l:Array Value),bc F w zs l.toList->px T F w t zs (.agg l):=fun zs l hl ti' yp=>by
    rw[ic]at yp;cases yp;rw[pd];exact⟨l,rfl,hl⟩
   refine⟨lx,ly,hx,hy,?_,?_⟩
   ·rw[hx,hy]
    unfold eqGuard;cases op<;>simp[SG]
   ·rw[hx,hy]
    exact(h9 Op.maxDepth (by decide)).2 _ _ (th _ _ ss) (th _ _ uE)
  split at hk
  ·rename_i hs
   obtain⟨b,SE,hk⟩:=G5 hk;refine fin _ hk fun cx r m L F st a w he hg=>?_;obtain⟨lx,ly,hx,hy,h1,h2⟩:=key b hs SE cx r m L F st a w he hg;refine⟨.bool b,h1,?_,rfl⟩;rw[hx,hy]at h2 ⊢;simp[binOp,h2]
  ·rename_i hs
   obtain⟨b,SE,hk⟩:=G5 hk;obtain⟨c,Y9,rfl⟩:=R5 SE;refine fin _ hk fun cx r m L F st a w he hg=>?_;obtain⟨lx,ly,hx,hy,h1,h2⟩:=key c hs Y9 cx r m L F st a w he hg;refine⟨.bool !c,h1,?_,rfl⟩;rw[hx,hy]at h2 ⊢;simp[binOp,h2]
  ·exact hk.elim
 ·exact hk.elim
theorem Ei(hT:bA P T){op:BinOp}{t t':TypeId}{x y:Operand}{u:D}{b:Bool}(hu:aS e x=some (.d u))(hb:(u = .nili/\b=true)\/(∃ t v,u = .ifc t v)/\b=false)(pS:FQ y=true)(hk:HV T op t b fun v=>K (bz dst v)) :
  ∃ ws,K ws/\Out P e h ⟨dst,.binOp op t x y t',ty,pos,after,guard⟩ ws:=by
 have hy:y = .const .nilIface:=by
  unfold FQ at pS;split at pS
  ·rfl
  ·cases pS
 subst hy;have key:isIface T t=true -> ∀ {σ:Type} (cx:Cx σ) (r:Option Nat) (m:List Nat) (L:Loc) (F:Nat->Nat) (st:St σ) (a:Act) (w:World),dB e st.env->Good cx r m L F st a w ->
   (eqGuard op t x (.const .nilIface) (a.eval x) .nilIface).run P w = .ok () w/\(Op.equal t (a.eval x) .nilIface).run P w = .ok b w/\((∃ t v,a.eval x = .iface t v)\/a.eval x = .nilIface):=by
  intro Rg σ cx r m L F st a w he hg;have hx:=hg.aS (aF he hu);obtain⟨ms,hms⟩:=I4 hT Rg;have hE:∀ z,Op.equal t z .nilIface=Op.equalIn ((Op.maxDepth-1)+1) t z .nilIface:=fun _=>rfl;rw[hE];generalize Op.maxDepth-1=n;rcases hb with⟨rfl,rfl⟩|⟨⟨t1,v1,rfl⟩,rfl⟩
  ·have hx:a.eval x = .nilIface:=hx
   rw[hx];exact⟨by unfold eqGuard;cases op<;>simp,by simp only[Op.equalIn];simp[run_underlying hms],.inr rfl⟩
  ·obtain⟨y1,hx,_⟩:=hx
   rw[hx];exact⟨by unfold eqGuard;cases op<;>simp,by simp only[Op.equalIn];simp[run_underlying hms],.inl ⟨_,_,rfl⟩⟩
 have fin:∀ (c:Bool) (hd:K (bz dst (.d (.bool c)))) (_:isIface T t=true) (_:∀ (z:Value) (w:World),((∃ t v,z = .iface t v)\/z = .nilIface)->(Op.equal t z .nilIface).run P w = .ok b w->(binOp op t z .nilIface).run P w = .ok (.bool c) w),
   ∃ ws,K ws/\Out P e h ⟨dst,.binOp op t x (.const .nilIface) t',ty,pos,after,guard⟩ ws:=by
  intro c hd Rg hr;refine⟨_,hd,bI (v:=.d (.bool c)) (o:=⟨dst,.binOp op t x (.const .nilIface) t',ty,pos,after,guard⟩) fun cx r m L F st a w he hh hg=>?_⟩;obtain⟨h1,h2,h3⟩:=key Rg cx r m L F st a w he hg;have h4:=hr _ w h3 h2;have hc:a.eval (.const .nilIface) = .nilIface:=rfl;exact⟨_,by simp[execOp,hc,h1,h4],rfl⟩
 unfold HV at hk;split at hk
 ·rename_i Rg
  refine fin b hk Rg fun z w hz h2=>?_;rcases hz with⟨t1,v1,rfl⟩|rfl<;>simp[binOp,h2]
 ·rename_i Rg
  refine fin (!b) hk Rg fun z w hz h2=>?_;rcases hz with⟨t1,v1,rfl⟩|rfl<;>simp[binOp,h2]
 ·exact hk.elim
theorem Jk(hT:bA P T){op:BinOp}{t t':TypeId}{x y:Operand}(hk:gL T e h dst (.binOp op t x y t') K):∃ ws,K ws/\Out P e h ⟨dst,.binOp op t x y t',ty,pos,after,guard⟩ ws:=by
 simp only[gL]at hk;split at hk;case h_2=>exact hk.elim
 rename_i u v hu hv;split at hk
 ·rename_i hn
  exact Ei hT hu (.inl ⟨rfl,rfl⟩) hn hk
 ·rename_i hn
  exact Ei hT hu (.inr ⟨⟨_,_,rfl⟩,rfl⟩) hn hk
 ·exact Mn hT hu hv hk
end
end Go.PX
