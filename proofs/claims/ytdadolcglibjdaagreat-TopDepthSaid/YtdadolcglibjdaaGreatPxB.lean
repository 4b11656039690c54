import Derived.Test.YtdadolcglibjdaaGreatPxA
import Derived.ProofKit
import Derived.ChangeKeysEq
set_option linter.all false
namespace Go.PX
open Go.RowKit
theorem dQ{α:Type}(t:sW α)(s:Nat)(v:α)(x:Nat):get ((s,v)::t) x=if x=s then some v else get t x:=by
 by_cases h:x=s
 ·subst h;simp[get]
 ·have:Nat.beq s x=false:=by rw[Bool.eq_false_iff];intro e;exact h (Nat.eq_of_beq_eq_true e).symm
  simp[get,this,h]
theorem db{α:Type}(t:sW α)(s:Nat)(v:α)(x:Nat):get (put t s v) x=if x=s then some v else get t x:=by
 induction t with
 | nil=>
  simp only[put,get];by_cases h:x=s
  ·subst h;simp
  ·have:Nat.beq s x=false:=by rw[Bool.eq_false_iff];intro e;exact h (Nat.eq_of_beq_eq_true e).symm
   simp[this,h]
 | cons kv r ih=>
  obtain⟨k,u⟩:=kv;simp only[put]
  cases hk:Nat.beq k s with
  | true=>
   have:=Nat.eq_of_beq_eq_true hk;subst this;simp only[get];by_cases h:x=k
   ·subst h;simp
   ·have:Nat.beq k x=false:=by rw[Bool.eq_false_iff];intro e;exact h (Nat.eq_of_beq_eq_true e).symm
    simp[this,h]
  | false=>
   simp only[get]
   cases hx:Nat.beq k x with
   | true=>
    have:=Nat.eq_of_beq_eq_true hx;subst this;have:k≠s:=by rintro rfl;simp at hk
    simp[this]
   | false=>exact ih
theorem dP{α:Type}(t:sW α)(s:Nat)(x:Nat):get (cut t s) x=if x=s then none else get t x:=by
 induction t with
 | nil=>simp[cut,get]
 | cons kv r ih=>
  obtain⟨k,u⟩:=kv;simp only[cut]
  cases hk:Nat.beq k s with
  | true=>
   have:=Nat.eq_of_beq_eq_true hk;subst this;rw[ih];by_cases h:x=k
   ·simp[h]
   ·have:Nat.beq k x=false:=by rw[Bool.eq_false_iff];intro e;exact h (Nat.eq_of_beq_eq_true e).symm
    simp[h,get,this]
  | false=>
   simp only[get]
   cases hx:Nat.beq k x with
   | true=>
    have:=Nat.eq_of_beq_eq_true hx;subst this;have:k≠s:=by rintro rfl;simp at hk
    simp[this]
   | false=>exact ih
theorem bs{α β:Type}(f:α->β)(t:sW α)(x:Nat):get (ct f t) x=(get t x).map f:=by
 induction t with
 | nil=>rfl
 | cons kv r ih=>
  obtain⟨k,u⟩:=kv;simp only[ct,get]
  cases hx:Nat.beq k x with
  | true=>rfl
  | false=>exact ih
theorem aS.length{F:Nat->Nat}{w:World}:∀ {cs:List D} {l:List Value},aS F w cs l->l.length=cs.length
 | [],_,h=>by simp[show _ = [] from h]
 | _::_,_,h=>by
  obtain⟨x,l',rfl,_,hl⟩:=h;simp[aS.length hl]
theorem aj.length{yv:Option Nat}{L:Loc}{F:Nat->Nat}{w:World}:∀ {cs:List V} {l:List Value},aj yv L F w cs l->l.length=cs.length
 | [],_,h=>by simp[show _ = [] from h]
 | _::_,_,h=>by
  obtain⟨x,l',rfl,_,hl⟩:=h;simp[aj.length hl]
section
variable {yv : Option Nat} {L : Loc} {F : Nat -> Nat} {w : World}
theorem aj.inj:∀ {cs:List D} {l:List Value},aj yv L F w (inj cs) l↔aS F w cs l
 | [],l=>by simp[PX.inj,aj,aS]
 | c::r,l=>by
  simp only[PX.inj,aj,aS];constructor
  ·rintro ⟨x,l',rfl,hc,hl⟩;exact⟨x,l',rfl,hc,aj.inj.1 hl⟩
  ·rintro ⟨x,l',rfl,hc,hl⟩;exact⟨x,l',rfl,hc,aj.inj.2 hl⟩
theorem aj.get:∀ {cs:List V} {l:List Value} (i:Nat) {c:V},aj yv L F w cs l->cs[i]?=some c -> ∃ x,l[i]?=some x/\aT yv L F w c x
 | [],_,i,c,_,hi=>by simp at hi
 | d::r,_,0,c,h,hi=>by
  obtain⟨x,l',rfl,hc,hl⟩:=h;simp at hi;subst hi;exact⟨x,by simp,hc⟩
 | d::r,_,i+1,c,h,hi=>by
  obtain⟨x,l',rfl,hc,hl⟩:=h;simpa using aj.get i hl (by simpa using hi)
theorem aj.jG:∀ {cs:List V} {l:List Value},l.length=cs.length->(∀ (i:Nat) (c:V),cs[i]?=some c -> ∃ x,l[i]?=some x/\aT yv L F w c x)->aj yv L F w cs l
 | [],l,hl,_=>(List.length_eq_zero_iff.1 (by simpa using hl):l = [])
 | c::r,[],hl,_=>by simp at hl
 | c::r,x::l,hl,h=>by
  refine⟨x,l,rfl,?_,aj.jG (by simpa using hl) fun i d hd=>by simpa using h (i+1) d (by simpa using hd)⟩;obtain⟨y,hy,hr⟩:=h 0 c (by simp);simp at hy;exact hy▸hr
theorem aj.append:∀ {cs ds:List V} {l k:List Value},aj yv L F w cs l->aj yv L F w ds k->aj yv L F w (cs++ds) (l++k)
 | [],_,_,_,h,k=>by simpa[show _ = [] from h]using k
 | c::r,ds,_,m,h,k=>by
  obtain⟨x,l',rfl,hc,hl⟩:=h;exact⟨x,l'++m,by simp,hc,aj.append hl k⟩
theorem aj.take{cs:List V}{l:List Value}(n:Nat)(h:aj yv L F w cs l):aj yv L F w (cs.take n) (l.take n):=
 .jG (by simp[h.length]) fun i c hc=>by
  rw[List.getElem?_take]at hc ⊢;split at hc
  ·rename_i hi;simp only[hi,if_true];exact h.get i hc
  ·simp at hc
theorem aj.drop{cs:List V}{l:List Value}(n:Nat)(h:aj yv L F w cs l):aj yv L F w (cs.drop n) (l.drop n):=
 .jG (by simp[h.length]) fun i c hc=>by
  rw[List.getElem?_drop]at hc ⊢;exact h.get _ hc
theorem vn(l:List D)(n:Nat):inj (l.take n)=(inj l).take n:=by
 induction l generalizing n with
 | nil=>simp[inj]
 | cons c r ih=>cases n<;>simp[inj,ih]
theorem vk(l:List D)(n:Nat):inj (l.drop n)=(inj l).drop n:=by
 induction l generalizing n with
 | nil=>simp[inj]
 | cons c r ih=>cases n<;>simp[inj,ih]
theorem mK(l m:List D):inj (l++m)=inj l++inj m:=by
 induction l with
 | nil=>rfl
 | cons c r ih=>simp[inj,ih]
theorem eh(l:List D):(inj l).length=l.length:=by
 induction l with
 | nil=>rfl
 | cons c r ih=>simp[inj,ih]
theorem ug(l:List D)(i:Nat):(inj l)[i]?=(l[i]?).map .d:=by
 induction l generalizing i with
 | nil=>simp[inj]
 | cons c r ih=>cases i<;>simp[inj,ih]
theorem cq(l:List (List D)):cU l=l.map inj:=by
 induction l with
 | nil=>rfl
 | cons c r ih=>simp[cU,ih]
mutual
def gm:V->Nat->Prop
 | .agg cs,i=>bz cs i
 | .tup cs,i=>bz cs i
 | .clo _ cs,i=>bz cs i
 | .ifc _ cs,i=>bz cs i
 | .ptr j _,i=>j=i
 | .ep j _ _ _,i=>j=i
 | .sl j _ _ _,i=>j=i
 | .mp j,i=>j=i
 | .it j,i=>j=i
 | _,_=>False
def bz:List V->Nat->Prop
 | [],_=>False
 | v::r,i=>gm v i\/bz r i
end
end
mutual
theorem aT.mono{yv:Option Nat}{L L':Loc}{F F':Nat->Nat}{w w':World}(h:Tr F w F' w'):∀ (v:V) (x:Value),(∀ i,gm v i->L'.ρ i=L.ρ i/\L'.κ i=L.κ i)->aT yv L F w v x->aT yv L' F' w' v x
 | .d v,_,_,hr=>bD.mono h v _ hr
 | .agg cs,_,hn,hr=>by
  obtain⟨l,rfl,hl⟩:=hr;exact⟨l,rfl,aj.mono h cs _ hn hl⟩
 | .tup cs,_,hn,hr=>by
  obtain⟨l,rfl,hl⟩:=hr;exact⟨l,rfl,aj.mono h cs _ hn hl⟩
 | .ptr id off,x,hn,hr=>by
  have hr:x = .pointer (some ⟨L.ρ id,off,none⟩):=hr;show x = .pointer (some ⟨L'.ρ id,off,none⟩);rw[(hn id rfl).1];exact hr
 | .ep id sz i off,x,hn,hr=>by
  have hr:x = .pointer (some ⟨L.ρ id,i*sz+off,none⟩):=hr;show x = .pointer (some ⟨L'.ρ id,i*sz+off,none⟩);rw[(hn id rfl).1];exact hr
 | .sl id sz off len,_,hn,hr=>by
  obtain⟨a,cap,rfl,hl,hs,hc⟩:=hr;refine⟨a,cap,rfl,hl,hs,?_⟩;rw[(hn id rfl).1,(hn id rfl).2];exact hc
 | .mp id,x,hn,hr=>by
  have hr:x = .map (some (L.ρ id)):=hr;show x = .map (some (L'.ρ id));rw[(hn id rfl).1];exact hr
 | .it id,x,hn,hr=>by
  have hr:x = .pointer (some ⟨L.ρ id,0,none⟩):=hr;show x = .pointer (some ⟨L'.ρ id,0,none⟩);rw[(hn id rfl).1];exact hr
 | .clo f cs,_,hn,hr=>by
  obtain⟨l,rfl,hl⟩:=hr;exact⟨l,rfl,aj.mono h cs _ hn hl⟩
 | .ifc f cs,_,hn,hr=>by
  obtain⟨l,rfl,hl⟩:=hr;exact⟨l,rfl,aj.mono h cs _ hn hl⟩
 | .yld,_,_,hr=>hr
 | .unk,_,_,hr=>hr
theorem aj.mono{yv:Option Nat}{L L':Loc}{F F':Nat->Nat}{w w':World}(h:Tr F w F' w'):∀ (vs:List V) (l:List Value),(∀ i,bz vs i->L'.ρ i=L.ρ i/\L'.κ i=L.κ i)->aj yv L F w vs l->aj yv L' F' w' vs l
 | [],_,_,hr=>hr
 | v::r,_,hn,hr=>by
  obtain⟨x,l',rfl,hv,hl⟩:=hr;exact⟨x,l',rfl,aT.mono h v x (fun i hi=>hn i (.inl hi)) hv,aj.mono h r l' (fun i hi=>hn i (.inr hi)) hl⟩
end
mutual
theorem aT.kill{yv:Option Nat}{L:Loc}{F:Nat->Nat}{w:World}(id:Nat):∀ (v:V) (x:Value),aT yv L F w v x->aT yv L F w (aE (aZ id) v) x
 | .d v,_,hr=>hr
 | .agg cs,_,hr=>by
  obtain⟨l,rfl,hl⟩:=hr;exact⟨l,rfl,aj.kill id cs _ hl⟩
 | .tup cs,_,hr=>by
  obtain⟨l,rfl,hl⟩:=hr;exact⟨l,rfl,aj.kill id cs _ hl⟩
 | .ptr i off,x,hr=>by
  have EV:x = .pointer (some ⟨L.ρ i,off,none⟩):=hr;simp only[aE,aZ,lE];cases Nat.beq i id
  ·exact hr
  ·subst EV;exact rfl
 | .ep i sz j off,x,hr=>by
  have EV:x = .pointer (some ⟨L.ρ i,j*sz+off,none⟩):=hr;simp only[aE,aZ,lE];cases Nat.beq i id
  ·exact hr
  ·subst EV;exact rfl
 | .sl i sz off len,x,hr=>by
  simp only[aE,aZ,lE];cases Nat.beq i id
  ·exact hr
  ·obtain⟨a,cap,rfl,_⟩:=hr;exact rfl
 | .mp i,x,hr=>by
  have EV:x = .map (some (L.ρ i)):=hr;simp only[aE,aZ,lE];cases Nat.beq i id
  ·exact hr
  ·subst EV;exact rfl
 | .it i,x,hr=>by
  have EV:x = .pointer (some ⟨L.ρ i,0,none⟩):=hr;simp only[aE,aZ,lE];cases Nat.beq i id
  ·exact hr
  ·subst EV;exact rfl
 | .clo f cs,_,hr=>by
  obtain⟨l,rfl,hl⟩:=hr;exact⟨l,rfl,aj.kill id cs _ hl⟩
 | .ifc f cs,_,hr=>by
  obtain⟨l,rfl,hl⟩:=hr;exact⟨l,rfl,aj.kill id cs _ hl⟩
 | .yld,_,hr=>hr
 | .unk,_,hr=>hr
theorem aj.kill{yv:Option Nat}{L:Loc}{F:Nat->Nat}{w:World}(id:Nat):∀ (vs:List V) (l:List Value),aj yv L F w vs l->aj yv L F w (cb (aZ id) vs) l
 | [],_,hr=>hr
 | v::r,_,hr=>by
  obtain⟨x,l',rfl,hv,hl⟩:=hr;exact⟨x,l',rfl,aT.kill id v x hv,aj.kill id r l' hl⟩
end
mutual
theorem iV(id:Nat):∀ (v:V),¬ gm (aE (aZ id) v) id
 | .d _=>fun h=>h
 | .agg cs=>ec id cs
 | .tup cs=>ec id cs
 | .clo _ cs=>ec id cs
 | .ifc _ cs=>ec id cs
 | .ptr i off=>by
  simp only[aE,aZ,lE];cases h:Nat.beq i id
  ·intro hn;have:i=id:=hn;subst this;simp at h
  ·exact fun h=>h
 | .ep i sz j off=>by
  simp only[aE,aZ,lE];cases h:Nat.beq i id
  ·intro hn;have:i=id:=hn;subst this;simp at h
  ·exact fun h=>h
 | .sl i sz off len=>by
  simp only[aE,aZ,lE];cases h:Nat.beq i id
  ·intro hn;have:i=id:=hn;subst this;simp at h
  ·exact fun h=>h
 | .mp i=>by
  simp only[aE,aZ,lE];cases h:Nat.beq i id
  ·intro hn;have:i=id:=hn;subst this;simp at h
  ·exact fun h=>h
 | .it i=>by
  simp only[aE,aZ,lE];cases h:Nat.beq i id
  ·intro hn;have:i=id:=hn;subst this;simp at h
  ·exact fun h=>h
 | .yld=>fun h=>h
 | .unk=>fun h=>h
theorem ec(id:Nat):∀ (vs:List V),¬ bz (cb (aZ id) vs) id
 | []=>fun h=>h
 | v::r=>fun h=>h.elim (iV id v) (ec id r)
end
def kA:Obj->Nat->Prop
 | .box c,i=>bz c.bo i
 | .arr _ es,i=>bz es.bo.flatten i
 | .mit v _ _ _,i=>gm v i
 | .tb _ l,i=>bz l i
 | .fz l,i=>bz l i
 | _,_=>False
theorem wR(f:V->V)(a b:List V):cb f (a++b)=cb f a++cb f b:=by
 induction a with
 | nil=>rfl
 | cons x r ih=>simp[cb,ih]
theorem fg(f:V->V)(a:List (List V)):(cS f a).flatten=cb f a.flatten:=by
 induction a with
 | nil=>rfl
 | cons x r ih=>simp[cS,wR,ih]
theorem jd(f:V->V)(a:List V):(cb f a).length=a.length:=by
 induction a with
 | nil=>rfl
 | cons x r ih=>simp[cb,ih]
theorem fR(f:V->V)(a:List (List V)):(cS f a).length=a.length:=by
 induction a with
 | nil=>rfl
 | cons x r ih=>simp[cS,ih]
theorem tn(f:V->V)(a:List (List V))(e:List V)(h:e∈cS f a):∃ e0∈a,e=cb f e0:=by
 induction a with
 | nil=>cases h
 | cons x r ih=>
  simp only[cS,List.mem_cons]at h;rcases h with rfl|h
  ·exact⟨x,by simp,rfl⟩
  ·obtain⟨e0,h0,rfl⟩:=ih h;exact⟨e0,by simp[h0],rfl⟩
theorem CB(f:V->V)(l:List D):cb f (inj l)=inj l:=by
 induction l with
 | nil=>rfl
 | cons x r ih=>simp[inj,cb,aE,ih]
theorem ee(l:List D)(i:Nat):¬ bz (inj l) i:=by
 induction l with
 | nil=>exact fun h=>h
 | cons x r ih=>exact fun h=>h.elim (fun h=>h) ih
theorem oe(a b:List V)(i:Nat):bz (a++b) i↔bz a i\/bz b i:=by
 induction a with
 | nil=>simp[bz]
 | cons x r ih=>simp[bz,ih,or_assoc]
theorem bF.kill{yv:Option Nat}{L:Loc}{F:Nat->Nat}{w:World}(k id:Nat)(o:Obj)(h:bF yv L F w id o):bF yv L F w id (Obj.aE (aZ k) o):=by
 cases o with
 | box c=>
  cases c with
  | dd l=>exact h
  | vv l=>
   obtain⟨c,T,hc,hr⟩:=h;exact⟨c,T,hc,aj.kill k _ _ hr⟩
 | arr sz es=>
  cases es with
  | dd l=>exact h
  | vv l=>
   obtain⟨hs,hl,h⟩:=h;refine⟨hs,?_,?_⟩
   ·intro e he
    obtain⟨e0,h0,rfl⟩:=tn _ _ _ he;rw[jd];exact hl e0 h0
   ·rcases h with⟨h,hk⟩|⟨c,T,hc,hk,hn,hr⟩
    ·left
     have h:l = []:=h;subst h;exact⟨rfl,hk⟩
    ·right
     refine⟨c,T,hc,hk,?_,?_⟩
     ·show(cS _ l).length*sz<=_
      rw[fR];exact hn
     ·show aj yv L F w (cS _ l).flatten (c.toList.take ((cS _ l).length*sz))
      rw[fR,fg];exact aj.kill k _ _ hr
 | map b0=>exact h
 | iter s n=>exact h
 | buf t s=>exact h
 | tb t l=>
  obtain⟨c,hc,hr⟩:=h;exact⟨c,hc,aj.kill k _ _ hr⟩
 | fz l=>
  obtain⟨c,hc,hr⟩:=h;exact⟨c,hc,aj.kill k _ _ hr⟩
 | mit v n l u=>
  obtain⟨r,seen,h1,h2⟩:=h;exact⟨r,seen,aT.kill k v _ h1,h2⟩
theorem lb(k:Nat)(o:Obj):¬ kA (Obj.aE (aZ k) o) k:=by
 cases o with
 | box c=>
  cases c with
  | dd l=>exact ee l k
  | vv l=>exact ec k l
 | arr sz es=>
  cases es with
  | dd l=>
   show ¬ bz (cU l).flatten k
   induction l with
   | nil=>exact fun h=>h
   | cons x r ih=>
    simp only[cU,List.flatten_cons,oe];exact fun h=>h.elim (ee x k) ih
  | vv l=>
   show ¬ bz (cS _ l).flatten k;rw[fg];exact ec k _
 | map b0=>exact fun h=>h
 | iter s n=>exact fun h=>h
 | buf t s=>exact fun h=>h
 | tb t l=>exact ec k l
 | fz l=>exact ec k l
 | mit v n l u=>exact iV k v
theorem cM(L:Loc)(k id:Nat)(o:Obj):aJ L id (Obj.aE (aZ k) o)↔aJ L id o:=by
 cases o with
 | box c=>cases c<;>exact Iff.rfl
 | arr sz es=>cases es<;>exact Iff.rfl
 | map b0=>exact Iff.rfl
 | iter s n=>exact Iff.rfl
 | buf t s=>exact Iff.rfl
 | tb t l=>exact Iff.rfl
 | fz l=>exact Iff.rfl
 | mit v n l u=>exact Iff.rfl
theorem bF.mono{yv:Option Nat}{L L':Loc}{F F':Nat->Nat}{w w':World}(h:Tr F w F' w')(id:Nat)(o:Obj)(hn:∀ i,kA o i->L'.ρ i=L.ρ i/\L'.κ i=L.κ i)
  (hL:L'.ρ id=L.ρ id/\L'.κ id=L.κ id) (hb:aJ L id o->w'.heap[L.ρ id]?=w.heap[L.ρ id]?) (hr:bF yv L F w id o):bF yv L' F' w' id o:=by
 cases o with
 | box c=>
  obtain⟨c',T,hc,hr⟩:=hr;exact⟨c',T,by rw[hL.1,hb trivial];exact hc,aj.mono h _ _ hn hr⟩
 | arr sz es=>
  obtain⟨hs,hl,hr⟩:=hr;refine⟨hs,hl,?_⟩;rcases hr with⟨he,hk⟩|⟨c,T,hc,hk,so,hr⟩
  ·exact .inl ⟨he,by rw[hL.2];exact hk⟩
  ·by_cases hz:L.κ id=0
   ·left
    refine⟨?_,by rw[hL.2];exact hz⟩;rw[hk,hz]at so;have:es.bo.length=0:=by
     rcases Nat.eq_zero_or_pos es.bo.length with h0|h0
     ·exact h0
     ·have:=Nat.mul_pos h0 hs;omega
    exact List.length_eq_zero_iff.1 this
   ·right
    exact⟨c,T,by rw[hL.1,hb hz];exact hc,by rw[hL.2];exact hk,so,aj.mono h _ _ hn hr⟩
 | map b0=>
  obtain⟨en,c,hc,hr⟩:=hr;exact⟨en,c,by rw[hL.1,hb trivial];exact hc,bE.mono h _ _ hr.1,hr.2⟩
 | iter s n=>
  show w'.heap[L'.ρ id]?=_;rw[hL.1,hb trivial];exact hr
 | buf t s=>
  obtain⟨c,h1,h2,h3⟩:=hr;exact⟨c,by rw[hL.1,hb trivial];exact h1,by rw[hL.2];exact h2,h3⟩
 | tb t l=>
  obtain⟨c,hc,hr⟩:=hr;exact⟨c,by rw[hL.1,hb trivial];exact hc,aj.mono h _ _ hn hr⟩
 | fz l=>
  obtain⟨c,hc,hr⟩:=hr;exact⟨c,by rw[hL.1];exact hc.mono h,aj.mono h _ _ hn hr⟩
 | mit v n l u=>
  obtain⟨r,seen,h1,h2,h3⟩:=hr;exact⟨r,seen,aT.mono h v _ hn h1,by rw[hL.1,hb trivial];exact h2,h3⟩
theorem bH{w:World}{b:Nat}{o:Go.Obj}(h:w.heap[b]?=some o):b<w.heap.size:=(Array.getElem?_eq_some_iff.1 h).1
theorem j5{w w':World}{b o:Nat}(h:w'.heap[b]?=w.heap[b]?):w'.cell? ⟨b,o,none⟩=w.cell? ⟨b,o,none⟩:=by
 simp[World.cell?,h]
theorem bF.lt{yv:Option Nat}{L:Loc}{F:Nat->Nat}{w:World}{id:Nat}{o:Obj}(h:bF yv L F w id o)(hb:aJ L id o):L.ρ id<w.heap.size:=by
 cases o with
 | box c=>obtain⟨c',T,hc,_⟩:=h;exact bH hc
 | arr sz es=>
  obtain⟨_,_,h⟩:=h;rcases h with⟨_,hk⟩|⟨c,T,hc,_⟩
  ·exact absurd hk hb
  ·exact bH hc
 | map b0=>obtain⟨en,c,hc,_⟩:=h;exact bH hc
 | iter s n=>exact bH (show w.heap[L.ρ id]?=_ from h)
 | buf t s=>obtain⟨c,h1,_⟩:=h;exact bH h1
 | tb t l=>obtain⟨c,h1,_⟩:=h;exact bH h1
 | fz l=>exact hb.elim
 | mit v n l u=>obtain⟨r,seen,_,h2,_⟩:=h;exact bH h2
theorem Tr.gz{F F':Nat->Nat}{w w':World}(ho:w'.os=w.os)(ht:w'.tape=w.tape)(hu:w'.output=w.output)(hs:w.heap.size<=w'.heap.size)(hle:∀ b,F b<=F' b)
    (u9:∀ b,w.heap.size<=b->F b=0) (hk:∀ b,b<w.heap.size->0<F b->w'.heap[b]?=w.heap[b]?):Tr F w F' w':=
  ⟨ho,ht,hu,hs,hle,
   fun b o h=>by
    rcases Nat.lt_or_ge b w.heap.size with hb|hb
    · exact j5 (hk b hb (by omega))
    · rw[u9 b hb]at h;omega,
   fun b e c h hm=>by rw[hk b (bH hm) h];exact hm⟩
theorem Tr.alloc{F:Nat->Nat}{w:World}(u9:∀ b,w.heap.size<=b->F b=0)(o:Go.Obj):Tr F w F (w.alloc o):=
 .gz rfl rfl rfl (by simp) (fun _=>Nat.le_refl _) u9 fun b hb _=>heap_alloc_old _ _ _ hb
theorem Tr.drew{F:Nat->Nat}{w:World}(n:Nat):Tr F w F { w with drawn:=n }:=
 ⟨rfl,rfl,rfl,Nat.le_refl _,fun _=>Nat.le_refl _,fun _ _ _=>rfl,fun _ _ _ _ h=>h⟩
section
variable {σ : Type} {cx : Cx σ} {r : Option Nat} {m : List Nat} {L : Loc} {F : Nat -> Nat} {st : St σ} {a : Act} {w : World}
theorem bp.same{h:aq}{s:σ}(hh:bp cx L F h s w){w':World}(he:w'.heap=w.heap)(ho:w'.os=w.os)(ht:w'.tape=w.tape)(hu:w'.output=w.output):bp cx L F h s w':=by
 have tr:Tr F w F w':=⟨ho,ht,hu,by rw[he];exact Nat.le_refl _,fun _=>Nat.le_refl _,fun b o _=>j5 (by rw[he]),fun b e c _ hm=>by rw[he];exact hm⟩;refine⟨cx.eJ hh.hg (.gz ho ht hu (by rw[he];exact Nat.le_refl _) (fun _=>Nat.le_refl _) hh.fresh fun b _ _=>by rw[he]) (fun b hb=>hh.fresh b (by rw[<- he];exact hb)) fun b _=>⟨by rw[he],rfl⟩,fun b hb=>by rw[he];exact hh.j6 b hb,fun b hb=>hh.fresh b (by rw[<- he];exact hb),?_,hh.own,hh.inj⟩;intro id o hg;exact bF.mono tr id o (fun _ _=>⟨rfl,rfl⟩) ⟨rfl,rfl⟩ (fun _=>by rw[he]) (hh.obj id o hg)
theorem Good.same(hh:Good cx r m L F st a w){w':World}(he:w'.heap=w.heap)(ho:w'.os=w.os)(ht:w'.tape=w.tape)(hu:w'.output=w.output):Good cx r m L F st a w':=by
 have tr:Tr F w F w':=⟨ho,ht,hu,by rw[he];exact Nat.le_refl _,fun _=>Nat.le_refl _,fun b o _=>j5 (by rw[he]),fun b e c _ hm=>by rw[he];exact hm⟩;refine⟨hh.heap.same he ho ht hu,?_,hh.wA,fun b hb=>by rw[he];exact hh.pR b hb,hh.wS,fun l hl=>by rw[he];exact hh.lk l hl,hh.mT,hh.wm⟩;intro s v hs;obtain⟨x,hx,hr⟩:=hh.env s v hs;exact⟨x,hx,aT.mono tr v x (fun _ _=>⟨rfl,rfl⟩) hr⟩
theorem Good.dN(hh:Good cx r m L F st a w){d:Nat}(hd:d<a.tmps.size):¬ pinned d:=fun h=>by
 have:=hh.wm;unfold pinned at h;omega
theorem Good.set(hh:Good cx r m L F st a w){d:Nat}{v:V}{x:Value}(hd:d<a.tmps.size)(hv:aT cx.yv L F w v x) :
  Good cx r m L F ⟨put st.env d v,st.heap,st.s⟩ (a.put (some d) x) w:=by
 refine⟨hh.heap,?_,hh.wA,hh.pR,hh.wS,hh.lk,hh.mT,by simpa[Act.put]using hh.wm⟩;intro s u hs;simp only[db]at hs;simp only[Act.put];split at hs
 ·rename_i e
  cases hs;subst e
  exact⟨x,by simp[Array.getElem?_setIfInBounds,hd],hv⟩
 ·rename_i e
  obtain⟨y,hy,hr⟩:=hh.env s u hs;exact⟨y,by rw[Array.getElem?_setIfInBounds_ne (Ne.symm e)];exact hy,hr⟩
theorem Good.aO(hh:Good cx r m L F st a w){d:Option Nat}{v:V}{x:Value}(hd:∀ k,d=some k->k<a.tmps.size)(hv:aT cx.yv L F w v x) :
  Good cx r m L F (aF st (aO d v)) (a.put d x) w:=by
 cases d with
 | none=>exact hh
 | some d=>exact hh.set (hd d rfl) hv
theorem Good.sub(hh:Good cx r m L F st a w){e:Env}{h:aq}(he:cN e st.env)(hs:cN h st.heap):Good cx r m L F ⟨e,h,st.s⟩ a w:=
 ⟨⟨hh.heap.hg,hh.heap.j6,hh.heap.fresh,fun id o hg=>hh.heap.obj id o (hs id o hg),fun id o hg=>hh.heap.own id o (hs id o hg),
  fun i j o p hi hj=>hh.heap.inj i j o p (hs i o hi) (hs j p hj)⟩,fun s v hg=>hh.env s v (he s v hg),hh.wA,hh.pR,hh.wS,hh.lk,hh.mT,hh.wm⟩
theorem Good.new(hh:Good cx r m L F st a w)(id n:Nat)(o:Obj)(b:Go.Obj)(dR:¬ pinned id)
  (ho:bF cx.yv ⟨fun i=>if i=id then w.heap.size else L.ρ i,fun i=>if i=id then n else L.κ i⟩ F (w.alloc b) id o) :
  Good cx r m ⟨fun i=>if i=id then w.heap.size else L.ρ i,fun i=>if i=id then n else L.κ i⟩ F (bm st (.new id o)) a (w.alloc b):=by
 have tr:Tr F w F (w.alloc b):=Tr.alloc hh.heap.fresh b;have hC:∀ c,cx.C st.s c->(w.alloc b).heap[c]?=w.heap[c]?:=fun c hc=>heap_alloc_old _ _ _ (hh.heap.j6 c hc);have hg:∀ i o',get (bm st (.new id o)).heap i=some o'->(i=id/\o'=o)\/(i≠id /\ ∃ o0,get st.heap i=some o0/\o'=Obj.aE (aZ id) o0):=by
  intro i o' hi;simp only[bm,dQ,db,bs,dP]at hi;split at hi
  ·rename_i e;left;exact⟨e,by cases hi;rfl⟩
  ·rename_i e
   right;refine⟨e,?_⟩
   cases h0:get st.heap i with
   | none=>simp[h0]at hi
   | some o0=>simp[h0]at hi;exact⟨o0,rfl,hi.symm⟩
 refine⟨⟨cx.eJ hh.heap.hg tr (fun c hc=>hh.heap.fresh c (by simp at hc;omega)) fun c hc=>⟨hC c hc,rfl⟩,fun c hc=>?_,fun c hc=>hh.heap.fresh c (by simp at hc;omega),?_,?_,?_⟩,?_,hh.wA,?_,hh.wS,?_,fun i hi=>?_,hh.wm⟩
 ·have:=hh.heap.j6 c hc;simp;omega
 ·intro i o' hi
  rcases hg i o' hi with⟨rfl,rfl⟩|⟨ef,o0,h0,rfl⟩
  ·exact ho
  ·refine bF.mono tr i _ (fun j hj=>?_) ⟨by simp[ef],by simp[ef]⟩ (fun hb=>heap_alloc_old _ _ _ ?_) (bF.kill id i o0 (hh.heap.obj i o0 h0))
   ·have:j≠id:=by rintro rfl;exact lb j o0 hj
    simp[this]
   ·exact(hh.heap.obj i o0 h0).lt ((cM L id i o0).1 hb)
 ·intro i o' hi hb
  rcases hg i o' hi with⟨rfl,rfl⟩|⟨ef,o0,h0,rfl⟩
  ·simp only[if_true]
   refine⟨hh.heap.fresh _ (Nat.le_refl _),fun hc=>?_⟩;have:=hh.heap.j6 _ hc;omega
  ·simp only[ef,if_false]
   have kR:aJ L i o0:=by
    have:=(cM _ id i o0).1 hb;cases o0<;>simp_all[aJ]
   exact hh.heap.own i o0 h0 kR
 ·intro i j o' p hi hj md jv e
  have key:∀ i o',get (bm st (.new id o)).heap i=some o'->i≠id->aJ ⟨fun i=>if i=id then w.heap.size else L.ρ i,fun i=>if i=id then n else L.κ i⟩ i o' -> ∃ o0,get st.heap i=some o0/\aJ L i o0:=by
   intro i o' hi ef hb;rcases hg i o' hi with⟨rfl,rfl⟩|⟨_,o0,h0,rfl⟩
   ·exact absurd rfl ef
   ·refine⟨o0,h0,?_⟩
    have:=(cM _ id i o0).1 hb;cases o0<;>simp_all[aJ]
  by_cases g8:i=id<;>by_cases xI:j=id
  ·rw[g8,xI]
  ·exfalso
   obtain⟨p0,wN,zc⟩:=key j p hj xI jv;have:=(hh.heap.obj j p0 wN).lt zc;simp[g8,xI]at e;omega
  ·exfalso
   obtain⟨p0,wN,zc⟩:=key i o' hi g8 md;have:=(hh.heap.obj i p0 wN).lt zc;simp[g8,xI]at e;omega
  ·obtain⟨o0,Wi,qk⟩:=key i o' hi g8 md
   obtain⟨p0,wN,zc⟩:=key j p hj xI jv;simp only[g8,xI,if_false]at e;exact hh.heap.inj i j o0 p0 Wi wN qk zc e
 ·intro s v hs
  simp only[bm,bs]at hs
  cases h0:get st.env s with
  | none=>simp[h0]at hs
  | some v0=>
   simp[h0]at hs;subst hs;obtain⟨x,hx,hr⟩:=hh.env s v0 h0;refine⟨x,hx,aT.mono tr _ x (fun j hj=>?_) (aT.kill id v0 x hr)⟩;have:j≠id:=by rintro rfl;exact iV j v0 hj
   simp[this]
 ·intro b' kR
  exact⟨by rw[heap_alloc_old _ _ _ (bH (hh.pR b' kR).1)];exact(hh.pR b' kR).1,(hh.pR b' kR).2⟩
 ·intro l hl
  obtain⟨lp,wL⟩:=hh.lk l hl;exact⟨lp,⟨by rw[heap_alloc_old _ _ _ (bH wL.1.1)];exact wL.1.1,wL.1.2⟩,wL.2⟩
 ·have:i≠id:=by rintro rfl;exact dR hi
  simp only[this,if_false];exact hh.mT i hi
theorem Good.kB(hh:Good cx r m L F st a w)(id sz:Nat)(dR:¬ pinned id)(hs:0<sz)(es:a7)(he:es.bo = []) :
  Good cx r m ⟨L.ρ,fun i=>if i=id then 0 else L.κ i⟩ F (bm st (.new id (.arr sz es))) a w:=by
 have tr:Tr F w F w:=Tr.refl F w;have hg:∀ i o',get (bm st (.new id (.arr sz es))).heap i=some o'->(i=id/\o' = .arr sz es)\/(i≠id /\ ∃ o0,get st.heap i=some o0/\o'=Obj.aE (aZ id) o0):=by
  intro i o' hi;simp only[bm,dQ,db,bs,dP]at hi;split at hi
  ·rename_i e;left;exact⟨e,by cases hi;rfl⟩
  ·rename_i e
   right;refine⟨e,?_⟩
   cases h0:get st.heap i with
   | none=>simp[h0]at hi
   | some o0=>simp[h0]at hi;exact⟨o0,rfl,hi.symm⟩
 have key:∀ i o',get (bm st (.new id (.arr sz es))).heap i=some o'->aJ ⟨L.ρ,fun i=>if i=id then 0 else L.κ i⟩ i o'->i≠id /\ ∃ o0,get st.heap i=some o0/\aJ L i o0:=by
  intro i o' hi hb;rcases hg i o' hi with⟨rfl,rfl⟩|⟨ef,o0,h0,rfl⟩
  ·simp[aJ]at hb
  ·refine⟨ef,o0,h0,?_⟩
   have:=(cM _ id i o0).1 hb;cases o0<;>simp_all[aJ]
 refine⟨⟨hh.heap.hg,hh.heap.j6,hh.heap.fresh,?_,?_,?_⟩,?_,hh.wA,hh.pR,hh.wS,hh.lk,fun i hi=>⟨(hh.mT i hi).1,by
  have:i≠id:=by rintro rfl;exact dR hi
  simp only[this,if_false];exact(hh.mT i hi).2⟩,hh.wm⟩
 ·intro i o' hi
  rcases hg i o' hi with⟨rfl,rfl⟩|⟨ef,o0,h0,rfl⟩
  ·exact⟨hs,(by intro e h;rw[he]at h;cases h),.inl ⟨he,(by simp)⟩⟩
  ·refine bF.mono (L:=L) tr i _ (fun j hj=>?_) ⟨rfl,by simp[ef]⟩ (fun _=>rfl) (bF.kill id i o0 (hh.heap.obj i o0 h0))
   have:j≠id:=by rintro rfl;exact lb j o0 hj
   simp[this]
 ·intro i o' hi hb
  obtain⟨_,o0,h0,qk⟩:=key i o' hi hb;exact hh.heap.own i o0 h0 qk
 ·intro i j o' p hi hj md jv e
  obtain⟨_,o0,Wi,qk⟩:=key i o' hi md;obtain⟨_,p0,wN,zc⟩:=key j p hj jv;exact hh.heap.inj i j o0 p0 Wi wN qk zc e
 ·intro s v hs
  simp only[bm,bs]at hs
  cases h0:get st.env s with
  | none=>simp[h0]at hs
  | some v0=>
   simp[h0]at hs;subst hs;obtain⟨x,hx,hr⟩:=hh.env s v0 h0;refine⟨x,hx,aT.mono tr _ x (fun j hj=>?_) (aT.kill id v0 x hr)⟩;have:j≠id:=by rintro rfl;exact iV j v0 hj
   simp[this]
theorem Good.del(hh:Good cx r m L F st a w)(id:Nat):Good cx r m L F (bm st (.del id)) a w:=
 hh.sub (fun _ _ h=>h) fun i o h=>by
  simp only[bm,dP]at h;split at h
  ·cases h
  ·exact h
theorem Good.obj(hh:Good cx r m L F st a w){id:Nat}{o0 o:Obj}(h0:get st.heap id=some o0)(qk:aJ L id o0){w':World}
  (NH:w'.os=w.os) (ht:w'.tape=w.tape) (hu:w'.output=w.output) (cY:w'.heap.size=w.heap.size) (hk:∀ b,b≠L.ρ id->w'.heap[b]?=w.heap[b]?)
  (wD:∀ ds,w.heap[L.ρ id]?≠some (.deferred ds)) (nh:∀ lp,w.heap[L.ρ id]?≠some (.loop lp))
  (ho:bF cx.yv L F w' id o):Good cx r m L F (bm st (.obj id o)) a w'/\Tr F w F w':=by
 obtain⟨hF,FR⟩:=hh.heap.own id o0 h0 qk;have tr:Tr F w F w':=.gz NH ht hu (by omega) (fun _=>Nat.le_refl _) hh.heap.fresh fun b _ Vt=>hk b (by rintro rfl;omega);have hC:∀ c,cx.C st.s c->w'.heap[c]?=w.heap[c]?:=fun c hc=>hk c (by rintro rfl;exact FR hc);have hg:∀ i o',get (bm st (.obj id o)).heap i=some o'->(i=id/\o'=o)\/(i≠id/\get st.heap i=some o'):=by
  intro i o' hi;simp only[bm,db]at hi;split at hi
  ·rename_i e;left;exact⟨e,by cases hi;rfl⟩
  ·rename_i e;exact .inr ⟨e,hi⟩
 have j8:∀ i o',get (bm st (.obj id o)).heap i=some o'->aJ L i o' -> ∃ o1,get st.heap i=some o1/\aJ L i o1:=by
  intro i o' hi hb;rcases hg i o' hi with⟨rfl,rfl⟩|⟨_,h⟩
  ·exact⟨o0,h0,qk⟩
  ·exact⟨o',h,hb⟩
 refine⟨⟨⟨cx.eJ hh.heap.hg tr (fun c hc=>hh.heap.fresh c (by omega)) fun c hc=>⟨hC c hc,rfl⟩,fun c hc=>by rw[cY];exact hh.heap.j6 c hc,fun c hc=>hh.heap.fresh c (by omega),?_,?_,?_⟩,?_,hh.wA,?_,hh.wS,?_,hh.mT,hh.wm⟩,tr⟩
 ·intro i o' hi
  rcases hg i o' hi with⟨rfl,rfl⟩|⟨ef,h⟩
  ·exact ho
  ·refine bF.mono tr i o' (fun _ _=>⟨rfl,rfl⟩) ⟨rfl,rfl⟩ (fun hb=>hk _ fun e=>ef (hh.heap.inj i id o' o0 h h0 hb qk e)) (hh.heap.obj i o' h)
 ·intro i o' hi hb
  obtain⟨o1,h1,nY⟩:=j8 i o' hi hb;exact hh.heap.own i o1 h1 nY
 ·intro i j o' p hi hj md jv e
  obtain⟨o1,h1,nY⟩:=j8 i o' hi md;obtain⟨o2,h2,wJ⟩:=j8 j p hj jv;exact hh.heap.inj i j o1 o2 h1 h2 nY wJ e
 ·intro s v hs
  obtain⟨x,hx,hr⟩:=hh.env s v hs;exact⟨x,hx,aT.mono tr v x (fun _ _=>⟨rfl,rfl⟩) hr⟩
 ·intro b hb
  have:=(hh.pR b hb).1;exact⟨by rw[hk b (by rintro rfl;exact wD _ this)];exact this,(hh.pR b hb).2⟩
 ·intro l hl
  obtain⟨lp,wL⟩:=hh.lk l hl;exact⟨lp,⟨by rw[hk l (by rintro rfl;exact nh _ wL.1.1)];exact wL.1.1,wL.1.2⟩,wL.2⟩
end
end Go.PX
namespace Go.PX
open Go.RowKit
theorem lr{F:Nat->Nat}{w:World}{v:Value}{a:D}(h:kD v=some a):bD F w a v:=by
 unfold kD at h;split at h<;>cases h<;>rfl
theorem jx{F:Nat->Nat}{w:World}:∀ {l:List Value} {as:List D},gU l=some as->aS F w as l
 | [],as,h=>by simp[gU]at h;subst h;rfl
 | v::r,as,h=>by
  simp only[gU]at h;split at h
  ·rename_i a l' ha kQ
   cases h;exact⟨v,r,rfl,lr ha,jx kQ⟩
  ·cases h
theorem mi{F:Nat->Nat}{w:World}{v:Value}{a:D}(h:ofConst v=some a):bD F w a v:=by
 unfold ofConst at h;split at h
 ·rename_i cs
  cases hs:gU cs.toList with
  | none=>rw[hs]at h;cases h
  | some l=>rw[hs]at h;cases h;exact⟨cs,rfl,jx hs⟩
 ·rename_i cs
  split at h
  ·rename_i h0
   cases h;exact⟨cs,rfl,h0⟩
  ·cases h
 ·exact lr h
def iT(d:TypeDesc):Kd:=
 match d with
 | .bool=>.bool
 | .int k=>.int k
 | .string=>.str
 | .slice e=>.slice e
 | .struct fs => if fs.any (fun f => f.name == "_") then .other else .struct (fs.toList.map fun f => (f.offset, f.type))
 | .array n e=>.array n e
 | .map k e=>.map k e
 | .interface _=>.iface
 | _=>.other
def qM(d:TypeDesc):Bool:=
 match d with
 | .struct _=>true
 | .array _ _=>true
 | _=>false
def zeroCells(v:Value):Option (List D):=
 match ofConst v with
 | some (.agg l)=>some l
 | some (.tup _)=>none
 | some v=>some [v]
 | none=>none
def En(v:Value):Bool:=
 match ofConst v with
 | some (.agg _)=>true
 | _=>false
def bl(P:Program)(T:dV):Prop:=
 ∀ t ti,T.get t=some ti -> ∃ i d,P.info? t=some i/\P.underlying t=some d/\ti.size=i.size/\ti.bytes=i.bytes/\ti.kd=iT d/\ti.isAgg=qM d /\
  (ti.held=false->P.stoodInHeld t=false /\ ∀ k,ti.kd = .int k->i.comparable=true)/\(∀ z,ti.zero=some z -> ∃ zv,i.zero=some zv/\zeroCells zv=some z/\En zv=ti.isAgg)
theorem vp{d:TypeDesc}(h:iT d = .iface):∃ ms,d = .interface ms:=by
 unfold iT at h;split at h<;>first|exact⟨_,rfl⟩|(split at h<;>cases h)|cases h
theorem eo{d:TypeDesc}{e:TypeId}(h:iT d = .slice e):d = .slice e:=by
 unfold iT at h;split at h<;>first|(cases h;rfl)|(split at h<;>cases h)|cases h
theorem im{d:TypeDesc}(h:iT d = .str):d = .string:=by
 unfold iT at h;split at h<;>first|rfl|(split at h<;>cases h)|cases h
theorem lX{d:TypeDesc}{k:IntKind}(h:iT d = .int k):d = .int k:=by
 unfold iT at h;split at h<;>first|(cases h;rfl)|(split at h<;>cases h)|cases h
theorem oV{d:TypeDesc}(h:iT d = .bool):d = .bool:=by
 unfold iT at h;split at h<;>first|rfl|(split at h<;>cases h)|cases h
theorem ek{d:TypeDesc}{n:Nat}{e:TypeId}(h:iT d = .array n e):d = .array n e:=by
 unfold iT at h;split at h<;>first|(cases h;rfl)|(split at h<;>cases h)|cases h
theorem rm{d:TypeDesc}{k e:TypeId}(h:iT d = .map k e):d = .map k e:=by
 unfold iT at h;split at h<;>first|(cases h;rfl)|(split at h<;>cases h)|cases h
theorem gR{d:TypeDesc}{fs:List (Nat×TypeId)}(h:iT d = .struct fs) :
  ∃ fa : Array Field, d = .struct fa /\ fs = fa.toList.map (fun f => (f.offset, f.type)) /\ ∀ f ∈ fa.toList, (f.name == "_") = false := by
 unfold iT at h;split at h<;>first|cases h|skip
 rename_i fa;split at h
 ·cases h
 ·rename_i hn
  cases h;refine⟨fa,rfl,rfl,fun f hf=>?_⟩
  have so : fa.any (fun f => f.name == "_") = false := by simpa using hn
  rw[Array.any_eq_false']at so;simpa using so f (by simpa using hf)
section
variable {P : Program} {T : dV} {w : World}
theorem kb(hT:bl P T){t:TypeId}{ti:pF}(h:T.get t=some ti):(isAgg t).run P w = .ok ti.isAgg w:=by
 obtain⟨i,d,hi,hd,cY,DL,dw,nB,Re,hz⟩:=hT t ti h;unfold isAgg;rw[nB];cases d<;>simp[run_underlying hd,qM]
theorem dA(hT:bl P T){t:TypeId}{ti:pF}(h:T.get t=some ti):(sizeOf t).run P w = .ok ti.size w:=by
 obtain⟨i,d,hi,hd,cY,DL,dw,nB,Re,hz⟩:=hT t ti h;simp[sizeOf,typeInfo,hi,cY]
end
theorem bA{b:Bool}{K:Prop}(h:eW b K):b=true/\K:=by
 cases b
 ·exact h.elim
 ·exact⟨rfl,h⟩
theorem uM{b:Bool}{X Y:Prop}(h:Kx b X Y):(b=true/\X)\/(b=false/\Y):=by
 cases b
 ·exact .inr ⟨rfl,h⟩
 ·exact .inl ⟨rfl,h⟩
theorem lO{n m:Nat}(h:Nat.ble n m=true):n<=m:=Nat.le_of_ble_eq_true h
theorem da{n m:Nat}(h:Nat.beq n m=true):n=m:=Nat.eq_of_beq_eq_true h
theorem vD{n m:Nat}(h:(!Nat.beq n m)=true):n≠m:=by
 intro e;subst e;simp at h
section
variable {σ : Type} {cx : Cx σ} {r : Option Nat} {m : List Nat} {L : Loc} {F : Nat -> Nat} {st : St σ} {a : Act} {w : World}
theorem ax{e e':Env}(hs:cN e e'){x:Operand}{v:V}(hx:aH e x=some v):aH e' x=some v:=by
 cases x with
 | tmp t=>exact hs t v hx
 | const c=>exact hx
 | func f=>exact hx
 | global g=>exact hx
theorem ka{e e':Env}(hs:cN e e'):∀ {l:List Operand} {vs:List V},cE e l=some vs->cE e' l=some vs
 | [],vs,h=>h
 | x::r,vs,h=>by
  simp only[cE]at h ⊢
  cases hx:aH e x with
  | none=>simp[hx]at h
  | some v=>
   cases hr:cE e r with
   | none=>simp[hx,hr]at h
   | some l=>simp[hx,hr]at h;simp[ax hs hx,ka hs hr,h]
theorem Good.aH(h:Good cx r m L F st a w){x:Operand}{v:V}(hx:PX.aH st.env x=some v):aT cx.yv L F w v (a.eval x):=by
 cases x with
 | tmp t=>
  obtain⟨y,hy,hr⟩:=h.env t v hx;simpa[Act.eval,hy]using hr
 | const c=>
  simp only[PX.aH]at hx;split at hx
  ·rename_i v' hv;cases hx;exact mi hv
  ·cases hx
 | func f=>
  simp only[PX.aH,Option.some.injEq]at hx;subst hx;exact⟨#[],rfl,rfl⟩
 | global g=>simp[PX.aH]at hx
theorem Good.cE(h:Good cx r m L F st a w):∀ {l:List Operand} {vs:List V},PX.cE st.env l=some vs->aj cx.yv L F w vs (l.map a.eval)
 | [],vs,hx=>by simp[PX.cE]at hx;subst hx;rfl
 | x::r,vs,hx=>by
  simp only[PX.cE]at hx
  cases hv:PX.aH st.env x with
  | none=>simp[hv]at hx
  | some v=>
   cases hr:PX.cE st.env r with
   | none=>simp[hv,hr]at hx
   | some l=>simp[hv,hr]at hx;subst hx;exact⟨_,_,rfl,h.aH hv,h.cE hr⟩
end
theorem bj{P:Program}{e:Env}{h:aq}{o:Oper}{v:V}
  (hr:∀ {σ:Type} (cx:Cx σ) (r:Option Nat) (m:List Nat) (L:Loc) (F:Nat->Nat) (st:St σ) (a:Act) (w:World),cN e st.env->cN h st.heap->Good cx r m L F st a w ->
   ∃ x,(execOp a.eval o).run P w = .ok (.value x) w/\aT cx.yv L F w v x):Out P e h o (aO o.dst v):=by
 intro σ cx r m L F st a w he hh hg hd;obtain⟨x,hx,hv⟩:=hr cx r m L F st a w he hh hg;exact⟨x,w,_,hx,.inl rfl,L,F,hg.aO hd hv,Tr.refl F w⟩
section
variable {P : Program} {T : dV} {e : Env} {h : aq} {dst : Option Nat} {K : List Wr -> Prop} {ty : TypeId} {pos : String} {after : Array Edge} {guard : Option (Nat × Bool)}
theorem HP{x:Operand}(hk:fK T e h dst (.move x) K):∃ ws,K ws/\Out P e h ⟨dst,.move x,ty,pos,after,guard⟩ ws:=by
 simp only[fK]at hk;split at hk
 ·rename_i v hv
  exact⟨_,hk,bj (o:=⟨dst,.move x,ty,pos,after,guard⟩) fun cx r m L F st a w he hh hg=>⟨_,by simp[execOp],hg.aH (ax he hv)⟩⟩
 ·exact hk.elim
theorem CQ{x:Operand}(hk:fK T e h dst (.assign x) K):∃ ws,K ws/\Out P e h ⟨dst,.assign x,ty,pos,after,guard⟩ ws:=by
 simp only[fK]at hk;split at hk
 ·rename_i v hv
  exact⟨_,hk,bj (o:=⟨dst,.assign x,ty,pos,after,guard⟩) fun cx r m L F st a w he hh hg=>⟨_,by simp[execOp],hg.aH (ax he hv)⟩⟩
 ·exact hk.elim
theorem oQ{σ:Type}{cx:Cx σ}{r:Option Nat}{m:List Nat}{L:Loc}{F:Nat->Nat}{st:St σ}{a:Act}{w:World}(hg:Good cx r m L F st a w){x:Operand}{b:Bool}
  (he:cN e st.env) (hx:aH e x=some (.d (.bool b))):a.eval x = .bool b:=hg.aH (ax he hx)
theorem ic{σ:Type}{cx:Cx σ}{r:Option Nat}{m:List Nat}{L:Loc}{F:Nat->Nat}{st:St σ}{a:Act}{w:World}(hg:Good cx r m L F st a w){x:Operand}{k:IntKind}{n:Int}
  (he:cN e st.env) (hx:aH e x=some (.d (.int k n))):a.eval x = .int k n:=hg.aH (ax he hx)
theorem km{σ:Type}{cx:Cx σ}{r:Option Nat}{m:List Nat}{L:Loc}{F:Nat->Nat}{st:St σ}{a:Act}{w:World}(hg:Good cx r m L F st a w){x:Operand}{s:ByteArray}
  (he:cN e st.env) (hx:aH e x=some (.d (.str s))):a.eval x = .string s:=hg.aH (ax he hx)
theorem HR{c x y:Operand}(hk:fK T e h dst (.pick c x y) K):∃ ws,K ws/\Out P e h ⟨dst,.pick c x y,ty,pos,after,guard⟩ ws:=by
 simp only[fK]at hk;have key:∀ (t:Bool) (z:Operand) (v:V),aH e c=some (.d (.bool t))->z=(if t then x else y)->aH e z=some v->Out P e h ⟨dst,.pick c x y,ty,pos,after,guard⟩ (aO dst v):=by
  intro t z v hc hz hv;refine bj (o:=⟨dst,.pick c x y,ty,pos,after,guard⟩) fun cx r m L F st a w he hh hg=>⟨a.eval z,?_,hg.aH (ax he hv)⟩;have:=oQ hg he hc;cases t<;>simp[execOp,this,asBool,hz]
 split at hk
 ·rename_i t va vb hc hx hy
  rcases uM hk with⟨rfl,hk⟩|⟨rfl,hk⟩
  ·exact⟨_,hk,key true x va hc rfl hx⟩
  ·exact⟨_,hk,key false y vb hc rfl hy⟩
 ·rename_i t va hc hx hy
  obtain⟨rfl,hk⟩:=bA hk;exact⟨_,hk,key true x va hc rfl hx⟩
 ·rename_i t vb hc hx hy
  obtain⟨hb,hk⟩:=bA hk;have hb:t=false:=by simpa using hb
  subst hb;exact⟨_,hk,key false y vb hc rfl hy⟩
 ·exact hk.elim
theorem zC{x:Operand}(hk:fK T e h dst (.nilCheck x) K):∃ ws,K ws/\Out P e h ⟨dst,.nilCheck x,ty,pos,after,guard⟩ ws:=by
 simp only[fK]at hk;split at hk;case h_2=>exact hk.elim
 rename_i v hv;have key:(∀ (yv:Option Nat) (L:Loc) (F:Nat->Nat) (w:World) (y:Value),aT yv L F w v y->(∃ p,y = .pointer (some p))\/(∃ f l,y = .func (.func f) #[] l) \/ ∃ t u,y = .iface t u) ->
   Out P e h ⟨dst,.nilCheck x,ty,pos,after,guard⟩ (aO dst v):=by
  intro hy;refine bj (o:=⟨dst,.nilCheck x,ty,pos,after,guard⟩) fun cx r m L F st a w he hh hg=>⟨a.eval x,?_,hg.aH (ax he hv)⟩;rcases hy _ _ _ _ _ (hg.aH (ax he hv)) with⟨p,hp⟩|⟨f,l,hp⟩|⟨t,u,hp⟩<;>simp[execOp,hp]
 split at hk
 ·exact⟨_,hk,key fun yv L F w y hy=>by obtain⟨b,off,rfl,_⟩:=hy;exact .inl ⟨_,rfl⟩⟩
 ·exact⟨_,hk,key fun yv L F w y hy=>.inl ⟨_,hy⟩⟩
 ·exact⟨_,hk,key fun yv L F w y hy=>.inl ⟨_,hy⟩⟩
 ·exact⟨_,hk,key fun yv L F w y hy=>by obtain⟨l,rfl,_⟩:=hy;exact .inr (.inl ⟨_,_,rfl⟩)⟩
 ·exact⟨_,hk,key fun yv L F w y hy=>by obtain⟨l,rfl,_⟩:=hy;exact .inr (.inl ⟨_,_,rfl⟩)⟩
 ·exact⟨_,hk,key fun yv L F w y hy=>by obtain⟨l,rfl,_⟩:=hy;exact .inr (.inr ⟨_,_,rfl⟩)⟩
 ·exact⟨_,hk,key fun yv L F w y hy=>by obtain⟨l,rfl,_⟩:=hy;exact .inr (.inr ⟨_,_,rfl⟩)⟩
 ·exact hk.elim
theorem mn{k:IntKind}{n:Int}{K:V->Prop}(h:arith k n K):K (.d (.int k (k.wrap n))):=by cases h;assumption
theorem HS{op:UnOp}{t:TypeId}{x:Operand}(hk:fK T e h dst (.unOp op t x) K):∃ ws,K ws/\Out P e h ⟨dst,.unOp op t x,ty,pos,after,guard⟩ ws:=by
 simp only[fK]at hk;split at hk
 ·rename_i b hv
  exact⟨_,hk,bj (v:=.d (.bool !b)) (o:=⟨dst,.unOp .not t x,ty,pos,after,guard⟩) fun cx r m L F st a w he hh hg=>⟨.bool !b,by simp[execOp,oQ hg he hv,Op.unary],rfl⟩⟩
 ·rename_i k n hv
  exact⟨_,mn hk,bj (v:=.d (.int k (k.wrap (0-n)))) (o:=⟨dst,.unOp .neg t x,ty,pos,after,guard⟩) fun cx r m L F st a w he hh hg=>⟨.int k (k.wrap (0-n)),by simp[execOp,ic hg he hv,Op.unary,Op.intArith],rfl⟩⟩
 ·exact hk.elim
theorem Bn(hT:bl P T){s d:TypeId}{x:Operand}(hk:fK T e h dst (.convert s d x) K):∃ ws,K ws/\Out P e h ⟨dst,.convert s d x,ty,pos,after,guard⟩ ws:=by
 simp only[fK]at hk;split at hk;case h_2=>exact hk.elim
 rename_i si di v hs hd hv;obtain⟨i,dd,hi,ue,_,_,dC,_⟩:=hT s si hs;obtain⟨j,de,hj,fB,_,_,iQ,_⟩:=hT d di hd;split at hk
 ·rename_i k1 k k2 n e1 e2
  rw[e1]at dC;rw[e2]at iQ;have e1:=lX dC.symm;have e2:=lX iQ.symm;subst e1 e2;exact⟨_,mn hk,bj (v:=.d (.int k (k.wrap n))) (o:=⟨dst,.convert s d x,ty,pos,after,guard⟩) fun cx r m L F st a w he hh hg=>
   ⟨.int k (k.wrap n),by simp[execOp,ic hg he hv,convert,run_underlying ue,run_underlying fB,Conv.intToInt],rfl⟩⟩
 ·rename_i sv e1 e2
  rw[e1]at dC;rw[e2]at iQ;have e1:=im dC.symm;have e2:=im iQ.symm;subst e1 e2;exact⟨_,hk,bj (v:=.d (.str sv)) (o:=⟨dst,.convert s d x,ty,pos,after,guard⟩) fun cx r m L F st a w he hh hg=>
   ⟨.string sv,by simp[execOp,km hg he hv,convert,run_underlying ue,run_underlying fB],rfl⟩⟩
 ·exact hk.elim
theorem mr{α:Type}{cs:List α}{n:Nat}{K:α->Prop}(h:nN cs n K):∃ v,cs[n]?=some v/\K v:=by
 unfold nN at h;split at h
 ·rename_i v hv;exact⟨v,hv,h⟩
 ·exact h.elim
theorem aS.get{F:Nat->Nat}{w:World}{cs:List D}{l:List Value}(i:Nat){c:D}(h:aS F w cs l)(hi:cs[i]?=some c):∃ x,l[i]?=some x/\bD F w c x:=by
 have:=aj.get (yv:=none) (L:=⟨fun _=>0,fun _=>0⟩) (c:=.d c) i (aj.inj.2 h) (by rw[ug,hi];rfl);exact this
theorem Bo{x:Operand}{i:Nat}(hk:fK T e h dst (.extract x i) K):∃ ws,K ws/\Out P e h ⟨dst,.extract x i,ty,pos,after,guard⟩ ws:=by
 simp only[fK]at hk;split at hk
 ·rename_i l hv
  obtain⟨v,hi,hk⟩:=mr hk;refine⟨_,hk,bj (o:=⟨dst,.extract x i,ty,pos,after,guard⟩) fun cx r m L F st a w he hh hg=>?_⟩;obtain⟨vs,cF,hl⟩:=hg.aH (ax he hv);obtain⟨y,hy,AW⟩:=aS.get i hl hi;have mH:vs[i]?=some y:=by simpa using hy
  exact⟨y,by simp[execOp,cF,Instr.extract,mH],AW⟩
 ·rename_i l hv
  obtain⟨v,hi,hk⟩:=mr hk;refine⟨_,hk,bj (o:=⟨dst,.extract x i,ty,pos,after,guard⟩) fun cx r m L F st a w he hh hg=>?_⟩;obtain⟨vs,cF,hl⟩:=hg.aH (ax he hv);obtain⟨y,hy,AW⟩:=aj.get i hl hi;have mH:vs[i]?=some y:=by simpa using hy
  exact⟨y,by simp[execOp,cF,Instr.extract,mH],AW⟩
 ·exact hk.elim
end
theorem yP(b c:ByteArray):(b.toList ==c.toList)=decide (b=c):=by
 rw[<- beq_toListBytes,Bool.eq_iff_iff,decide_eq_true_eq];constructor
 ·intro h
  have h:(b.data ==c.data)=true:=h;cases b;cases c
  simp only[beq_iff_eq]at h;rw[h]
 ·rintro rfl
  show(b.data ==b.data)=true;simp
theorem DV(b c:Int):(b ==c)=decide (b=c):=rfl
theorem zL{P:Program}{w:World}(b c:ByteArray):(Op.stringOp .eql b c).run P w = .ok (.bool (decide (b=c))) w:=by
 simp[Op.stringOp,yP]
theorem zM{P:Program}{w:World}(b c:ByteArray):(Op.stringOp .neq b c).run P w = .ok (.bool (!decide (b=c))) w:=by
 simp[Op.stringOp,bne,yP]
theorem aS.take{F:Nat->Nat}{w:World}{cs:List D}{l:List Value}(n:Nat)(h:aS F w cs l):aS F w (cs.take n) (l.take n):=by
 have:=aj.take (yv:=none) (L:=⟨fun _=>0,fun _=>0⟩) n (aj.inj.2 h);rw[<- vn]at this;exact aj.inj.1 this
theorem aS.drop{F:Nat->Nat}{w:World}{cs:List D}{l:List Value}(n:Nat)(h:aS F w cs l):aS F w (cs.drop n) (l.drop n):=by
 have:=aj.drop (yv:=none) (L:=⟨fun _=>0,fun _=>0⟩) n (aj.inj.2 h);rw[<- vk]at this;exact aj.inj.1 this
section
variable {P : Program} {T : dV} {F : Nat -> Nat} {w : World}
def nH(T:dV)(F:Nat->Nat)(w:World)(t:TypeId)(xs:List D)(x:Value):Prop:=
 ∀ ti,T.get t=some ti->if ti.isAgg then ∃ l:Array Value,x = .agg l/\aS F w xs l.toList else ∀ c,xs = [c]->bD F w c x
theorem js(hT:bl P T){t:TypeId}{ti:pF}(ht:T.get t=some ti){cs:Array Value}{xs:List D}{off:Nat}(hx:aS F w xs cs.toList)(h:off+ti.size<=xs.length)(h1:0<ti.size) :
  ∃ x,(part t cs off).run P w = .ok x w/\nH T F w t ((xs.drop off).take ti.size) x:=by
 unfold part;have hs:=dA (w:=w) hT ht;have hl:cs.size=xs.length:=by simpa using hx.length
 cases hA:ti.isAgg
 ·have dI:off<cs.size:=by omega
  refine⟨cs[off],?_,fun WZ vg=>?_⟩
  ·simp[kb hT ht,hA,dI]
  ·rw[ht]at vg;cases vg
   simp only[hA,Bool.false_eq_true,if_false];intro c hc;have sj:xs[off]?=some c:=by
    have:((xs.drop off).take ti.size)[0]?=some c:=by rw[hc];rfl
    rw[List.getElem?_take_of_lt h1,List.getElem?_drop]at this;simpa using this
   obtain⟨y,hy,hr⟩:=aS.get off hx sj;have:cs[off]=y:=by
    have:=(List.getElem?_eq_some_iff.1 hy).2;simpa using this
   rw[this];exact hr
 ·refine⟨.agg (cs.extract off (off+ti.size)),?_,fun WZ vg=>?_⟩
  ·simp[kb hT ht,hA,hs]
  ·rw[ht]at vg;cases vg
   simp only[hA,if_true];refine⟨_,rfl,?_⟩;have:(cs.extract off (off+ti.size)).toList=(cs.toList.drop off).take ti.size:=by simp[List.extract_eq_take_drop]
   rw[this];exact aS.take _ (aS.drop off hx)
theorem uQ(hT:bl P T){eq:TypeId->List D->List D->Option Bool}{N:Nat}
  (heq:∀ (t:TypeId) (xs ys:List D) (r:Bool),eq t xs ys=some r ->
   P.eqGuardType N t=false /\ ∀ (x y:Value),nH T F w t xs x->nH T F w t ys y->(Op.equalIn N t x y).run P w = .ok r w) :
  ∀ (fs : List Field), (∀ f ∈ fs, (f.name == "_") = false) -> ∀ (xs ys : List D) (r : Bool), Gx T eq (fs.map fun f => (f.offset, f.type)) xs ys = some r ->
  (∀ f∈fs,P.eqGuardType N f.type=false) /\ ∀ (lx ly:Array Value),aS F w xs lx.toList->aS F w ys ly.toList->(Op.eqFields N lx ly fs).run P w = .ok r w
 | [],_,xs,ys,r,h=>by
  simp only[List.map_nil,Gx,Option.some.injEq]at h;subst h;exact⟨by simp,fun _ _ _ _=>by simp[Op.eqFields]⟩
 | f::fs,vd,xs,ys,r,h=>by
  simp only[List.map_cons,Gx]at h;split at h
  ·cases h
  rename_i ti fk;split at h;case h_2=>cases h
  rename_i nZ BY Hq;have nZ:ti.size≠0:=by intro e;rw[e]at nZ;simp at nZ
  have BY:=lO BY;have Hq:=lO Hq;split at h
  ·rename_i b c hb sj
   cases h;have h1:=heq f.type _ _ b hb;have h2:=uQ hT heq fs (fun g hg=>vd g (List.mem_cons_of_mem _ hg)) xs ys c sj;refine⟨fun g hg=>?_,fun lx ly qE sn=>?_⟩
   ·rcases List.mem_cons.1 hg with rfl|hg
    ·exact h1.1
    ·exact h2.1 g hg
   ·obtain⟨x,hx,Jy⟩:=js (F:=F) (w:=w) hT fk qE BY (by omega)
    obtain⟨y,hy,Jz⟩:=js (F:=F) (w:=w) hT fk sn Hq (by omega)
    have SD : f.name ≠ "_" := by
     have:=vd f (List.mem_cons_self ..);simpa using this
    simp only[Op.eqFields,SD,ne_eq,not_false_eq_true,if_true,Sem.run_bind,hx,hy,Result.andThen_ok,h1.2 x y Jy Jz];cases b
    ·simp
    ·simp[h2.2 lx ly qE sn]
  ·cases h
theorem uR(hT:bl P T){e:TypeId}{ei:pF}(iF:T.get e=some ei)(h0:0<ei.size){eq:List D->List D->Option Bool}{N:Nat}
  (heq:∀ (xs ys:List D) (r:Bool),eq xs ys=some r->P.eqGuardType N e=false /\ ∀ (x y:Value),nH T F w e xs x->nH T F w e ys y->(Op.equalIn N e x y).run P w = .ok r w) :
  ∀ (n i:Nat) (xs ys:List D) (r:Bool) (lx ly:Array Value),aS F w xs lx.toList->aS F w ys ly.toList->EB eq ei.size n (xs.drop (i*ei.size)) (ys.drop (i*ei.size))=some r ->
   (Op.eqItems N e ei.size lx ly (List.range' i n)).run P w = .ok r w
 | 0,i,xs,ys,r,lx,ly,qE,sn,h=>by
  simp only[EB,Option.some.injEq]at h;subst h;simp[Op.eqItems]
 | n+1,i,xs,ys,r,lx,ly,qE,sn,h=>by
  simp only[EB]at h;split at h;case h_2=>cases h
  rename_i BY Hq;have BY:=lO BY;have Hq:=lO Hq;split at h;case h_2=>cases h
  rename_i a b ha hb;cases h;rw[List.length_drop]at BY Hq;obtain⟨x,hx,Jy⟩:=js (F:=F) (w:=w) hT iF qE (off:=i*ei.size) (by omega) h0;obtain⟨y,hy,Jz⟩:=js (F:=F) (w:=w) hT iF sn (off:=i*ei.size) (by omega) h0;have h1:=(heq _ _ _ ha).2 x y Jy Jz;have h2:=uR hT iF h0 heq n (i+1) xs ys b lx ly qE sn (by
   have e1:(i+1)*ei.size=i*ei.size+ei.size:=Nat.succ_mul _ _;rw[e1,<- List.drop_drop,<- List.drop_drop];exact hb)
  simp only[List.range'_succ,Op.eqItems,Sem.run_bind,hx,hy,Result.andThen_ok,h1];cases a
  ·simp
  ·simp[h2]
theorem sb(hT:bl P T):∀ (d:Nat) (t:TypeId) (xs ys:List D) (r:Bool),IS T d t xs ys=some r -> ∀ (N:Nat),d<=N ->
  P.eqGuardType N t=false /\ ∀ (x y:Value),nH T F w t xs x->nH T F w t ys y->(Op.equalIn N t x y).run P w = .ok r w
 | 0,_,_,_,_,h,_,_=>by simp[IS]at h
 | d+1,t,xs,ys,r,h,0,hN=>by omega
 | d+1,t,xs,ys,r,h,N+1,hN=>by
  simp only[IS]at h;split at h
  ·cases h
  rename_i ti fk;obtain⟨i,de,hi,fB,_,_,dw,nB,Re,_⟩:=hT t ti fk;split at h
  ·rename_i hk
   have e:=oV (dw▸hk);subst e;split at h
   ·rename_i b c;cases h
    refine⟨by simp[Program.eqGuardType,fB],fun x y hx hy=>?_⟩;have j9:=hx ti fk;have mH:=hy ti fk;rw[nB]at j9 mH;have ex:x = .bool b:=j9 _ rfl;have ey:y = .bool c:=mH _ rfl;subst ex ey;exact run_equalIn_bool' w N t b c fB
   ·cases h
  ·rename_i k hk
   have e:=lX (dw▸hk);subst e;split at h
   ·rename_i k1 b k2 c
    split at h
    ·rename_i sk;have sk:=of_decide_eq_true sk;subst sk;cases h
     refine⟨by simp[Program.eqGuardType,fB],fun x y hx hy=>?_⟩;have j9:=hx ti fk;have mH:=hy ti fk;rw[nB]at j9 mH;have ex:x = .int k1 b:=j9 _ rfl;have ey:y = .int k1 c:=mH _ rfl;subst ex ey;exact run_equalIn_int w N t k1 k b c fB
    ·cases h
   ·cases h
  ·rename_i hk
   have e:=im (dw▸hk);subst e;split at h
   ·rename_i b c;cases h
    refine⟨by simp[Program.eqGuardType,fB],fun x y hx hy=>?_⟩;have j9:=hx ti fk;have mH:=hy ti fk;rw[nB]at j9 mH;have ex:x = .string b:=j9 _ rfl;have ey:y = .string c:=mH _ rfl;subst ex ey;rw[run_equalIn_string w N t b c fB,yP]
   ·cases h
  ·rename_i fs hk
   obtain⟨fa,rfl,rfl,vd⟩:=gR (dw▸hk);split at h
   ·cases h
   rename_i G2;have Cl:P.stoodInHeld t=false:=(Re G2).1;have hF:=uQ (P:=P) (F:=F) (w:=w) hT (fun t xs ys r h=>sb hT d t xs ys r h N (by omega)) fa.toList vd xs ys r h;refine⟨?_,fun x y hx hy=>?_⟩
   ·simp only[Program.eqGuardType,fB]
    rw[Array.any_eq_false'];intro f hf;have:=hF.1 f (by simpa using hf);simp[this]
   ·have j9:=hx ti fk;have mH:=hy ti fk
    rw[nB]at j9 mH;simp only[qM,if_true]at j9 mH;obtain⟨lx,rfl,qE⟩:=j9;obtain⟨ly,rfl,sn⟩:=mH;have uf:P.fieldsOf t=fa:=by simp[Program.fieldsOf,fB]
    rw[run_equalIn_struct w N t lx ly (by rw[uf];exact fB) Cl,uf];exact hF.2 lx ly qE sn
  ·rename_i n e hk
   have e':=ek (dw▸hk);subst e';split at h;case h_2=>cases h
   rename_i ei iF;split at h;case h_2=>cases h
   rename_i cY nZ;have cY:ei.size≠0:=by intro e;rw[e]at cY;simp at cY
   obtain⟨ie,_,g8,_,ea,_⟩:=hT e ei iF;have Q3:P.cellsOf e=ei.size:=by simp[Program.cellsOf,g8,ea]
   have heq:=fun xs ys r h=>sb (xs:=xs) (ys:=ys) (r:=r) hT d e h N (by omega);have hI:=uR (P:=P) (F:=F) (w:=w) (T:=T) hT iF (Nat.pos_of_ne_zero cY) (N:=N) (eq:=fun xs ys=>IS T d e xs ys) (fun xs ys r h=>heq xs ys r h);refine⟨?_,fun x y hx hy=>?_⟩
   ·simp only[Program.eqGuardType,fB]
    cases n with
    | zero=>simp at nZ
    | succ n=>
     simp only[EB]at h;split at h;case h_2=>cases h
     split at h;case h_2=>cases h
     rename_i a b ha _;exact(heq _ _ _ ha).1
   ·have j9:=hx ti fk;have mH:=hy ti fk
    rw[nB]at j9 mH;simp only[qM,if_true]at j9 mH;obtain⟨lx,rfl,qE⟩:=j9;obtain⟨ly,rfl,sn⟩:=mH;rw[run_equalIn_array w N lx ly fB g8,Q3,List.range_eq_range'];exact hI n 0 xs ys r lx ly qE sn (by simpa using h)
  ·cases h
theorem Gu:9<=P.depth:=by unfold Program.depth Made.depth;omega
theorem lA{op:BinOp}{t:TypeId}{x y:Operand}{u v:Value}(h:∀ l,u ≠ .agg l)(h2:u ≠ .nilIface):(eqGuard op t x y u v).run P w = .ok () w:=by
 have key:∀ (m1:Sem Unit) (m2:Sem Unit),(match u,v with
   | .nilIface,.nilIface=>m1
   | .agg _,.agg _=>m2
   | _,_=>pure ()).run P w = .ok () w:=by
  intro m1 m2;cases u<;>first|exact absurd rfl h2|exact absurd rfl (h _)|(cases v<;>rfl)
 unfold eqGuard;cases op<;>first|(simp;done)|skip
 ·exact key _ _
 ·exact key _ _
end
theorem A0{P:Program}{T:dV}(hT:bl P T){t:TypeId}(h:isBool T t=true):P.underlying t=some .bool:=by
 unfold isBool at h;split at h
 ·rename_i ti fk
  split at h
  ·rename_i hk
   obtain⟨i,de,hi,fB,_,_,dw,_⟩:=hT t ti fk;rw[hk]at dw;rw[fB,oV dw.symm]
  ·cases h
 ·cases h
theorem Cw{T:dV}{t:TypeId}(h:rl T t=true):∃ ti,T.get t=some ti/\((∃ fs,ti.kd = .struct fs) \/ ∃ n e,ti.kd = .array n e):=by
 unfold rl at h;split at h
 ·rename_i ti fk
  split at h
  ·rename_i fs hk;exact⟨ti,fk,.inl ⟨fs,hk⟩⟩
  ·rename_i n e hk;exact⟨ti,fk,.inr ⟨n,e,hk⟩⟩
  ·cases h
 ·cases h
theorem Dw{x:Option Bool}{K:V->Prop}(h:Dv x K):∃ b,x=some b/\K (.d (.bool b)):=by
 unfold Dv at h;split at h
 ·exact⟨_,rfl,h⟩
 ·exact h.elim
theorem Nd{x:Option Bool}{b:Bool}(h:Nc x=some b):∃ c,x=some c/\b = !c:=by
 unfold Nc at h;split at h
 ·cases h;exact⟨_,rfl,rfl⟩
 ·cases h
section
variable {P : Program} {T : dV} {e : Env} {h : aq} {dst : Option Nat} {K : List Wr -> Prop} {ty : TypeId} {pos : String} {after : Array Edge} {guard : Option (Nat × Bool)}
theorem E2(hT:bl P T){t:TypeId}(h:isIface T t=true):∃ ms,P.underlying t=some (.interface ms):=by
 unfold isIface at h;split at h;case h_2=>cases h
 rename_i ti ht;split at h;case h_2=>cases h
 rename_i he;obtain⟨_,de,_,fB,_,_,dC,_⟩:=hT t ti ht;rw[he]at dC;obtain⟨ms,rfl⟩:=vp dC.symm;exact⟨ms,fB⟩
theorem HM(hT:bl P T){op:BinOp}{t t':TypeId}{x y:Operand}{u v:V}(hu:aH e x=some u)(hv:aH e y=some v)(hk:Ls T op t u v fun v=>K (aO dst v)):∃ ws,K ws/\Out P e h ⟨dst,.binOp op t x y t',ty,pos,after,guard⟩ ws:=by
 have fin:∀ (d:D) (hd:K (aO dst (.d d))),(∀ {σ:Type} (cx:Cx σ) (r:Option Nat) (m:List Nat) (L:Loc) (F:Nat->Nat) (st:St σ) (a:Act) (w:World),cN e st.env->Good cx r m L F st a w ->
   ∃ s,(eqGuard op t x y (a.eval x) (a.eval y)).run P w = .ok () w/\(binOp op t (a.eval x) (a.eval y)).run P w = .ok s w/\bD F w d s) -> ∃ ws,K ws/\Out P e h ⟨dst,.binOp op t x y t',ty,pos,after,guard⟩ ws:=by
  intro d hd hr;refine⟨_,hd,bj (v:=.d d) (o:=⟨dst,.binOp op t x y t',ty,pos,after,guard⟩) fun cx r m L F st a w he hh hg=>?_⟩;obtain⟨s,h1,h2,h3⟩:=hr cx r m L F st a w he hg;exact⟨s,by simp[execOp,h1,h2],h3⟩
 unfold Ls at hk;split at hk
 ·rename_i k b k' c
  have ints:∀ {σ:Type} (cx:Cx σ) (r:Option Nat) (m:List Nat) (L:Loc) (F:Nat->Nat) (st:St σ) (a:Act) (w:World),cN e st.env->Good cx r m L F st a w ->
    a.eval x = .int k b/\a.eval y = .int k' c/\(eqGuard op t x y (a.eval x) (a.eval y)).run P w = .ok () w:=by
   intro σ cx r m L F st a w he hg;have hx:=ic hg he hu;have hy:=ic hg he hv;exact⟨hx,hy,by rw[hx,hy];exact lA (fun l e=>by cases e) (fun e=>by cases e)⟩
  split at hk
  ·obtain⟨hc,hk⟩:=bA hk
   have hc:0<=c:=of_decide_eq_true hc;refine fin _ (mn hk) fun cx r m L F st a w he hg=>?_;obtain⟨hx,hy,h1⟩:=ints cx r m L F st a w he hg;exact⟨_,h1,by rw[hx,hy];simp[binOp,Op.shift,show ¬ c<0 by omega],rfl⟩
  ·obtain⟨hc,hk⟩:=bA hk
   have hc:0<=c:=of_decide_eq_true hc;refine fin _ hk fun cx r m L F st a w he hg=>?_;obtain⟨hx,hy,h1⟩:=ints cx r m L F st a w he hg;exact⟨_,h1,by rw[hx,hy];simp[binOp,Op.shift,show ¬ c<0 by omega],rfl⟩
  ·split at hk
   case h_2=>exact hk.elim
   rename_i sk;have sk:=of_decide_eq_true sk;subst sk;have:∃ d,K (aO dst (.d d)) /\ ∀ F w,∃ s,((binOp op t (.int k b) (.int k c)).run P w = .ok s w)/\bD F w d s:=by
    clear ints fin;cases op<;>simp only[RO]at hk
    case add=>exact⟨_,mn hk,fun F w=>⟨_,by simp[binOp,Op.intArith],rfl⟩⟩
    case sub=>exact⟨_,mn hk,fun F w=>⟨_,by simp[binOp,Op.intArith],rfl⟩⟩
    case mul=>exact⟨_,mn hk,fun F w=>⟨_,by simp[binOp,Op.intArith],rfl⟩⟩
    case quo=>
     obtain⟨hc,hb⟩:=bA hk;have hc:c≠0:=of_decide_eq_true hc;exact⟨_,mn hb,fun F w=>⟨_,by simp[binOp,Op.intDiv,hc],rfl⟩⟩
    case rem=>
     obtain⟨hc,hb⟩:=bA hk;have hc:c≠0:=of_decide_eq_true hc;exact⟨_,hb,fun F w=>⟨_,by simp[binOp,Op.intDiv,hc],rfl⟩⟩
    case eql=>exact⟨_,hk,fun F w=>⟨.bool (decide (b=c)),by simp[binOp,Op.intCmp,DV],rfl⟩⟩
    case neq=>exact⟨_,hk,fun F w=>⟨.bool (!decide (b=c)),by simp[binOp,Op.intCmp,bne,DV],rfl⟩⟩
    case lss=>exact⟨_,hk,fun F w=>⟨_,by simp[binOp,Op.intCmp],rfl⟩⟩
    case leq=>exact⟨_,hk,fun F w=>⟨_,by simp[binOp,Op.intCmp],rfl⟩⟩
    case gtr=>exact⟨_,hk,fun F w=>⟨_,by simp[binOp,Op.intCmp],rfl⟩⟩
    case geq=>exact⟨_,hk,fun F w=>⟨_,by simp[binOp,Op.intCmp],rfl⟩⟩
    case and=>exact⟨_,hk,fun F w=>⟨_,by simp[binOp,Op.intBits,er],rfl⟩⟩
    case or=>exact⟨_,hk,fun F w=>⟨_,by simp[binOp,Op.intBits,er],rfl⟩⟩
    case xor=>exact⟨_,hk,fun F w=>⟨_,by simp[binOp,Op.intBits,er],rfl⟩⟩
    case andNot=>exact⟨_,hk,fun F w=>⟨_,by simp[binOp,Op.intBits,er],rfl⟩⟩
    all_goals exact hk.elim
   obtain⟨d,hd,bt⟩:=this;refine fin d hd fun cx r m L F st a w he hg=>?_;obtain⟨hx,hy,h1⟩:=ints cx r m L F st a w he hg;obtain⟨s,h2,h3⟩:=bt F w;exact⟨s,h1,by rw[hx,hy];exact h2,h3⟩
 ·rename_i b c
  have Kw:∀ {σ:Type} (cx:Cx σ) (r:Option Nat) (m:List Nat) (L:Loc) (F:Nat->Nat) (st:St σ) (a:Act) (w:World),cN e st.env->Good cx r m L F st a w ->
    a.eval x = .bool b/\a.eval y = .bool c/\(eqGuard op t x y (a.eval x) (a.eval y)).run P w = .ok () w:=by
   intro σ cx r m L F st a w he hg;have hx:=oQ hg he hu;have hy:=oQ hg he hv;exact⟨hx,hy,by rw[hx,hy];exact lA (fun l e=>by cases e) (fun e=>by cases e)⟩
  split at hk
  ·rename_i hb
   have fB:=A0 hT hb;refine fin _ hk fun cx r m L F st a w he hg=>?_;obtain⟨hx,hy,h1⟩:=Kw cx r m L F st a w he hg;exact⟨_,h1,by rw[hx,hy];exact run_eql_bool w t b c fB,rfl⟩
  ·rename_i hb
   have fB:=A0 hT hb;refine fin _ hk fun cx r m L F st a w he hg=>?_;obtain⟨hx,hy,h1⟩:=Kw cx r m L F st a w he hg;exact⟨_,h1,by rw[hx,hy];exact run_neq_bool w t b c fB,rfl⟩
  ·exact hk.elim
 ·rename_i b c
  have strs:∀ {σ:Type} (cx:Cx σ) (r:Option Nat) (m:List Nat) (L:Loc) (F:Nat->Nat) (st:St σ) (a:Act) (w:World),cN e st.env->Good cx r m L F st a w ->
    a.eval x = .string b/\a.eval y = .string c/\(eqGuard op t x y (a.eval x) (a.eval y)).run P w = .ok () w:=by
   intro σ cx r m L F st a w he hg;have hx:=km hg he hu;have hy:=km hg he hv;exact⟨hx,hy,by rw[hx,hy];exact lA (fun l e=>by cases e) (fun e=>by cases e)⟩
  split at hk
  ·refine fin _ hk fun cx r m L F st a w he hg=>?_
   obtain⟨hx,hy,h1⟩:=strs cx r m L F st a w he hg;exact⟨.bool (decide (b=c)),h1,by rw[hx,hy];simpa[binOp]using zL b c,rfl⟩
  ·refine fin _ hk fun cx r m L F st a w he hg=>?_
   obtain⟨hx,hy,h1⟩:=strs cx r m L F st a w he hg;exact⟨.bool (!decide (b=c)),h1,by rw[hx,hy];simpa[binOp]using zM b c,rfl⟩
  ·obtain⟨cY,hk⟩:=bA hk
   have cY:=of_decide_eq_true cY;refine fin _ hk fun cx r m L F st a w he hg=>?_;obtain⟨hx,hy,h1⟩:=strs cx r m L F st a w he hg;refine⟨.string (b++c),h1,?_,rfl⟩;have Wb:IntKind.i64.max=9223372036854775807:=rfl;have Jw:¬ (((b.size+c.size:Nat):Int)>9223372036854775807):=by omega
   rw[hx,hy];show(Op.stringOp .add b c).run P w=_;simp only[Op.stringOp,Wb];rw[if_neg Jw];rfl
  ·exact hk.elim
 ·rename_i xs ys
  have key:∀ (b:Bool) (hs:rl T t=true) (NB:IS T 9 t xs ys=some b) {σ:Type} (cx:Cx σ) (r:Option Nat) (m:List Nat) (L:Loc) (F:Nat->Nat) (st:St σ) (a:Act) (w:World),cN e st.env->Good cx r m L F st a w ->
    ∃ lx ly,a.eval x = .agg lx/\a.eval y = .agg ly/\(eqGuard op t x y (a.eval x) (a.eval y)).run P w = .ok () w/\(Op.equal t (a.eval x) (a.eval y)).run P w = .ok b w:=by
   intro b hs NB σ cx r m L F st a w he hg;obtain⟨lx,hx,qE⟩:=hg.aH (ax he hu);obtain⟨ly,hy,sn⟩:=hg.aH (ax he hv);have h9:=sb (P:=P) (F:=F) (w:=w) hT 9 t xs ys b NB;have Sw:=(h9 P.depth Gu).1;obtain⟨ti,fk,G5⟩:=Cw hs;obtain⟨i,de,hi,fB,_,_,dw,nB,_⟩:=hT t ti fk;have nB:ti.isAgg=true:=by
    rw[nB];rcases G5 with⟨fs,G5⟩|⟨n,e,G5⟩
    ·rw[G5]at dw
     obtain⟨fa,Y3,_⟩:=gR dw.symm;subst Y3;rfl
    ·rw[G5]at dw
     have:=ek dw.symm;subst this;rfl
   have tP:∀ (zs:List D) (l:Array Value),aS F w zs l.toList->nH T F w t zs (.agg l):=fun zs l hl WZ vg=>by
    rw[fk]at vg;cases vg;rw[nB];exact⟨l,rfl,hl⟩
   refine⟨lx,ly,hx,hy,?_,?_⟩
   ·rw[hx,hy]
    unfold eqGuard;cases op<;>simp[Sw]
   ·rw[hx,hy]
    exact(h9 Op.maxDepth (by decide)).2 _ _ (tP _ _ qE) (tP _ _ sn)
  split at hk
  ·rename_i hs
   obtain⟨b,NB,hk⟩:=Dw hk;refine fin _ hk fun cx r m L F st a w he hg=>?_;obtain⟨lx,ly,hx,hy,h1,h2⟩:=key b hs NB cx r m L F st a w he hg;refine⟨.bool b,h1,?_,rfl⟩;rw[hx,hy]at h2 ⊢;simp[binOp,h2]
  ·rename_i hs
   obtain⟨b,NB,hk⟩:=Dw hk;obtain⟨c,VI,rfl⟩:=Nd NB;refine fin _ hk fun cx r m L F st a w he hg=>?_;obtain⟨lx,ly,hx,hy,h1,h2⟩:=key c hs VI cx r m L F st a w he hg;refine⟨.bool !c,h1,?_,rfl⟩;rw[hx,hy]at h2 ⊢;simp[binOp,h2]
  ·exact hk.elim
 ·exact hk.elim
theorem Bq(hT:bl P T){op:BinOp}{t t':TypeId}{x y:Operand}{u:D}{b:Bool}(hu:aH e x=some (.d u))(hb:(u = .nili/\b=true)\/(∃ t v,u = .ifc t v)/\b=false)(zj:Cv y=true)(hk:D3 T op t b fun v=>K (aO dst v)) :
  ∃ ws,K ws/\Out P e h ⟨dst,.binOp op t x y t',ty,pos,after,guard⟩ ws:=by
 have hy:y = .const .nilIface:=by
  unfold Cv at zj;split at zj
  ·rfl
  ·cases zj
 subst hy;have key:isIface T t=true -> ∀ {σ:Type} (cx:Cx σ) (r:Option Nat) (m:List Nat) (L:Loc) (F:Nat->Nat) (st:St σ) (a:Act) (w:World),cN e st.env->Good cx r m L F st a w ->
   (eqGuard op t x (.const .nilIface) (a.eval x) .nilIface).run P w = .ok () w/\(Op.equal t (a.eval x) .nilIface).run P w = .ok b w/\((∃ t v,a.eval x = .iface t v)\/a.eval x = .nilIface):=by
  intro Mz σ cx r m L F st a w he hg;have hx:=hg.aH (ax he hu);obtain⟨ms,Wd⟩:=E2 hT Mz;have hE:∀ z,Op.equal t z .nilIface=Op.equalIn ((Op.maxDepth-1)+1) t z .nilIface:=fun _=>rfl;rw[hE];generalize Op.maxDepth-1=n;rcases hb with⟨rfl,rfl⟩|⟨⟨t1,v1,rfl⟩,rfl⟩
  ·have hx:a.eval x = .nilIface:=hx
   rw[hx];exact⟨by unfold eqGuard;cases op<;>simp,by simp only[Op.equalIn];simp[run_underlying Wd],.inr rfl⟩
  ·obtain⟨y1,hx,_⟩:=hx
   rw[hx];exact⟨by unfold eqGuard;cases op<;>simp,by simp only[Op.equalIn];simp[run_underlying Wd],.inl ⟨_,_,rfl⟩⟩
 have fin:∀ (c:Bool) (hd:K (aO dst (.d (.bool c)))) (_:isIface T t=true) (_:∀ (z:Value) (w:World),((∃ t v,z = .iface t v)\/z = .nilIface)->(Op.equal t z .nilIface).run P w = .ok b w->(binOp op t z .nilIface).run P w = .ok (.bool c) w),
   ∃ ws,K ws/\Out P e h ⟨dst,.binOp op t x (.const .nilIface) t',ty,pos,after,guard⟩ ws:=by
  intro c hd Mz hr;refine⟨_,hd,bj (v:=.d (.bool c)) (o:=⟨dst,.binOp op t x (.const .nilIface) t',ty,pos,after,guard⟩) fun cx r m L F st a w he hh hg=>?_⟩;obtain⟨h1,h2,h3⟩:=key Mz cx r m L F st a w he hg;have h4:=hr _ w h3 h2;have hc:a.eval (.const .nilIface) = .nilIface:=rfl;exact⟨_,by simp[execOp,hc,h1,h4],rfl⟩
 unfold D3 at hk;split at hk
 ·rename_i Mz
  refine fin b hk Mz fun z w hz h2=>?_;rcases hz with⟨t1,v1,rfl⟩|rfl<;>simp[binOp,h2]
 ·rename_i Mz
  refine fin (!b) hk Mz fun z w hz h2=>?_;rcases hz with⟨t1,v1,rfl⟩|rfl<;>simp[binOp,h2]
 ·exact hk.elim
theorem Fh(hT:bl P T){op:BinOp}{t t':TypeId}{x y:Operand}(hk:fK T e h dst (.binOp op t x y t') K):∃ ws,K ws/\Out P e h ⟨dst,.binOp op t x y t',ty,pos,after,guard⟩ ws:=by
 simp only[fK]at hk;split at hk;case h_2=>exact hk.elim
 rename_i u v hu hv;split at hk
 ·rename_i hn
  exact Bq hT hu (.inl ⟨rfl,rfl⟩) hn hk
 ·rename_i hn
  exact Bq hT hu (.inr ⟨⟨_,_,rfl⟩,rfl⟩) hn hk
 ·exact HM hT hu hv hk
end
end Go.PX
